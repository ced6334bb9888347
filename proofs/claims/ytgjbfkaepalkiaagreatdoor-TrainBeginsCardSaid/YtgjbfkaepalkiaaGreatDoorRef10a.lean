/-
  cortegeref10: May, Same.
-/
import Derived.Test.YtgjbfkaepalkiaaGreatDoorGreat
import Derived.Test.YtgjbfkaepalkiaaGreatDoorRefM
import Derived.Test.YtgjbfkaepalkiaaGreatDoorLaw0
namespace Go.Proofs.YtgjbfkaepalkiaaGreatDoor
open Go.RowKit
set_option linter.unusedVariables false
set_option linter.unusedSimpArgs false
attribute [local go_sem] Oper.semAt_some

set_option maxHeartbeats 2000000 in
theorem refMayC_calls (s : KS) (c : Cm) (S : Fp) (w : World) (hR : RdC S w s c) (hy : ∀ y ∈ c.tree, y.path.size ≤ 1000000) :
    Calls Tryz.prog 86 #[s.val] w (SamePost w (mayC c)) := by
  have hM := fun W (hW : Ext w W) => refMay_calls s.t.val c.tree S W (hR.ext hW).t hy
  have hv : mayC c = (mayB c.tree && (decide (c.parents.length ≤ 2) && (!(decide (c.parents.length = 2) && decide (c.parents[0]? = c.parents[1]?)) && decide (c.note.size ≤ 60)))) := rfl
  have hcell : c.parents.length = 2 → ∃ x y bb off, c.parents[0]? = some x ∧ c.parents[1]? = some y ∧ s.p.a = some ⟨bb, off, none⟩ ∧ bb < w.heap.size ∧ w.cell? ⟨bb, off, none⟩ = some (.int .i64 x) ∧ w.cell? ⟨bb, off + 1, none⟩ = some (.int .i64 y) := by
    intro h2
    obtain ⟨A, a, B, b, hs, hA, hB⟩ := hR.open_
    obtain ⟨bb, off, he, _, hl, c0⟩ := hA.rd.num (i := 0) (by omega)
    obtain ⟨b2, o2, he2, _, _, c1⟩ := hA.rd.num (i := 1) (by omega)
    rw [he] at he2
    injection he2 with he2
    injection he2 with e1 e2
    subst e1 e2
    exact ⟨_, _, bb, off, List.getElem?_eq_getElem (by omega), List.getElem?_eq_getElem (by omega), by rw [hs]; exact he, hl, c0, c1⟩
  obtain ⟨A, a, B, b, rfl, hA, hB⟩ := hR.open_
  have hal := hA.len
  have hale := hA.le
  have hamx := hA.max
  dsimp only [SliceV.val] at hM
  dsimp only at hcell
  show Calls _ _ #[.agg #[.slice A c.parents.length a, .slice B c.tree.length b, .string c.note]] w _
  obtain ⟨n, hn⟩ : ∃ n, c.parents.length = n := ⟨_, rfl⟩
  obtain ⟨m, hm⟩ : ∃ m, c.tree.length = m := ⟨_, rfl⟩
  obtain ⟨nt, hnt⟩ : ∃ m, c.note = m := ⟨_, rfl⟩
  obtain ⟨q, hq⟩ : ∃ q, mayC c = q := ⟨_, rfl⟩
  rw [hq] at hv
  rw [hn, hnt] at hv
  rw [hn] at hcell hal hale
  rw [hm] at hM
  rw [hn, hm, hnt, hq]
  generalize mayB c.tree = b1 at hM hv
  have HM := Lib.hid hM
  have HV := Lib.hid hv
  have HC := Lib.hid hcell
  clear hM hA hB hR hn hm hnt hq hv hcell hy
  go_enter Tryz.func86, Tryz.ntmps86
  go_wp2_with fail
  refine wp_region_seq_quiet 4 (by kernel_rfl) (by kernel_rfl) (by decide) fun K HK => ?_
  simp only [List.take_succ_cons, List.take_zero, List.drop_succ_cons, List.drop_zero] at HK ⊢
  change wpList _ _ _ _ _ (World.drew _)
  go_wp2_with fail
  refine (HM.out _ ((Kp.refl _ w).alloc _).drew).mono ?_
  rintro e w1 ⟨rfl, hx1⟩
  clear HM
  have hx : Ext w w1 := ((Kp.refl _ w).alloc _).drew.trans hx1
  have hb1 : Blk w1 w.heap.size 42 #[.slice A n a, .slice B m b, .string nt] := (((Blk.new w 42 #[.slice A n a, .slice B m b, .string nt])).ext ((Kp.refl _ _).drew)).ext hx1
  have b0 : w1.cell? ⟨w.heap.size, 0, none⟩ = some (.slice A n a) := hb1.cell 0
  have b1' : w1.cell? ⟨w.heap.size, 1, none⟩ = some (.slice B m b) := hb1.cell 1
  have b2 : w1.cell? ⟨w.heap.size, 2, none⟩ = some (.string nt) := hb1.cell 2
  clear hx1 hb1
  cases b1 with
  | false =>
    go_wp2_with fail
    refine HK.out _ _ ?_
    clear HK
    repeat (go_big_quiet_step (fail))
    refine wpQuiet_nil ?_
    rintro _ ⟨nq, rfl⟩
    go_wp2_with fail
    go_ret
    exact ⟨by rw [HV.out]; rfl, hx.drewN _⟩
  | true =>
    by_cases h1 : n ≤ 2
    · have hd1 : decide ((n : Int) ≤ 2) = true := decide_eq_true (by omega)
      by_cases h2 : n = 2
      · have hd2 : decide ((n : Int) < 2) = false := decide_eq_false (by omega)
        obtain ⟨x, y, bb, off, hx0, hy0, hAe, hbl, c0, c1⟩ := HC.out h2
        subst hAe
        have d0 : w1.cell? ⟨bb, off, none⟩ = some (.int .i64 x) := (hx.cell (p := ⟨bb, off, none⟩) hbl trivial).trans c0
        have d1 : w1.cell? ⟨bb, off + 1, none⟩ = some (.int .i64 y) := (hx.cell (p := ⟨bb, off + 1, none⟩) hbl trivial).trans c1
        have hn0 : (0 : Int) < (n : Int) := by omega
        have hn1 : (1 : Int) < (n : Int) := by omega
        have HXY := Lib.hid (And.intro hx0 hy0)
        clear hx0 hy0 c0 c1 HC
        by_cases h3 : x = y
        · have hd3 : (x == y) = true := by rw [beq_iff_eq]; exact h3
          have hd3' : (x != y) = false := by rw [h3]; simp
          go_wp2_with fail
          refine HK.out _ _ ?_
          clear HK
          repeat (go_big_quiet_step (fail))
          refine wpQuiet_nil ?_
          rintro _ ⟨nq, rfl⟩
          go_wp2_with fail
          go_ret
          exact ⟨by rw [HV.out]; rw [HXY.out.1, HXY.out.2, h3, decide_eq_true h2]; simp, hx.drewN _⟩
        · have hd3 : (x == y) = false := by rw [beq_eq_false_iff_ne]; exact h3
          have hd3' : (x != y) = true := by simpa using h3
          have hne : decide (some x = some y) = false := decide_eq_false (fun h => h3 (by injection h))
          by_cases h4 : nt.size ≤ 60
          · have hd4 : decide ((nt.size : Int) ≤ 60) = true := decide_eq_true (by omega)
            go_wp2_with fail
            refine HK.out _ _ ?_
            clear HK
            repeat (go_big_quiet_step (fail))
            refine wpQuiet_nil ?_
            rintro _ ⟨nq, rfl⟩
            go_wp2_with fail
            go_ret
            exact ⟨by rw [HV.out]; rw [HXY.out.1, HXY.out.2, hne, decide_eq_true h1, decide_eq_true h4]; simp, hx.drewN _⟩
          · have hd4 : decide ((nt.size : Int) ≤ 60) = false := decide_eq_false (by omega)
            go_wp2_with fail
            refine HK.out _ _ ?_
            clear HK
            repeat (go_big_quiet_step (fail))
            refine wpQuiet_nil ?_
            rintro _ ⟨nq, rfl⟩
            go_wp2_with fail
            go_ret
            exact ⟨by rw [HV.out]; rw [decide_eq_false h4]; simp, hx.drewN _⟩
      · have hd2 : decide ((n : Int) < 2) = true := decide_eq_true (by omega)
        clear HC
        by_cases h4 : nt.size ≤ 60
        · have hd4 : decide ((nt.size : Int) ≤ 60) = true := decide_eq_true (by omega)
          go_wp2_with fail
          refine HK.out _ _ ?_
          clear HK
          repeat (go_big_quiet_step (fail))
          refine wpQuiet_nil ?_
          rintro _ ⟨nq, rfl⟩
          go_wp2_with fail
          go_ret
          exact ⟨by rw [HV.out]; rw [decide_eq_true h1, decide_eq_false h2, decide_eq_true h4]; simp, hx.drewN _⟩
        · have hd4 : decide ((nt.size : Int) ≤ 60) = false := decide_eq_false (by omega)
          go_wp2_with fail
          refine HK.out _ _ ?_
          clear HK
          repeat (go_big_quiet_step (fail))
          refine wpQuiet_nil ?_
          rintro _ ⟨nq, rfl⟩
          go_wp2_with fail
          go_ret
          exact ⟨by rw [HV.out]; rw [decide_eq_false h4]; simp, hx.drewN _⟩
    · have hd1 : decide ((n : Int) ≤ 2) = false := decide_eq_false (by omega)
      clear HC
      go_wp2_with fail
      refine HK.out _ _ ?_
      clear HK
      repeat (go_big_quiet_step (fail))
      refine wpQuiet_nil ?_
      rintro _ ⟨nq, rfl⟩
      go_wp2_with fail
      go_ret
      exact ⟨by rw [HV.out]; rw [decide_eq_false h1]; simp, hx.drewN _⟩

set_option maxHeartbeats 400000 in
theorem refSameF_calls (v u : Value) (xs ys : List File) (S T : Fp) (w : World) (hR : Rd EF S w v xs) (hR' : Rd EF T w u ys) :
    Calls Tryz.prog 157 #[v, u] w fun e w' => e = .returned (.bool (sameB xs ys)) ∧ Ext w w' := by
  obtain ⟨A, c, rfl, hO⟩ := hR.open_
  obtain ⟨A', c', rfl, hO'⟩ := hR'.open_
  have hlen := hO.len
  have hlen' := hO'.len
  clear hR hR'
  by_cases hn : xs.length = ys.length
  · have HO := Lib.hid hO
    have HO' := Lib.hid hO'
    have HN := Lib.hid hn
    obtain ⟨n, hxn⟩ : ∃ n, n = xs.length := ⟨_, rfl⟩
    have hyn : n = ys.length := hxn.trans hn
    have HX := Lib.hid hxn
    have HY := Lib.hid hyn
    rw [← hxn] at hlen ⊢
    rw [← hyn] at hlen' ⊢
    clear hO hO' hn hxn hyn
    go_enter Tryz.func157, Tryz.ntmps157
    go_wp2_with fail
    go_loopw [5] (fun i wr => ∃ k : Nat, k ≤ n ∧ i = .int .i64 k ∧ sameB xs ys = sameB (xs.drop k) (ys.drop k) ∧ Ext w wr) (fun i _ => n - (intOf i).toNat)
    case atStart => exact ⟨0, Nat.zero_le _, rfl, rfl, Kp.refl _ _⟩
    case round =>
      obtain ⟨k, hk, rfl, hs, hx⟩ := hrel
      rename_i wr
      by_cases hlt : k < n
      · have hd3 : decide ((k : Int) < (n : Int)) = true := decide_eq_true (by omega)
        have hkx : k < xs.length := by have := HX.out; omega
        have hky : k < ys.length := by have := HY.out; omega
        have hst := sameB_take HN.out hkx hky hs
        obtain ⟨f, hf⟩ : ∃ f, xs[k] = f := ⟨_, rfl⟩
        obtain ⟨g, hg⟩ : ∃ g, ys[k] = g := ⟨_, rfl⟩
        obtain ⟨b, off, rfl, _, hb, c0, c1⟩ := (HO.out.rd.kp (hx.mono fun _ _ _ => trivial)).file hkx
        obtain ⟨b', off', rfl, _, hb', d0, d1⟩ := (HO'.out.rd.kp (hx.mono fun _ _ _ => trivial)).file hky
        have hlt' : (k : Int) < (n : Int) := by omega
        have h0 : (0 : Int) ≤ (k : Int) := by omega
        have hw : IntKind.i64.wrap ((k : Int) + 1) = (k : Int) + 1 := IntWalk.i64_in _ (by omega)
        rw [hf] at c0 c1 hst
        rw [hg] at d0 d1 hst
        have heq := run_neq_file f g
        have hgd := fun (x y : Operand) (W : World) => run_eqGuard_agg (P := Tryz.prog) W .neq 39 x y #[.string f.path, .string f.data] #[.string g.path, .string g.data] (by kernel_rfl)
        have HS := Lib.hid hst
        have HK := Lib.hid hs
        clear hst hs hf hg hkx hky
        cases hfg : fileB f g with
        | true =>
          rw [hfg] at heq
          go_wp2_with fail
          go_quiet (fail)
          go_wp2_with fail
          go_roundw
          case rel => exact ⟨k + 1, by omega, by go_num, by rw [HS.out, hfg]; rfl, hx.drewN _⟩
          case measure => simp [intOf]; omega
        | false =>
          rw [hfg] at heq
          go_wp2_with fail
          go_quiet (fail)
          go_wp2_with fail
          go_ret
          exact ⟨by rw [HS.out, hfg]; rfl, hx.drewN _⟩
      · have hd3 : decide ((k : Int) < (n : Int)) = false := decide_eq_false (by omega)
        have hres : sameB xs ys = true := by
          rw [hs, List.drop_of_length_le (by have := HX.out; omega), List.drop_of_length_le (by have := HY.out; omega)]; rfl
        go_wp2_with fail
        go_ret
        exact ⟨by rw [hres]; rfl, hx⟩
  · have hd1 : ((xs.length : Int) == (ys.length : Int)) = false := by
      rw [beq_eq_false_iff_ne]; omega
    have hd2 : (xs.length == ys.length) = false := by rw [beq_eq_false_iff_ne]; exact hn
    have hd3 : ((xs.length : Int) != (ys.length : Int)) = true := by rw [bne, hd1]; rfl
    have hd4 : (xs.length != ys.length) = true := by rw [bne, hd2]; rfl
    have hres := sameB_len hn
    go_enter Tryz.func157, Tryz.ntmps157
    go_wp2_with fail
    go_ret
    exact ⟨by rw [hres]; rfl, Kp.refl _ _⟩

set_option maxHeartbeats 1000000 in
theorem refSameC_calls (s s' : KS) (c d : Cm) (S T : Fp) (w : World) (hR : RdC S w s c) (hR' : RdC T w s' d) :
    Calls Tryz.prog 127 #[s.val, s'.val] w (SamePost w (sameC c d)) := by
  have hI := fun W (hW : Ext w W) => refSameInts_calls s.p.val s'.p.val c.parents d.parents S T W (hR.ext hW).p (hR'.ext hW).p
  have hF := fun W (hW : Ext w W) => refSameF_calls s.t.val s'.t.val c.tree d.tree S T W (hR.ext hW).t (hR'.ext hW).t
  have hv : sameC c d = (decide (c.parents = d.parents) && (sameB c.tree d.tree && (c.note.toList == d.note.toList))) := rfl
  obtain ⟨A, a, B, b, rfl, hA, hB⟩ := hR.open_
  obtain ⟨A', a', B', b', rfl, hA', hB'⟩ := hR'.open_
  dsimp only [SliceV.val] at hI hF
  show Calls _ _ #[.agg #[.slice A c.parents.length a, .slice B c.tree.length b, .string c.note], .agg #[.slice A' d.parents.length a', .slice B' d.tree.length b', .string d.note]] w _
  obtain ⟨n, hn⟩ : ∃ n, c.parents.length = n := ⟨_, rfl⟩
  obtain ⟨m, hm⟩ : ∃ m, c.tree.length = m := ⟨_, rfl⟩
  obtain ⟨nt, hnt⟩ : ∃ m, c.note = m := ⟨_, rfl⟩
  obtain ⟨n', hn'⟩ : ∃ n, d.parents.length = n := ⟨_, rfl⟩
  obtain ⟨m', hm'⟩ : ∃ m, d.tree.length = m := ⟨_, rfl⟩
  obtain ⟨nt', hnt'⟩ : ∃ m, d.note = m := ⟨_, rfl⟩
  obtain ⟨q, hq⟩ : ∃ q, sameC c d = q := ⟨_, rfl⟩
  rw [hq] at hv
  rw [hn, hn'] at hI
  rw [hm, hm'] at hF
  rw [hnt, hnt'] at hv
  rw [hn, hm, hnt, hn', hm', hnt', hq]
  generalize decide (c.parents = d.parents) = b1 at hI hv
  generalize sameB c.tree d.tree = b2 at hF hv
  have HI := Lib.hid hI
  have HF := Lib.hid hF
  have HV := Lib.hid hv
  clear hI hF hA hB hR hA' hB' hR' hn hm hnt hn' hm' hnt' hq hv
  cases h3 : (nt.toList == nt'.toList) with
  | false =>
    have hr : q = false := by rw [HV.out, h3]; simp
    clear HI HF HV
    go_enter Tryz.func127, Tryz.ntmps127
    go_wp2_with fail
    go_ret
    exact ⟨by rw [hr]; rfl, ((Kp.refl _ w).alloc _).alloc _⟩
  | true =>
    have HV' := Lib.hid (show q = (b1 && b2) by rw [HV.out, h3]; simp)
    clear HV
    go_enter Tryz.func127, Tryz.ntmps127
    go_wp2_with fail
    refine (HI.out _ (by first | exact ((Kp.refl _ w).alloc _).alloc _)).mono ?_
    rintro e w1 ⟨rfl, hx1⟩
    clear HI
    have hx : Ext w w1 := (((Kp.refl _ w).alloc _).alloc _).trans hx1
    have hb1 := ((Blk.new w 42 #[.slice A n a, .slice B m b, .string nt]).ext ((Kp.refl _ _).alloc (.cells #[.slice A' n' a', .slice B' m' b', .string nt'] 42))).ext hx1
    have hb2 := (Blk.new (w.alloc (.cells #[.slice A n a, .slice B m b, .string nt] 42)) 42 #[.slice A' n' a', .slice B' m' b', .string nt']).ext hx1
    rw [World.size_alloc] at hb2
    have c1 : w1.cell? ⟨w.heap.size, 1, none⟩ = some (.slice B m b) := hb1.cell 1
    have d1 : w1.cell? ⟨w.heap.size + 1, 1, none⟩ = some (.slice B' m' b') := hb2.cell 1
    clear hx1 hb1 hb2
    cases b1 with
    | false =>
      go_wp2_with fail
      go_ret
      exact ⟨by rw [HV'.out]; rfl, hx⟩
    | true =>
      go_wp2_with fail
      refine (HF.out _ hx).mono ?_
      rintro e w2 ⟨rfl, hx2⟩
      go_wp2_with fail
      go_ret
      exact ⟨by rw [HV'.out]; simp, hx.trans hx2⟩

end Go.Proofs.YtgjbfkaepalkiaaGreatDoor
