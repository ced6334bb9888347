/-
  Plain: where conflicts stand; what the files are that come of two changes. cortegelaw9.JoinPaths.
-/
import Derived.Test.YtddooggkcdloeaaGreatDoorLaw9
import Derived.BigQuiet
namespace Go.Proofs.YtddooggkcdloeaaGreatDoor
open Go.RowKit
set_option linter.unusedVariables false
set_option linter.unusedSimpArgs false

theorem gathL_bad (m : Mrg) (oth : Fl → Fl) (o a b : List File) (ps : List ByteArray) : ∀ y ∈ (gathL m oth o a b ps).2, y ∈ ps := by
  refine snocInd (p := fun ps => ∀ y ∈ (gathL m oth o a b ps).2, y ∈ ps) (fun y hy => by cases hy) (fun l x ih => ?_) ps
  intro y hy
  rw [gathL_snoc] at hy
  unfold stepG at hy
  simp only [List.mem_append] at hy
  rcases hy with hy | hy
  · exact List.mem_append_left _ (ih y hy)
  · refine List.mem_append_right _ ?_
    split at hy
    · cases hy
    · exact hy
theorem underF_mem {t : List File} {y : ByteArray} (h : y ∈ underF t) : ∃ f ∈ t, f.path = y := by
  unfold underF at h
  obtain ⟨f, hf, e⟩ := List.mem_map.1 h
  exact ⟨f, (List.mem_filter.1 hf).1, e⟩
theorem joinOf_bad {m : Mrg} {o a b : List File} (h : may3 o a b = true) : StrictT (joinOf m o a b).2 ∧ ∀ y ∈ (joinOf m o a b).2, y = bStar ∨ y ∈ riseT (flatP [o, a, b]) := by
  rw [joinOf_true h]
  split
  · refine ⟨riseT_strict _, fun y hy => ?_⟩
    have hy2 := (riseT_mem _ _).1 hy
    unfold badF' at hy2
    simp only [List.mem_append] at hy2
    rcases hy2 with (hy2 | hy2) | hy2
    · exact .inr (gathL_bad _ _ _ _ _ _ y hy2)
    · obtain ⟨f, hf, rfl⟩ := underF_mem hy2
      exact .inr ((riseT_mem _ _).2 (gathF_path _ _ _ _ _ f hf))
    · split at hy2
      · exact .inl (List.mem_singleton.1 hy2)
      · cases hy2
  · exact ⟨List.Pairwise.nil, fun y hy => by cases hy⟩
/-- Every file that came of three trees came of one path. -/
theorem gathF_file (m : Mrg) (oth : Fl → Fl) (o a b : List File) : ∀ f ∈ (gathF m oth o a b).1, ∃ r : Fl, r = (if (joinF m (atF o f.path) (atF a f.path) (atF b f.path)).2 = true then (joinF m (atF o f.path) (atF a f.path) (atF b f.path)).1 else oth (atF o f.path)) ∧ r.is = true ∧ f.data = r.data := by
  unfold gathF
  refine snocInd (p := fun ps => ∀ f ∈ (gathL m oth o a b ps).1, ∃ r : Fl, r = (if (joinF m (atF o f.path) (atF a f.path) (atF b f.path)).2 = true then (joinF m (atF o f.path) (atF a f.path) (atF b f.path)).1 else oth (atF o f.path)) ∧ r.is = true ∧ f.data = r.data) (fun y hy => by cases hy) (fun l x ih => ?_) _
  intro f hf
  rw [gathL_snoc] at hf
  unfold stepG at hf
  simp only [List.mem_append] at hf
  rcases hf with hf | hf
  · exact ih f hf
  · obtain ⟨r, hr⟩ : ∃ r : Fl, r = (if (joinF m (atF o x) (atF a x) (atF b x)).2 = true then (joinF m (atF o x) (atF a x) (atF b x)).1 else oth (atF o x)) := ⟨_, rfl⟩
    rw [← hr] at hf
    split at hf
    · rename_i hi
      rw [List.mem_singleton.1 hf]
      exact ⟨r, hr, hi, rfl⟩
    · cases hf
/-- What a file that came of two changes is: one of the three, or a merge of its lines. -/
def FileOk (o a b : Fl) (d : ByteArray) : Prop :=
  (o.is = true ∧ d = o.data) ∨ (a.is = true ∧ d = a.data) ∨ (b.is = true ∧ d = b.data) ∨ (a.is = true ∧ b.is = true ∧ a.data ≠ b.data ∧ a.data ≠ o.data ∧ b.data ≠ o.data)
theorem joinF_ok (o a b : Fl) (h2 : (joinF textM o a b).2 = true) (h1 : (joinF textM o a b).1.is = true) : FileOk o a b (joinF textM o a b).1.data := by
  unfold joinF at h1 h2 ⊢
  split
  · rename_i h; rw [if_pos h] at h1; exact .inr (.inl ⟨h1, rfl⟩)
  · rename_i h
    rw [if_neg h] at h1 h2
    split
    · rename_i h'; rw [if_pos h'] at h1; exact .inr (.inr (.inl ⟨h1, rfl⟩))
    · rename_i h'
      rw [if_neg h'] at h1 h2
      split
      · rename_i h''; rw [if_pos h''] at h2; cases h2
      · rename_i h''
        rw [if_neg h''] at h1 h2
        have ha : a.is = true := by cases q : a.is <;> simp_all
        have hb : b.is = true := by cases q : b.is <;> simp_all
        by_cases e1 : a.data = b.data
        · exfalso; apply h
          rw [Bool.or_eq_true, flB_iff]
          refine .inl ?_
          cases a; cases b; simp_all
        · by_cases e2 : a.data = o.data
          · refine .inr (.inr (.inl ⟨hb, ?_⟩))
            unfold textM
            by_cases q : (eqT a.data b.data || eqT b.data o.data) = true
            · rw [if_pos q]
              rw [Bool.or_eq_true, eqT_iff, eqT_iff] at q
              rcases q with q | q
              · exact q
              · exact e2.trans q.symm
            · rw [if_neg q, if_pos ((eqT_iff _ _).2 e2)]; rfl
          · by_cases e3 : b.data = o.data
            · refine .inr (.inl ⟨ha, ?_⟩)
              unfold textM
              rw [if_pos (by rw [Bool.or_eq_true, eqT_iff, eqT_iff]; exact .inr e3)]; rfl
            · exact .inr (.inr (.inr ⟨ha, hb, e1, e2, e3⟩))
theorem joinOf_file {o a b : List File} (h : may3 o a b = true) : ∀ f ∈ (joinOf textM o a b).1, FileOk (atF o f.path) (atF a f.path) (atF b f.path) f.data := by
  rw [joinOf_true h]
  split
  · intro f hf; cases hf
  · intro f hf
    obtain ⟨r, hr, hi, hd⟩ := gathF_file _ _ _ _ _ f hf
    rw [hd]
    split at hr
    · rename_i h2
      rw [hr] at hi ⊢
      exact joinF_ok _ _ _ h2 hi
    · rw [hr] at hi; cases hi

/-- The same, as the law asks it. -/
theorem fileOk_ways {p q r : Bool} {x y z d : ByteArray} (h : FileOk ⟨p, x⟩ ⟨q, y⟩ ⟨r, z⟩ d) :
    (p = true ∧ (d.toList == x.toList) = true) ∨ ((p = false ∨ (p = true ∧ (d.toList == x.toList) = false)) ∧
      ((q = true ∧ (d.toList == y.toList) = true) ∨ ((q = false ∨ (q = true ∧ (d.toList == y.toList) = false)) ∧
        ((r = true ∧ (d.toList == z.toList) = true) ∨ ((r = true ∧ (d.toList == z.toList) = false) ∧ q = true ∧ (y.toList == z.toList) = false ∧ (y.toList == x.toList) = false ∧ (z.toList == x.toList) = false))))) := by
  have hne : ∀ {u v : ByteArray}, u ≠ v → (u.toList == v.toList) = false := fun h => by rw [toList_beq]; exact decide_eq_false h
  have key : ∀ (s : Bool) (u : ByteArray), (s = true ∧ (d.toList == u.toList) = true) ∨ (s = false ∨ (s = true ∧ (d.toList == u.toList) = false)) := by
    intro s u
    cases s <;> cases d.toList == u.toList <;> simp
  rcases key p x with h1 | h1
  · exact .inl h1
  · refine .inr ⟨h1, ?_⟩
    rcases key q y with h2 | h2
    · exact .inl h2
    · refine .inr ⟨h2, ?_⟩
      rcases key r z with h3 | h3
      · exact .inl h3
      · refine .inr ?_
        rcases h with ⟨e, rfl⟩ | ⟨e, rfl⟩ | ⟨e, rfl⟩ | ⟨e1, e2, n1, n2, n3⟩
        · dsimp only at e; subst e; simp at h1
        · dsimp only at e; subst e; simp at h2
        · dsimp only at e; subst e; simp at h3
        · dsimp only at e1 e2 n1 n2 n3
          subst e1 e2
          exact ⟨by simpa using h3, rfl, hne n1, hne n2, hne n3⟩

end Go.Proofs.YtddooggkcdloeaaGreatDoor

namespace Go.Proofs.YtddooggkcdloeaaGreatDoor
open Go.RowKit
set_option linter.unusedVariables false
set_option linter.unusedSimpArgs false
attribute [local go_sem] Oper.semAt_some

theorem files9_sum {xs ys zs : List File} (g1 : greatB xs 14 = false) (g2 : greatB ys 14 = false) (g3 : greatB zs 14 = false) : sumL [xs, ys, zs] ≤ 100000 := by
  have h1 := (greatB_false g1).1
  have h2 := (greatB_false g2).1
  have h3 := (greatB_false g3).1
  simp only [sumL, List.flatten_cons, List.flatten_nil, List.append_nil, List.length_append]
  omega

set_option maxHeartbeats 2000000 in
set_option maxRecDepth 100000 in
theorem paths9_main (v0 v1 v2 : Value) (xs ys zs : List File) (w : World) (hA : RdF w v0 xs) (hB : RdF w v1 ys) (hC : RdF w v2 zs) (hg : great9 xs ys zs = false) (hm : may3 xs ys zs = true) :
    Calls Tryz.prog 5 #[v0, v1, v2] w fun e w' => e = .returned (.bool true) ∧ Ext w w' := by
  obtain ⟨g1, g2, g3⟩ := great9_false hg
  obtain ⟨m1, m2, m3⟩ := (may3_iff _ _ _).1 hm
  have hG := great9_calls v0 v1 v2 xs ys zs w hA hB hC
  rw [hg] at hG
  have hM1 := fun W (hW : Ext w W) => may_calls v0 xs _ W (hA.ext hW) (Nat.le_trans (small_len g1) (by omega)) (small_path g1)
  have hM2 := fun W (hW : Ext w W) => may_calls v1 ys _ W (hB.ext hW) (Nat.le_trans (small_len g2) (by omega)) (small_path g2)
  have hM3 := fun W (hW : Ext w W) => may_calls v2 zs _ W (hC.ext hW) (Nat.le_trans (small_len g3) (by omega)) (small_path g3)
  rw [m1] at hM1
  rw [m2] at hM2
  rw [m3] at hM3
  have hO := fun W (hW : Ext w W) => of9_calls v0 v1 v2 xs ys zs W (hA.ext hW) (hB.ext hW) (hC.ext hW) g1 g2 g3
  have hbad := joinOf_bad (m := textM) hm
  have hfile := joinOf_file hm
  have hT1 := fun p W (hW : Ext w W) => get_calls v0 p xs _ W (hA.ext hW) (Nat.le_trans (small_len g1) (by omega))
  have hT2 := fun p W (hW : Ext w W) => get_calls v1 p ys _ W (hB.ext hW) (Nat.le_trans (small_len g2) (by omega))
  have hT3 := fun p W (hW : Ext w W) => get_calls v2 p zs _ W (hC.ext hW) (Nat.le_trans (small_len g3) (by omega))
  have hsum := files9_sum g1 g2 g3
  obtain ⟨A1, c1, rfl, _⟩ := hA.open_
  obtain ⟨A2, c2, rfl, _⟩ := hB.open_
  obtain ⟨A3, c3, rfl, _⟩ := hC.open_
  obtain ⟨n1, hn1⟩ : ∃ n, xs.length = n := ⟨_, rfl⟩
  obtain ⟨n2, hn2⟩ : ∃ n, ys.length = n := ⟨_, rfl⟩
  obtain ⟨n3, hn3⟩ : ∃ n, zs.length = n := ⟨_, rfl⟩
  rw [hn1] at hA
  rw [hn2] at hB
  rw [hn3] at hC
  rw [hn1, hn2, hn3] at hG hO ⊢
  rw [hn1] at hM1 hT1
  rw [hn2] at hM2 hT2
  rw [hn3] at hM3 hT3
  have HP := Lib.hid fun W (hW : Ext w W) => (paths_calls _ _ _ _ _ ((built3 W 22 ⟨A1, n1, c1⟩ ⟨A2, n2, c2⟩ ⟨A3, n3, c3⟩).wide fun _ _ => trivial)
    (.cons (hA.ext (hW.alloc _)) (.cons (hB.ext (hW.alloc _)) (.cons (hC.ext (hW.alloc _)) .nil)) : RdAll (fun _ => True) (W.alloc (.cells #[.slice A1 n1 c1, .slice A2 n2 c2, .slice A3 n3 c3] 22)) [⟨A1, n1, c1⟩, ⟨A2, n2, c2⟩, ⟨A3, n3, c3⟩] [xs, ys, zs]) hsum)
  obtain ⟨jt, hjt⟩ : ∃ t, (joinOf textM xs ys zs).1 = t := ⟨_, rfl⟩
  obtain ⟨jb, hjb⟩ : ∃ t, (joinOf textM xs ys zs).2 = t := ⟨_, rfl⟩
  rw [hjt, hjb] at hO
  rw [hjt] at hfile
  rw [hjb] at hbad
  have HG := Lib.hid hG
  have HM1 := Lib.hid hM1
  have HM2 := Lib.hid hM2
  have HM3 := Lib.hid hM3
  have HO := Lib.hid hO
  have HB := Lib.hid hbad
  have HF := Lib.hid hfile
  have HT1 := Lib.hid hT1
  have HT2 := Lib.hid hT2
  have HT3 := Lib.hid hT3
  clear hA hB hC hg hm g1 g2 g3 m1 m2 m3 hG hM1 hM2 hM3 hO hbad hfile hT1 hT2 hT3 hsum hn1 hn2 hn3 hjt hjb
  go_enter Tryz.func5, Tryz.ntmps5
  go_wp2_with fail
  refine HG.out.mono ?_
  rintro e w0 ⟨rfl, hw0⟩
  subst hw0
  clear HG
  go_wp2_with fail
  refine (HM1.out _ (Kp.refl _ _)).mono ?_
  rintro e w1 ⟨rfl, hx1⟩
  go_wp2_with fail
  refine (HM2.out _ hx1).mono ?_
  rintro e w2 ⟨rfl, hx2⟩
  have hx02 := hx1.trans hx2
  clear hx1 hx2
  go_wp2_with fail
  refine (HM3.out _ hx02).mono ?_
  rintro e w3 ⟨rfl, hx3⟩
  have hx03 := hx02.trans hx3
  clear hx02 hx3 HM1 HM2 HM3
  go_wp2_with fail
  refine (HO.out _ hx03).mono ?_
  rintro e w4 ⟨r, s, rfl, hNr, hNs, hx4⟩
  have hx04 := hx03.trans hx4
  have HR := Lib.hid fun W (hW : Ext w4 W) => (hNr.ext hW).rdF
  have HS := Lib.hid fun W (hW : Ext w4 W) => (hNs.ext hW).rd
  obtain ⟨At, ct, hr⟩ := hNr.sl
  subst hr
  obtain ⟨Ab, cb, hs⟩ := hNs.sl
  subst hs
  obtain ⟨Ab', cb', hb', hOb⟩ := (HS.out w4 (Kp.refl _ _)).open_
  obtain ⟨At', ct', ht', hOt⟩ := (HR.out w4 (Kp.refl _ _)).open_
  have hlb := hOb.len
  have hlt := hOt.len
  clear hb' hOb ht' hOt
  clear hNr hNs HO hx03 hx4
  go_wp2_with (go_at_call 22; refine stop ?_)
  refine (HP.out w4 hx04).mono ?_
  clear HP
  rintro e w5 ⟨u, rfl, hN5, hx5'⟩
  have hx45 := ((Kp.refl All w4).alloc (.cells #[.slice A1 n1 c1, .slice A2 n2 c2, .slice A3 n3 c3] 22)).trans hx5'
  have hx05 := hx04.trans hx45
  rw [pathsF_rise] at hN5
  have HH := Lib.hid fun p W (hW : Ext w5 W) => has_calls u p _ _ W ((hN5.ext hW).rd)
  obtain ⟨Ap, cp, hu⟩ := hN5.sl
  subst hu
  obtain ⟨ps, hps⟩ : ∃ p, riseT (flatP [xs, ys, zs]) = p := ⟨_, rfl⟩
  rw [hps] at HB HH hN5 ⊢
  obtain ⟨np, hnp⟩ : ∃ p, ps.length = p := ⟨_, rfl⟩
  rw [hnp] at HH ⊢
  obtain ⟨nb, hnb⟩ : ∃ p, jb.length = p := ⟨_, rfl⟩
  rw [hnb] at HS hlb ⊢
  obtain ⟨nt, hnt⟩ : ∃ p, jt.length = p := ⟨_, rfl⟩
  rw [hnt] at HR hlt ⊢
  have HNB := Lib.hid hnb
  have HNT := Lib.hid hnt
  clear hN5 hx5' hps hnp hnb hnt
  go_wp2_with fail
  go_loopw [10] (fun i wr => ∃ k : Nat, k ≤ nb ∧ i = .int .i64 k ∧ Ext w5 wr) (fun i _ => nb - (intOf i).toNat)
  case atStart => exact ⟨0, Nat.zero_le _, rfl, Kp.refl _ _⟩
  case round =>
    obtain ⟨k, hk, rfl, hx⟩ := hrel
    rename World => wo
    by_cases hlk : k < nb
    · have hd : decide ((k : Int) < (nb : Int)) = true := decide_eq_true (by omega)
      have hkp : k < jb.length := by have := HNB.out; omega
      obtain ⟨A, c, hv, hOp⟩ := (HS.out wo (hx45.trans hx)).open_
      obtain ⟨b, off, rfl, _, hb, c0⟩ := hOp.rd.text hkp
      obtain ⟨x, hx'⟩ : ∃ x, jb[k] = x := ⟨_, rfl⟩
      rw [hx'] at c0
      have hmem : x ∈ jb := by rw [← hx']; exact List.getElem_mem hkp
      injection hv with hv1 hv2 hv3
      subst hv1 hv3
      clear hv2
      have hprev : Hid (∀ j, j + 1 = k → ∃ y, wo.cell? ⟨b, off + j, none⟩ = some (.string y) ∧ ltB y x = true) := Lib.hid fun j hj => by
        have hjb : j < jb.length := by omega
        obtain ⟨b', off', hbb, _, _, d0⟩ := hOp.rd.text hjb
        injection hbb with hbb
        injection hbb with e1 e2
        subst e1 e2
        refine ⟨jb[j], d0, ?_⟩
        rw [← hx']
        exact List.pairwise_iff_getElem.1 HB.out.1 j k hjb hkp (by omega)
      have hin := HB.out.2 x hmem
      have hHas := Lib.hid fun W (hW : Ext wo W) => HH.out x W (hx.trans hW)
      have hlt' : (k : Int) < (nb : Int) := by omega
      have h0 : (0 : Int) ≤ (k : Int) := by omega
      have hw : IntKind.i64.wrap ((k : Int) + 1) = (k : Int) + 1 := IntWalk.i64_in _ (by omega)
      have HHas : Hid ((x.toList == [42]) = false → ∀ W, Ext wo W → Calls Tryz.prog 23 #[.slice Ap np cp, .string x] W fun e w' => e = .returned (.bool true) ∧ w' = W) := Lib.hid fun hne W hW => by
        have h := hHas.out W hW
        rw [(hasB_iff ps x).2 (by
          rcases hin with rfl | hin
          · exact absurd hne (by decide +kernel)
          · exact hin)] at h
        exact h.mono fun _ _ he => ⟨he.1, he.2.symm⟩
      clear hx' hmem hOp hin hHas hkp
      by_cases hz : k = 0
      · have hgt : decide ((0 : Int) < (k : Int)) = false := decide_eq_false (by omega)
        have hgt2 : decide (0 < k) = false := decide_eq_false (by omega)
        clear hprev hz
        cases hst : x.toList == [42] with
        | true =>
          clear HHas
          go_wp2_with fail
          go_quiet (fail)
          go_wp2_with fail
          go_roundw
          case rel => exact ⟨k + 1, by omega, by go_num, hx.drewN _⟩
          case measure => simp [intOf]; omega
        | false =>
          have HC := Lib.hid (HHas.out hst)
          clear HHas
          go_wp2_with fail
          go_quiet ((go_at_call 23; exact Calls.quiet_of_same (HC.out _ ((Kp.refl _ wo).drewN _))))
          go_wp2_with fail
          go_roundw
          case rel => exact ⟨k + 1, by omega, by go_num, hx.drewN _⟩
          case measure => simp [intOf]; omega
      · have hgt : decide ((0 : Int) < (k : Int)) = true := decide_eq_true (by omega)
        have hgt2 : decide (0 < k) = true := decide_eq_true (by omega)
        obtain ⟨j, hj⟩ : ∃ j, j + 1 = k := ⟨k - 1, by omega⟩
        obtain ⟨y, d0, hyx⟩ := hprev.out j hj
        have hj1 : (k : Int) - 1 = (j : Int) := by omega
        have hj2 : (0 : Int) ≤ (j : Int) := by omega
        have hj3 : (j : Int) < (nb : Int) := by omega
        have hwj : IntKind.i64.wrap ((k : Int) - 1) = (j : Int) := by rw [IntWalk.i64_in _ (by omega)]; exact hj1
        have hlt3 : Op.bytesLess y.toList x.toList = true := hyx
        clear hprev hyx hz hj
        cases hst : x.toList == [42] with
        | true =>
          clear HHas
          go_wp2_with fail
          go_quiet (fail)
          go_wp2_with fail
          go_roundw
          case rel => exact ⟨k + 1, by omega, by go_num, hx.drewN _⟩
          case measure => simp [intOf]; omega
        | false =>
          have HC := Lib.hid (HHas.out hst)
          clear HHas
          go_wp2_with fail
          go_quiet ((go_at_call 23; exact Calls.quiet_of_same (HC.out _ ((Kp.refl _ wo).drewN _))))
          go_wp2_with fail
          go_roundw
          case rel => exact ⟨k + 1, by omega, by go_num, hx.drewN _⟩
          case measure => simp [intOf]; omega
    · have hd : decide ((k : Int) < (nb : Int)) = false := decide_eq_false (by omega)
      have hx45' := hx45.trans hx
      have hx05' := hx05.trans hx
      have hd2 : decide (k < nb) = false := decide_eq_false (by omega)
      clear HH HB HS HNB hlb hk hlk hx45 hx05 hx
      go_wp2_with fail
      clear hd hd2
      rename World => w6
      go_loopw [11] (fun i wr => ∃ k : Nat, k ≤ nt ∧ i = .int .i64 k ∧ Ext w6 wr) (fun i _ => nt - (intOf i).toNat)
      case atStart => exact ⟨0, Nat.zero_le _, rfl, Kp.refl _ _⟩
      case round =>
        obtain ⟨k, hk, rfl, hx⟩ := hrel
        rename World => wo
        by_cases hlk : k < nt
        · have hd : decide ((k : Int) < (nt : Int)) = true := decide_eq_true (by omega)
          have hkp : k < jt.length := by have := HNT.out; omega
          obtain ⟨f, hf⟩ : ∃ f, jt[k] = f := ⟨_, rfl⟩
          have hok := HF.out f (by rw [← hf]; exact List.getElem_mem hkp)
          have HRk : Hid (∀ W, Ext wo W → ∃ b off, At = some ⟨b, off, none⟩ ∧ W.cell? ⟨b, off + k * 2, none⟩ = some (.string f.path) ∧ W.cell? ⟨b, off + k * 2 + 1, none⟩ = some (.string f.data)) := Lib.hid fun W hW => by
            obtain ⟨A, c, hv, hOp⟩ := (HR.out W (hx45'.trans (hx.trans hW))).open_
            injection hv with hv1 hv2 hv3
            subst hv1 hv3
            obtain ⟨b, off, hA, _, _, d0, d1⟩ := hOp.rd.file hkp
            rw [hf] at d0 d1
            exact ⟨b, off, hA, d0, d1⟩
          obtain ⟨b, off, hAt, _⟩ := HRk.out wo (Kp.refl _ _)
          subst hAt
          have HCell : Hid (∀ W, Ext wo W → W.cell? ⟨b, off + k * 2, none⟩ = some (.string f.path) ∧ W.cell? ⟨b, off + k * 2 + 1, none⟩ = some (.string f.data)) := Lib.hid fun W hW => by
            obtain ⟨b', off', hA, d0, d1⟩ := HRk.out W hW
            injection hA with hA
            injection hA with e1 e2
            subst e1 e2
            exact ⟨d0, d1⟩
          have G1 := Lib.hid fun W (hW : Ext w W) => HT1.out f.path W hW
          have G2 := Lib.hid fun W (hW : Ext w W) => HT2.out f.path W hW
          have G3 := Lib.hid fun W (hW : Ext w W) => HT3.out f.path W hW
          unfold atF at hok
          obtain ⟨fp, fd⟩ := f
          dsimp only at HCell G1 G2 G3 hok
          generalize (getF xs fp).isSome = p at G1 hok
          generalize (getF ys fp).isSome = q at G2 hok
          generalize (getF zs fp).isSome = r at G3 hok
          generalize getD xs fp = x at G1 hok
          generalize getD ys fp = y at G2 hok
          generalize getD zs fp = z at G3 hok
          have HW := Lib.hid (fileOk_ways hok)
          have hlt' : (k : Int) < (nt : Int) := by omega
          have h0 : (0 : Int) ≤ (k : Int) := by omega
          have hw : IntKind.i64.wrap ((k : Int) + 1) = (k : Int) + 1 := IntWalk.i64_in _ (by omega)
          clear hok hf hkp HRk
          obtain ⟨c0, c1⟩ := HCell.out wo (Kp.refl _ _)
          go_wp2_with fail
          refine (G1.out wo (hx05'.trans hx)).mono ?_
          rintro e wa ⟨rfl, hxa⟩
          obtain ⟨ca0, ca1⟩ := HCell.out wa hxa
          clear c0 c1
          go_wp2_with fail
          refine (G2.out wa (hx05'.trans (hx.trans hxa))).mono ?_
          rintro e wb ⟨rfl, hxb⟩
          obtain ⟨cb0, cb1⟩ := HCell.out wb (hxa.trans hxb)
          clear ca0 ca1
          go_wp2_with fail
          refine (G3.out wb (hx05'.trans (hx.trans (hxa.trans hxb)))).mono ?_
          rintro e wc ⟨rfl, hxc⟩
          obtain ⟨cc0, cc1⟩ := HCell.out wc (hxa.trans (hxb.trans hxc))
          have hxw := hx.trans (hxa.trans (hxb.trans hxc))
          clear cb0 cb1 hx hxa hxb hxc G1 G2 G3 HCell
          rcases HW.out with ⟨rfl, e1⟩ | ⟨h1, h2⟩
          · skip
            clear HW
            go_wp2_with fail
            go_roundw
            case rel => exact ⟨k + 1, by omega, by go_num, hxw⟩
            case measure => simp [intOf]; omega
          · rcases h1 with rfl | ⟨rfl, e1⟩
            · rcases h2 with ⟨rfl, e2⟩ | ⟨h2, ⟨rfl, e3⟩ | ⟨⟨rfl, e3⟩, rfl, e4, e5, e6⟩⟩
              · skip
                clear HW
                go_wp2_with fail
                go_roundw
                case rel => exact ⟨k + 1, by omega, by go_num, hxw⟩
                case measure => simp [intOf]; omega
              · rcases h2 with rfl | ⟨rfl, e2⟩
                · skip
                  clear HW
                  go_wp2_with fail
                  go_roundw
                  case rel => exact ⟨k + 1, by omega, by go_num, hxw⟩
                  case measure => simp [intOf]; omega
                · skip
                  clear HW
                  go_wp2_with fail
                  go_roundw
                  case rel => exact ⟨k + 1, by omega, by go_num, hxw⟩
                  case measure => simp [intOf]; omega
              · rcases h2 with h2 | ⟨_, e2⟩
                · cases h2
                · skip
                  clear HW
                  go_wp2_with fail
                  go_roundw
                  case rel => exact ⟨k + 1, by omega, by go_num, hxw⟩
                  case measure => simp [intOf]; omega
            · rcases h2 with ⟨rfl, e2⟩ | ⟨h2, ⟨rfl, e3⟩ | ⟨⟨rfl, e3⟩, rfl, e4, e5, e6⟩⟩
              · skip
                clear HW
                go_wp2_with fail
                go_roundw
                case rel => exact ⟨k + 1, by omega, by go_num, hxw⟩
                case measure => simp [intOf]; omega
              · rcases h2 with rfl | ⟨rfl, e2⟩
                · skip
                  clear HW
                  go_wp2_with fail
                  go_roundw
                  case rel => exact ⟨k + 1, by omega, by go_num, hxw⟩
                  case measure => simp [intOf]; omega
                · skip
                  clear HW
                  go_wp2_with fail
                  go_roundw
                  case rel => exact ⟨k + 1, by omega, by go_num, hxw⟩
                  case measure => simp [intOf]; omega
              · rcases h2 with h2 | ⟨_, e2⟩
                · cases h2
                · skip
                  clear HW
                  go_wp2_with fail
                  go_roundw
                  case rel => exact ⟨k + 1, by omega, by go_num, hxw⟩
                  case measure => simp [intOf]; omega
        · have hd : decide ((k : Int) < (nt : Int)) = false := decide_eq_false (by omega)
          have hx' := hx05'.trans hx
          clear HF HT1 HT2 HT3 HR HNT hx hx05' hx45'
          go_wp2_with fail
          refine (awake9_calls wo).mono ?_
          rintro e wz ⟨rfl, hxz⟩
          go_wp2_with fail
          go_ret
          exact ⟨rfl, hx'.trans hxz⟩

set_option maxHeartbeats 1000000 in
set_option maxRecDepth 100000 in
theorem paths9_calls (v0 v1 v2 : Value) (xs ys zs : List File) (w : World) (hA : RdF w v0 xs) (hB : RdF w v1 ys) (hC : RdF w v2 zs) :
    Calls Tryz.prog 5 #[v0, v1, v2] w fun e w' => e = .returned (.bool true) ∧ Ext w w' := by
  have hG := great9_calls v0 v1 v2 xs ys zs w hA hB hC
  have HA := Lib.hid awake9_calls
  cases hg : great9 xs ys zs with
  | true =>
    rw [hg] at hG
    have HG := Lib.hid hG
    clear hG hA hB hC hg
    go_enter Tryz.func5, Tryz.ntmps5
    go_wp2_with fail
    refine HG.out.mono ?_
    rintro e w0 ⟨rfl, hw0⟩
    subst hw0
    clear HG
    go_wp2_with fail
    refine (HA.out _).mono ?_
    rintro e w1 ⟨rfl, hx1⟩
    go_wp2_with fail
    go_ret
    exact ⟨rfl, hx1⟩
  | false =>
    by_cases hm : may3 xs ys zs = true
    · exact paths9_main v0 v1 v2 xs ys zs w hA hB hC hg hm
    · obtain ⟨g1, g2, g3⟩ := great9_false hg
      rw [hg] at hG
      have hM1 := fun W (hW : Ext w W) => may_calls v0 xs _ W (hA.ext hW) (Nat.le_trans (small_len g1) (by omega)) (small_path g1)
      have hM2 := fun W (hW : Ext w W) => may_calls v1 ys _ W (hB.ext hW) (Nat.le_trans (small_len g2) (by omega)) (small_path g2)
      have hM3 := fun W (hW : Ext w W) => may_calls v2 zs _ W (hC.ext hW) (Nat.le_trans (small_len g3) (by omega)) (small_path g3)
      rw [may3_iff] at hm
      have HG := Lib.hid hG
      have HM1 := Lib.hid hM1
      have HM2 := Lib.hid hM2
      have HM3 := Lib.hid hM3
      have HN := Lib.hid hm
      clear hG hM1 hM2 hM3 hm hg g1 g2 g3 hA hB hC
      generalize mayB xs = q1 at *
      generalize mayB ys = q2 at *
      generalize mayB zs = q3 at *
      go_enter Tryz.func5, Tryz.ntmps5
      go_wp2_with fail
      refine HG.out.mono ?_
      rintro e w0 ⟨rfl, hw0⟩
      subst hw0
      clear HG
      go_wp2_with fail
      refine (HM1.out _ (Kp.refl _ _)).mono ?_
      rintro e w1 ⟨rfl, hx1⟩
      cases q1 with
      | false =>
        clear HM1 HM2 HM3
        go_wp2_with fail
        refine (HA.out _).mono ?_
        rintro e wz ⟨rfl, hxz⟩
        go_wp2_with fail
        go_ret
        exact ⟨rfl, hx1.trans hxz⟩
      | true =>
        go_wp2_with fail
        refine (HM2.out _ hx1).mono ?_
        rintro e w2 ⟨rfl, hx2⟩
        have hx02 := hx1.trans hx2
        clear hx1 hx2
        cases q2 with
        | false =>
          clear HM1 HM2 HM3
          go_wp2_with fail
          refine (HA.out _).mono ?_
          rintro e wz ⟨rfl, hxz⟩
          go_wp2_with fail
          go_ret
          exact ⟨rfl, hx02.trans hxz⟩
        | true =>
          go_wp2_with fail
          refine (HM3.out _ hx02).mono ?_
          rintro e w3 ⟨rfl, hx3⟩
          have hx03 := hx02.trans hx3
          clear hx02 hx3 HM1 HM2 HM3
          cases q3 with
          | false =>
            go_wp2_with fail
            refine (HA.out _).mono ?_
            rintro e wz ⟨rfl, hxz⟩
            go_wp2_with fail
            go_ret
            exact ⟨rfl, hx03.trans hxz⟩
          | true => exact absurd (by simp) HN.out

end Go.Proofs.YtddooggkcdloeaaGreatDoor
