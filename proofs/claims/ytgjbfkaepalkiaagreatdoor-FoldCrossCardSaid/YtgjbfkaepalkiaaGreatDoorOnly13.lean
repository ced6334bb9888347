/-
  dag.Is. FoldOnly: the walk.
-/
import Derived.Test.YtgjbfkaepalkiaaGreatDoorDag
import Derived.Test.YtgjbfkaepalkiaaGreatDoorTells13
namespace Go.Proofs.YtgjbfkaepalkiaaGreatDoor
open Go.RowKit
set_option linter.unusedVariables false
set_option linter.unusedSimpArgs false
attribute [local go_sem] Oper.semAt_some

/-- One result that lies in a variable. -/
theorem results_cell1 {fn : Func} {t : Tmp} {ty : TypeId} (h : fn.results = #[.cell t ty]) {tmps : Array Value} {P : Program} {w : World} (ha : ∀ w, (isAgg ty).run P w = .ok false w)
    {p : Addr} {v : Value} (ht : tmps.getD t undef = .pointer (some p)) (hv : w.cell? p = some v) : (results fn tmps).run P w = .ok v w := by
  have ht' : tmps[t]?.getD undef = .pointer (some p) := by simpa using ht
  simp only [results, h]
  simp [Sem.run_bind, Result.andThen, ht', loadVar, ha, asAddr, load, Sem.run, hv]

section
variable {I D : Fp} {rb : Nat} {cs : List Cm} {room : Nat} {w : World}
set_option maxHeartbeats 1000000 in
theorem isR_calls (h : RepoX repoT I D w rb cs room) (hG : GoodR cs) (hn : cs.length ≤ 300) (a b : Int) : Calls Tryz.prog 30 #[.pointer (some ⟨rb, 0, none⟩), .int .i64 a, .int .i64 b] w fun e w' => e = .returned (.bool ((aheadF cs b).contains a)) ∧ Ext w w' := by
  have HA := Lib.hid fun W (hW : Ext w W) => ahead_calls (h.ext hW) hG hn b
  have hDI : ∀ k, (D k ∨ I k) → k < w.heap.size := fun k hk => hk.elim (h.ld k) (h.li k)
  clear h hG
  refine calls_of_body Tryz.func30 rfl ?_
  simp only [Tryz.ntmps30, List.size_toArray, List.length_cons, List.length_nil, Nat.reduceAdd, Nat.reduceSub, Array.replicate_succ, Array.replicate_zero, List.push_toArray, List.append_toArray, List.nil_append, List.cons_append]
  gi_wp2_with fail
  have hx0 : Ext w ((w.alloc (.cells #[.int .i64 a] 3)).alloc (.cells #[.bool false] 4)) := ((Kp.refl _ w).alloc _).alloc _
  have hB1 := (Blk.new w 3 #[.int .i64 a]).ext ((Kp.refl _ _).alloc (.cells #[.bool false] 4))
  have hB2 := Blk.new (w.alloc (.cells #[.int .i64 a] 3)) 4 #[.bool false]
  rw [World.size_alloc] at hB2
  generalize ((w.alloc (.cells #[.int .i64 a] 3)).alloc (.cells #[.bool false] 4)) = w0 at hx0 hB1 hB2 ⊢
  refine wide_call ((HA.out _ hx0).mono ?_)
  rintro e w1 ⟨u, rfl, hs, hx1⟩
  obtain ⟨sf, sa, sb, rfl⟩ := hs.isf
  have hb2l := hB2.lt
  have hz1 := hx1.size
  have hx01 := hx0.trans hx1
  have hC1 := hB1.ext hx1
  have hC2 := hB2.ext hx1
  clear HA hB1 hB2
  gi_wp2_with fail
  refine range_wp (fv := .func sf sa sb) rfl hs (fun k hk => by
    rcases hk with hk | hk
    · have := hDI k hk; have := hx01.size; omega
    · omega) (fun _ => rfl)
    (fun pre E W => Blk W w.heap.size 3 #[.int .i64 a] ∧ Blk W (w.heap.size + 1) 4 #[.bool false] ∧ a ∉ pre ∧ E w.heap.size ∧ E (w.heap.size + 1))
    (fun c pre E W => c = .ret ∧ Blk W (w.heap.size + 1) 4 #[.bool true] ∧ a ∈ pre ∧ E (w.heap.size + 1))
    (fun pre E W W' ⟨h1, h2, h3, h4, h5⟩ _ hk => ⟨h1.kp hk h4, h2.kp hk h5, h3, h4, h5⟩) (fun c pre E W W' ⟨h1, h2, h3, h5⟩ _ hk => ⟨h1, h2.kp hk h5, h3, h5⟩)
    (fun k => k = w.heap.size ∨ k = w.heap.size + 1) ⟨hC1, hC2, by simp, .inl rfl, .inr rfl⟩ (fun k hk => ⟨by omega, fun h => by
      rcases h with h | h
      · have := hDI k h; omega
      · omega⟩) ?round ?done ?stop
  case round =>
    intro l pre x E W hI hE hpre hsub hkp hl hlt hnl K hK
    gi_wp2_with fail
    refine hK _ _ (Kp.refl _ W) ?_
    intro W₂ hk2 hsz hrec
    obtain ⟨h1, h2, h3, h4, h5⟩ := hI
    have g1 := h1.kp hk2 (fun e => hnl (e ▸ h4))
    have g2 := h2.kp hk2 (fun e => hnl (e ▸ h5))
    have c1 := g1.cell0
    have c2 := g2.cell0
    have f2 := g2.frozen 0
    have HE := Lib.hid (show ∀ k, E k → k < W₂.heap.size from fun k hk => hk2.lt (hE k hk))
    clear hK hE hpre hsub hkp hrec hs h1 h2 hk2
    by_cases he : x = a
    · subst he
      have hde : (x == x) = true := by simp
      gi_wp2_with fail
      exact ⟨E, fun k hk => .inl (.inl hk), (Kp.refl _ _).setCell (.inr fun h => h (.inl h5)) _, fun k hk => by have := HE.out k hk; simpa using this, rfl, g2.set_ 0 _, by simp, h5⟩
    · have hde : (x == a) = false := by rw [beq_eq_false_iff_ne]; exact he
      gi_wp2_with fail
      refine ⟨E, fun k hk => .inl (.inl hk), Kp.refl _ _, HE.out, g1, g2, ?_, h4, h5⟩
      intro hm
      rcases List.mem_append.1 hm with hm | hm
      · exact h3 hm
      · exact he (List.mem_singleton.1 hm).symm
  case done =>
    intro q E W' hI hsub hkp hlt hq hnq hblk
    obtain ⟨h1, h2, h3, h4, h5⟩ := hI
    have c2 := h2.cell0
    have f2 := h2.frozen 0
    have hr : (aheadF cs b).contains a = false := by simpa using h3
    have HR := Lib.hid hr
    have hqb : w.heap.size + 1 ≠ q := fun e => hnq (e ▸ h5)
    have hblk' : (W'.setCell ⟨w.heap.size + 1, 0, none⟩ (.bool false)).heap[q]? = some (.deferred (some [])) := (Below.heap_setCell W' ⟨w.heap.size + 1, 0, none⟩ (.bool false) q (fun e => hqb e.symm)).trans hblk
    clear hs hr
    gi_wp2_with fail
    refine leaves1 (by first | exact hblk | exact hblk') fun W3 hk3 _ => ⟨_, results_cell1 rfl (fun w => Tryz.isAgg4 w) (p := ⟨w.heap.size + 1, 0, none⟩) (v := .bool false) (by rfl) ?_, by rw [HR.out], ?_⟩
    · exact (((h2.set_ 0 (.bool false)).kp hk3 hqb)).cell0
    · exact ((hx01.trans' hkp fun k hk _ h => by omega).setCell (.inl (by show w.heap.size ≤ w.heap.size + 1; omega)) _).trans' hk3 fun k hk _ => by omega
  case stop =>
    rintro q c pre E W' hpre ⟨rfl, h2, h3, h5⟩ hsub hkp hlt hq hnq hblk
    have hr : (aheadF cs b).contains a = true := by simpa using hpre.subset h3
    have HR := Lib.hid hr
    have hqb : w.heap.size + 1 ≠ q := fun e => hnq (e ▸ h5)
    clear hs hr
    gi_wp2_with fail
    refine leaves1 hblk fun W3 hk3 _ => ⟨_, results_cell1 rfl (fun w => Tryz.isAgg4 w) (p := ⟨w.heap.size + 1, 0, none⟩) (v := .bool true) (by rfl) (h2.kp hk3 hqb).cell0, by rw [HR.out], ?_⟩
    exact (hx01.trans' hkp fun k hk _ h => by omega).trans' hk3 fun k hk _ => by omega
end

end Go.Proofs.YtgjbfkaepalkiaaGreatDoor

namespace Go.Proofs.YtgjbfkaepalkiaaGreatDoor
open Go.RowKit
set_option linter.unusedVariables false
set_option linter.unusedSimpArgs false
attribute [local go_sem] Oper.semAt_some

theorem best_empty (a b : Int) : bestF [] a b = [] := by
  have h : ∀ n, aheadF [] n = [] := fun n => by
    unfold aheadF getC
    rw [if_neg (by simp)]
  unfold bestF commonF
  rw [h a]
  rfl
theorem tree_of_get {cs : List Cm} {n : Int} {c : Cm} (h : getC cs n = some c) : treeC cs n = c.tree := by unfold treeC; rw [h]; rfl
theorem get_in {cs : List Cm} {n : Int} (h : 1 ≤ n ∧ n ≤ cs.length) : ∃ c, getC cs n = some c := Option.isSome_iff_exists.1 ((getC_isSome cs n).2 h)
theorem low1_calls (x : Int) (n : Nat) (w : World) (hn : 0 < n) (hm : n ≤ 1000) :
    Calls Tryz.prog 18 #[.int .i64 x, .int .i64 (n : Int)] w fun e w' => (∃ j : Nat, j < n ∧ e = .returned (.int .i64 j)) ∧ w = w' := low_calls x n w hn (by omega)
/-- Get, of one that is there. -/
theorem getOk_calls {I D : Fp} {rb : Nat} {cs : List Cm} {room : Nat} {w : World} (h : RepoX repoT I D w rb cs room) (n : Int) (hs : SmallR cs) (hn : 1 ≤ n ∧ n ≤ cs.length) : Calls Tryz.prog 29 #[.pointer (some ⟨rb, 0, none⟩), .int .i64 n] w fun e w' =>
    ∃ (pa ta : Option Addr) (pn pc tn tc : Nat) (nt : ByteArray), e = .returned (.tuple #[.agg #[.slice pa pn pc, .slice ta tn tc, .string nt], .bool true]) ∧ New EF 39 w.heap.size w' (.slice ta tn tc) (treeC cs n) ∧ Ext w w' := by
  obtain ⟨c0, hc0⟩ := get_in hn
  refine (getR_calls h n hs).mono ?_
  rintro e w' ⟨sv, ok, c, rfl, ⟨k, rfl, hN⟩, hx, hok⟩
  obtain ⟨⟨pa, pn, pc⟩, ⟨ta, tn, tc⟩, nt⟩ := k
  rcases hok with ⟨rfl, hc⟩ | ⟨_, hc, _⟩
  · exact ⟨pa, ta, pn, pc, tn, tc, nt, rfl, by rw [tree_of_get hc]; exact hN.t, hx⟩
  · rw [hc0] at hc; cases hc

set_option maxHeartbeats 4000000 in
theorem foldOnly_calls (v : Value) (ss : List KS) (cs : List Cm) (a b : Int) (S : Fp) (w : World) (hR : Rd EK S w v ss) (hK : RepK S w ss cs) (hS : ∀ k, S k → k < w.heap.size) :
    Calls Tryz.prog 5 #[v, .int .i64 a, .int .i64 b] w (SamePost w true) := by
  have HGr : Hid (Calls Tryz.prog 15 #[v, .int .i64 16] w (SamePost w (greatR cs 16))) := Lib.hid (greatR_calls v ss cs 16 S w hR hK (by omega))
  have HMd := Lib.hid fun W (hW : Ext w W) (hs : ∀ c ∈ cs, SmallC c) (hn : cs.length ≤ 100) => made13_calls v ss cs S W (hR.kp (hW.mono fun _ _ _ => trivial)) (hK.ext hW) (fun k hk => hW.lt (hS k hk)) hs hn
  obtain ⟨A, c, rfl, hO⟩ := hR.open_
  have hl := hK.len
  clear hO hR hK hS
  cases hg : greatR cs 16 with
  | true =>
    rw [hg] at HGr
    clear HMd hg hl
    go_enter Tryz.func5, Tryz.ntmps5
    go_wp2_with fail
    refine HGr.out.mono ?_
    rintro e w1 ⟨rfl, hx1⟩
    clear HGr
    go_wp2_with fail
    refine (awake13_calls w1).mono ?_
    rintro e w2 ⟨rfl, hx2⟩
    go_wp2_with fail
    go_ret
    exact ⟨rfl, hx1.trans hx2⟩
  | false =>
    rw [hg] at HGr
    have hsm := small_of_great hg
    have hn16 := (greatR_false hg).1
    have hgood : GoodR (madeC cs) := madeC_good hsm
    have hml := madeC_len cs
    have HM2 := Lib.hid fun W (hW : Ext w W) => HMd.out W hW hsm (by omega)
    have HGood := Lib.hid hgood
    have hm300 : (madeC cs).length ≤ 300 := by omega
    have hsl : ss.length ≤ 16 := by omega
    clear HMd hg hsm hgood hml hl hn16
    obtain ⟨n, hn⟩ : ∃ n, ss.length = n := ⟨_, rfl⟩
    rw [hn] at HGr HM2 hsl ⊢
    clear hn
    go_enter Tryz.func5, Tryz.ntmps5
    go_wp2_with fail
    refine HGr.out.mono ?_
    rintro e w1 ⟨rfl, hx1⟩
    have hMd := Lib.hid (HM2.out w1 hx1)
    clear HGr HM2
    go_wp2_with fail
    refine hMd.out.mono ?_
    rintro e w2 ⟨rb, wb, I, D, D', rfl, hT⟩
    have HT := Lib.hid hT.r
    have hx2 := hx1.trans hT.x
    have HXB := Lib.hid hx2
    clear hMd hT hx1 hx2
    generalize madeC cs = M at HT HGood hm300
    obtain ⟨m, hm⟩ : ∃ m, M.length = m := ⟨_, rfl⟩
    have HM := Lib.hid hm
    have hln := lenR_calls HT.out
    rw [hm] at hln hm300
    have HLn := Lib.hid hln
    clear hm hln
    go_wp2_with fail
    refine HLn.out.mono ?_
    rintro e w2' ⟨rfl, rfl⟩
    by_cases hm0 : m = 0
    · have hd0 : ((m : Int) == 0) = true := by rw [beq_iff_eq]; omega
      have hMn : M = [] := List.eq_nil_of_length_eq_zero (by have := HM.out; omega)
      have hdF := deepF_nil (d := 4) (best_empty a b)
      have hB := baseR_calls HT.out HGood.out (by have := HM.out; omega) a b
      rw [hMn, hdF] at hB
      have HB := Lib.hid hB
      clear hMn hdF hB HLn
      go_wp2_with fail
      refine HB.out.mono ?_
      rintro e w3 ⟨u3, rfl, hN3, hx3⟩
      obtain ⟨A3, c3, rfl, hO3⟩ := hN3.1.rd.open_
      have hfin := Lib.hid (HXB.out.trans hx3)
      clear HB hN3 hO3 hx3
      go_wp2_with fail
      refine (awake13_calls w3).mono ?_
      rintro e w4 ⟨rfl, hx4⟩
      go_wp2_with fail
      go_ret
      exact ⟨rfl, hfin.out.trans hx4⟩
    · have hd0 : ((m : Int) == 0) = false := by rw [beq_eq_false_iff_ne]; omega
      go_wp2_with fail
      refine HLn.out.mono ?_
      rintro e w2' ⟨rfl, rfl⟩
      go_wp2_with fail
      refine (low1_calls a m w2 (by omega) (by omega)).mono ?_
      rintro e w2' ⟨⟨ka, hka, rfl⟩, rfl⟩
      have hwa : IntKind.i64.wrap (1 + (ka : Int)) = 1 + (ka : Int) := IntWalk.i64_in _ (by omega)
      go_wp2_with fail
      refine HLn.out.mono ?_
      rintro e w2' ⟨rfl, rfl⟩
      go_wp2_with fail
      refine (low1_calls b m w2 (by omega) (by omega)).mono ?_
      rintro e w2' ⟨⟨kb, hkb, rfl⟩, rfl⟩
      obtain ⟨a', ha'⟩ : ∃ a', 1 + (ka : Int) = a' := ⟨_, rfl⟩
      obtain ⟨b', hb'⟩ : ∃ b', 1 + (kb : Int) = b' := ⟨_, rfl⟩
      have hwb : IntKind.i64.wrap (1 + (kb : Int)) = b' := (IntWalk.i64_in _ (by omega)).trans hb'
      rw [ha'] at hwa
      try rw [ha']
      have haR : 1 ≤ a' ∧ a' ≤ (M.length : Int) := by have := HM.out; omega
      have hbR : 1 ≤ b' ∧ b' ≤ (M.length : Int) := by have := HM.out; omega
      have HAR := Lib.hid haR
      have HBR := Lib.hid hbR
      clear ha' hka hb' hkb haR hbR HLn hd0
      go_wp2_with fail
      clear hwa hwb
      have hMl : Hid (M.length ≤ 300) := Lib.hid (by have := HM.out; omega)
      refine (baseR_calls HT.out HGood.out hMl.out a' b').mono ?_
      rintro e w3 ⟨u3, rfl, hN3, hx3⟩
      obtain ⟨A3, c3, hu3, _⟩ := hN3.1.rd.open_
      subst hu3
      have HT3 := Lib.hid (HT.out.ext hx3)
      have HN3 := Lib.hid hN3
      have HX3 := Lib.hid (HXB.out.trans hx3)
      have HMX := Lib.hid (deepF_may HGood.out 4 a' b')
      clear hN3 hx3
      obtain ⟨X, hX⟩ : ∃ X, deepF M 4 a' b' = X := ⟨_, rfl⟩
      rw [hX] at HN3 HMX ⊢
      have HXe := Lib.hid hX
      obtain ⟨xn, hxn⟩ : ∃ n, X.length = n := ⟨_, rfl⟩
      rw [hxn] at HN3 ⊢
      have HXN := Lib.hid hxn
      clear hX hxn
      go_wp2_with fail
      refine (baseR_calls HT3.out HGood.out hMl.out b' a').mono ?_
      rintro e w4 ⟨u4, rfl, hN4, hx4⟩
      rw [deepF_swap, HXe.out] at hN4
      obtain ⟨A4, n4, c4, rfl⟩ := hN4.1.slice
      have HS4 := Lib.hid (sameFiles_calls _ _ _ _ _ _ w4 hN4.rdF ((HN3.out.ext hx4).rdF))
      have HT4 := Lib.hid (HT3.out.ext hx4)
      have HN4 := Lib.hid (HN3.out.ext hx4)
      have HX4 := Lib.hid (HX3.out.trans hx4)
      clear hN4 hx4 HN3 HT3 HX3
      go_wp2_with fail
      refine HS4.out.mono ?_
      rintro e w5 ⟨rfl, hx5⟩
      rw [sameB_refl]
      have HMy := Lib.hid (may_calls _ X _ w5 ((HN4.out.ext hx5).rdF) (by have := may_len HMX.out; omega) (may_size HMX.out))
      have HT5 := Lib.hid (HT4.out.ext hx5)
      have HN5 := Lib.hid (HN4.out.ext hx5)
      have HX5 := Lib.hid (HX4.out.trans hx5)
      clear HS4 hx5 HN4 HT4 HX4
      go_wp2_with fail
      refine HMy.out.mono ?_
      rintro e w6 ⟨rfl, hx6⟩
      rw [HMX.out]
      have HD6 := Lib.hid (deepR_calls (HT5.out.ext hx6) HGood.out hMl.out a' b' 0)
      have HN6 := Lib.hid (HN5.out.ext hx6)
      have HT6 := Lib.hid (HT5.out.ext hx6)
      have HX6 := Lib.hid (HX5.out.trans hx6)
      clear HMy hx6 HN5 HX5 HT5
      go_wp2_with fail
      refine HD6.out.mono ?_
      rintro e w7 ⟨u7, rfl, hN7, hx7⟩
      rw [show (min (0 : Int) 4).toNat = 0 from rfl] at hN7
      have hN7' : New EF 39 w6.heap.size w7 u7 [] := hN7
      obtain ⟨A7, c7, rfl, _⟩ := hN7'.1.rd.open_
      have HB7 := Lib.hid (best_calls (HT6.out.ext hx7) HGood.out hMl.out a' b')
      have HN7 := Lib.hid (HN6.out.ext hx7)
      have HT7 := Lib.hid (HT6.out.ext hx7)
      have HX7 := Lib.hid (HX6.out.trans hx7)
      clear HD6 hN7 hN7' hx7 HN6 HX6 HT6
      go_wp2_with fail
      refine HB7.out.mono ?_
      rintro e w8 ⟨u8, rfl, hN8, hx8⟩
      have HB8 := Lib.hid (show ∀ z ∈ bestF M a' b', 1 ≤ z ∧ z ≤ (M.length : Int) from fun z hz => bestF_mem hz)
      have HX8 := Lib.hid (HX7.out.trans hx8)
      have HT8 := Lib.hid (HT7.out.ext hx8)
      have HN8' := Lib.hid (HN7.out.ext hx8)
      have HNil : Hid (bestF M a' b' = [] → xn = 0) := Lib.hid fun h => by rw [← HXN.out, ← HXe.out, deepF_nil h]; rfl
      have HOne : Hid (∀ z, bestF M a' b' = [z] → X = treeC M z) := Lib.hid fun z h => by rw [← HXe.out]; exact deepF_one h
      have HIs : Hid ((aheadF M b').contains a' = true → X = treeC M a') := Lib.hid fun h => by rw [← HXe.out]; exact deepF_one (bestF_is HGood.out (by simpa using h))
      generalize bestF M a' b' = bs at hN8 HB8 HNil HOne
      obtain ⟨A8, c8, hu8, hO8⟩ := hN8.1.rd.open_
      subst hu8
      clear HB7 hN8 hx8 HN7 HT7 HX7
      cases bs with
      | nil =>
        have hx0 := HNil.out rfl
        clear hO8 HOne HNil HB8
        have hxz : ((xn : Int) == 0) = true := by rw [beq_iff_eq]; omega
        go_wp2_with fail
        refine (awake13_calls w8).mono ?_
        rintro e w9 ⟨rfl, hx9⟩
        go_wp2_with fail
        go_ret
        exact ⟨rfl, HX8.out.trans hx9⟩
      | cons z rest =>
        obtain ⟨bb, off, hA8, _, hbl, e0⟩ := hO8.rd.num (i := 0) (by simp)
        subst hA8
        have e0' : w8.cell? ⟨bb, off, none⟩ = some (.int .i64 z) := e0
        have hzR := HB8.out z (List.mem_cons_self ..)
        obtain ⟨bn, hbn⟩ : ∃ n, (z :: rest).length = n := ⟨_, rfl⟩
        have HBN := Lib.hid hbn
        have hbn0 : 0 < bn := by rw [← hbn]; simp
        rw [hbn]
        have hb0 : ((bn : Int) == 0) = false := by rw [beq_eq_false_iff_ne]; omega
        have hb1 : (0 : Int) < (bn : Int) := by omega
        have HG9 := Lib.hid (getOk_calls HT8.out z HGood.out.small hzR)
        have HOne' : Hid (bn = 1 → X = treeC M z) := Lib.hid fun h => by
          have h1 := HBN.out
          rw [h, List.length_cons] at h1
          have : rest = [] := List.eq_nil_of_length_eq_zero (by omega)
          subst this
          exact HOne.out z rfl
        clear hO8 e0 hbn HOne HNil HB8 hzR
        go_wp2_with fail
        refine HG9.out.mono ?_
        rintro e w9 ⟨pa, ta, pn, pc, tn, tc, nt, rfl, hN9, hx9⟩
        have HT9 := Lib.hid (HT8.out.ext (hx9.alloc (.cells #[.slice pa pn pc, .slice ta tn tc, .string nt] 42)))
        have HX9 := Lib.hid (HX8.out.trans (hx9.alloc (.cells #[.slice pa pn pc, .slice ta tn tc, .string nt] 42)))
        have HN9 := Lib.hid (hN9.ext ((Kp.refl _ w9).alloc (.cells #[.slice pa pn pc, .slice ta tn tc, .string nt] 42)))
        have HNx := Lib.hid (HN8'.out.ext (hx9.alloc (.cells #[.slice pa pn pc, .slice ta tn tc, .string nt] 42)))
        clear HG9 hN9 hx9 e0' HN8' HT8 HX8
        have HTail : Hid (∀ (w10 : World), Ext w w10 → RepoX repoT I D w10 rb M 60 → New EF 39 w2.heap.size w10 (.slice A3 xn c3) X → True) := Lib.hid fun _ _ _ _ => trivial
        by_cases hb2 : bn = 1
        · have hbd : ((bn : Int) == 1) = true := by rw [beq_iff_eq]; omega
          have hXt := HOne'.out hb2
          have HS10 := Lib.hid (sameFiles_calls _ _ _ _ _ _ (w9.alloc (.cells #[.slice pa pn pc, .slice ta tn tc, .string nt] 42)) HNx.out.rdF HN9.out.rdF)
          rw [← hXt] at HS10
          clear HOne' hXt
          go_wp2_with fail
          refine HS10.out.mono ?_
          rintro e w10 ⟨rfl, hx10⟩
          rw [sameB_refl]
          have HG11 := Lib.hid (getOk_calls (HT9.out.ext hx10) a' HGood.out.small HAR.out)
          have HT10 := Lib.hid (HT9.out.ext hx10)
          have HX10 := Lib.hid (HX9.out.trans hx10)
          have HN10 := Lib.hid (HNx.out.ext hx10)
          clear HS10 hx10 HNx HT9 HX9 HN9
          go_wp2_with fail
          refine HG11.out.mono ?_
          rintro e w11 ⟨pa2, ta2, pn2, pc2, tn2, tc2, nt2, rfl, hN11, hx11⟩
          have hxc : Ext w11 (w11.alloc (.cells #[.slice pa2 pn2 pc2, .slice ta2 tn2 tc2, .string nt2] 42)) := (Kp.refl _ w11).alloc _
          have HI12 := Lib.hid (isR_calls (HT10.out.ext (hx11.trans hxc)) HGood.out hMl.out a' b')
          have HX12 := Lib.hid (HX10.out.trans (hx11.trans hxc))
          have HN12 := Lib.hid (hN11.ext hxc)
          have HNy := Lib.hid (HN10.out.ext (hx11.trans hxc))
          have c12 : (w11.alloc (.cells #[.slice pa2 pn2 pc2, .slice ta2 tn2 tc2, .string nt2] 42)).cell? ⟨w11.heap.size, 1, none⟩ = some (.slice ta2 tn2 tc2) := (Blk.new w11 _ _).cell 1
          have hl12 : w11.heap.size < (w11.alloc (.cells #[.slice pa2 pn2 pc2, .slice ta2 tn2 tc2, .string nt2] 42)).heap.size := by simp
          clear HG11 hN11 hx11 hxc HT10 HX10 HN10
          go_wp2_with fail
          generalize (w11.alloc (.cells #[.slice pa2 pn2 pc2, .slice ta2 tn2 tc2, .string nt2] 42)) = w12 at HI12 HX12 HN12 HNy c12 hl12 ⊢
          refine HI12.out.mono ?_
          rintro e w13 ⟨rfl, hx13⟩
          have c13 : w13.cell? ⟨w11.heap.size, 1, none⟩ = some (.slice ta2 tn2 tc2) := (hx13.cell (p := ⟨w11.heap.size, 1, none⟩) hl12 trivial).trans c12
          have HX13 := Lib.hid (HX12.out.trans hx13)
          have HN13 := Lib.hid (HN12.out.ext hx13)
          have HNz := Lib.hid (HNy.out.ext hx13)
          cases hq : (aheadF M b').contains a' with
          | false =>
            clear HI12 hx13 HX12 HN12 HNy c12 hq HIs HN13 HNz
            go_wp2_with fail
            refine (awake13_calls w13).mono ?_
            rintro e w14 ⟨rfl, hx14⟩
            go_wp2_with fail
            go_ret
            exact ⟨rfl, HX13.out.trans hx14⟩
          | true =>
            have hXa := HIs.out hq
            have HS13 := Lib.hid (sameFiles_calls _ _ _ _ _ _ w13 HNz.out.rdF HN13.out.rdF)
            rw [← hXa] at HS13
            clear HI12 hx13 HX12 HN12 HNy c12 hq HIs HN13 HNz hXa
            go_wp2_with fail
            refine HS13.out.mono ?_
            rintro e w14 ⟨rfl, hx14⟩
            rw [sameB_refl]
            have HX14 := Lib.hid (HX13.out.trans hx14)
            clear HS13 hx14
            go_wp2_with fail
            refine (awake13_calls w14).mono ?_
            rintro e w15 ⟨rfl, hx15⟩
            go_wp2_with fail
            go_ret
            exact ⟨rfl, HX14.out.trans hx15⟩
        · have hbd : ((bn : Int) == 1) = false := by rw [beq_eq_false_iff_ne]; omega
          have HG11 := Lib.hid (getOk_calls HT9.out a' HGood.out.small HAR.out)
          have HT10 := HT9
          have HX10 := HX9
          have HN10 := HNx
          clear HOne' HT9 HX9 HNx HN9
          go_wp2_with fail
          refine HG11.out.mono ?_
          rintro e w11 ⟨pa2, ta2, pn2, pc2, tn2, tc2, nt2, rfl, hN11, hx11⟩
          have hxc : Ext w11 (w11.alloc (.cells #[.slice pa2 pn2 pc2, .slice ta2 tn2 tc2, .string nt2] 42)) := (Kp.refl _ w11).alloc _
          have HI12 := Lib.hid (isR_calls (HT10.out.ext (hx11.trans hxc)) HGood.out hMl.out a' b')
          have HX12 := Lib.hid (HX10.out.trans (hx11.trans hxc))
          have HN12 := Lib.hid (hN11.ext hxc)
          have HNy := Lib.hid (HN10.out.ext (hx11.trans hxc))
          have c12 : (w11.alloc (.cells #[.slice pa2 pn2 pc2, .slice ta2 tn2 tc2, .string nt2] 42)).cell? ⟨w11.heap.size, 1, none⟩ = some (.slice ta2 tn2 tc2) := (Blk.new w11 _ _).cell 1
          have hl12 : w11.heap.size < (w11.alloc (.cells #[.slice pa2 pn2 pc2, .slice ta2 tn2 tc2, .string nt2] 42)).heap.size := by simp
          clear HG11 hN11 hx11 hxc HT10 HX10 HN10
          go_wp2_with fail
          generalize (w11.alloc (.cells #[.slice pa2 pn2 pc2, .slice ta2 tn2 tc2, .string nt2] 42)) = w12 at HI12 HX12 HN12 HNy c12 hl12 ⊢
          refine HI12.out.mono ?_
          rintro e w13 ⟨rfl, hx13⟩
          have c13 : w13.cell? ⟨w11.heap.size, 1, none⟩ = some (.slice ta2 tn2 tc2) := (hx13.cell (p := ⟨w11.heap.size, 1, none⟩) hl12 trivial).trans c12
          have HX13 := Lib.hid (HX12.out.trans hx13)
          have HN13 := Lib.hid (HN12.out.ext hx13)
          have HNz := Lib.hid (HNy.out.ext hx13)
          cases hq : (aheadF M b').contains a' with
          | false =>
            clear HI12 hx13 HX12 HN12 HNy c12 hq HIs HN13 HNz
            go_wp2_with fail
            refine (awake13_calls w13).mono ?_
            rintro e w14 ⟨rfl, hx14⟩
            go_wp2_with fail
            go_ret
            exact ⟨rfl, HX13.out.trans hx14⟩
          | true =>
            have hXa := HIs.out hq
            have HS13 := Lib.hid (sameFiles_calls _ _ _ _ _ _ w13 HNz.out.rdF HN13.out.rdF)
            rw [← hXa] at HS13
            clear HI12 hx13 HX12 HN12 HNy c12 hq HIs HN13 HNz hXa
            go_wp2_with fail
            refine HS13.out.mono ?_
            rintro e w14 ⟨rfl, hx14⟩
            rw [sameB_refl]
            have HX14 := Lib.hid (HX13.out.trans hx14)
            clear HS13 hx14
            go_wp2_with fail
            refine (awake13_calls w14).mono ?_
            rintro e w15 ⟨rfl, hx15⟩
            go_wp2_with fail
            go_ret
            exact ⟨rfl, HX14.out.trans hx15⟩

end Go.Proofs.YtgjbfkaepalkiaaGreatDoor
