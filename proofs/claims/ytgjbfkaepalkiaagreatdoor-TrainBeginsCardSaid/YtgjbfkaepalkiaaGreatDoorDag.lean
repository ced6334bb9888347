/-
  dag at a repository: Parents, Ahead: sequences of numbers.
-/
import Derived.Test.YtgjbfkaepalkiaaGreatDoorDagQ
import Derived.Test.YtgjbfkaepalkiaaGreatDoorPile
namespace Go.Proofs.YtgjbfkaepalkiaaGreatDoor
open Go.RowKit
set_option linter.unusedVariables false
set_option linter.unusedSimpArgs false
attribute [local go_sem] Oper.semAt_some

abbrev repoT : TypeId := 99
section
variable {I D : Fp} {rb : Nat} {cs : List Cm} {room : Nat}

set_option maxHeartbeats 800000 in
/-- Parents' function. -/
theorem parents1_calls (b1 b2 : Nat) (n : Int) (S : Fp) (W : World) (y : Value) (hyf : ∃ f a b, y = .func f a b) (h1 : W.cell? ⟨b1, 0, none⟩ = some (.pointer (some ⟨rb, 0, none⟩))) (h2 : W.cell? ⟨b2, 0, none⟩ = some (.int .i64 n))
    (hR : RepoX repoT I D W rb cs room) (hG : GoodR cs)
    (J Jx : List Int → Fp → World → Prop) (D₀ : Fp) (hJ : Frames J) (hJx : Frames Jx) (h0 : J [] D₀ W) (hD : ∀ k, D₀ k → k < W.heap.size ∧ ¬ S k)
    (hy : ∀ pre x D W1, J pre D W1 → (∀ k, D k → k < W1.heap.size) → (pre ++ [x]) <+: parentsC cs n → Sub D₀ D W W1 → Kp (fun k => ¬ D₀ k) W W1 → CallV Tryz.prog y (encI' x) W1 fun e W2 =>
      ∃ D', Sub D D' W1 W2 ∧ Kp (fun k => ¬ D k) W1 W2 ∧ (∀ k, D' k → k < W2.heap.size) ∧ ((e = .returned (.bool true) ∧ J (pre ++ [x]) D' W2) ∨ (e = .returned (.bool false) ∧ Jx (pre ++ [x]) D' W2))) :
    Calls Tryz.prog 147 #[y, .pointer (some ⟨b1, 0, none⟩), .pointer (some ⟨b2, 0, none⟩)] W fun e W' => (∃ v, e = .returned v) ∧ ∃ D', Sub D₀ D' W W' ∧ Kp (fun k => ¬ D₀ k) W W' ∧ (∀ k, D' k → k < W'.heap.size) ∧ (J (parentsC cs n) D' W' ∨ ∃ pre, pre <+: parentsC cs n ∧ Jx pre D' W') := by
  obtain ⟨yf, ya, yb, rfl⟩ := hyf
  have HG := Lib.hid fun W' (hx : Ext W W') => getR_calls (hR.ext hx) n hG.small
  have hp2 := parents_two hG n
  have HY := Lib.hid hy
  have HJ0 := Lib.hid h0
  have HDD := Lib.hid hD
  have hb1 := cell_lt h1
  have hb2 := cell_lt h2
  dsimp only at hb1 hb2
  have hpc : ∀ c, ((getC cs n = some c) ∨ (getC cs n = none ∧ c = noC)) → parentsC cs n = c.parents := by
    rintro c (h | ⟨h, rfl⟩)
    · unfold parentsC; rw [h]; rfl
    · unfold parentsC; rw [h]; rfl
  have HPC := Lib.hid hpc
  clear hy hR h0 hD hpc
  obtain ⟨xs, hxs⟩ : ∃ xs, parentsC cs n = xs := ⟨_, rfl⟩
  rw [hxs] at HY HPC hp2 ⊢
  clear hxs
  refine calls_of_body Tryz.func147 rfl ?_
  simp only [Tryz.ntmps147, List.size_toArray, List.length_cons, List.length_nil, Nat.reduceAdd, Nat.reduceSub, Array.replicate_succ, Array.replicate_zero, List.push_toArray, List.append_toArray, List.nil_append, List.cons_append]
  gi_wp2_with fail
  refine wide_call ((HG.out _ (by first | exact Kp.refl _ _ | exact (Kp.refl _ W).alloc _)).mono ?_)
  rintro e w1 ⟨sv, ok, c, rfl, ⟨k, rfl, hN⟩, hx1, hok⟩
  have hpc := HPC.out c (hok.imp (fun h => h.2) fun h => h.2)
  have hx : Ext W w1 := by first | exact hx1 | exact ((Kp.refl _ W).alloc _).trans hx1
  subst hpc
  obtain ⟨⟨pa, pn, pc⟩, ⟨ta, tn, tc⟩, nt⟩ := k
  obtain ⟨A, cp, hv, hO⟩ := (hN.p.1.rd.wide (T := fun k => W.heap.size ≤ k ∧ k < w1.heap.size) fun k hk => ⟨hN.p.2 k hk, hN.p.1.lt hk⟩).open_
  dsimp only [SliceV.val, KS.val] at hv ⊢
  injection hv with e1 e2 e3
  subst e1 e2 e3
  have hlen := hO.len
  obtain ⟨n', hn'⟩ : ∃ n', c.parents.length = n' := ⟨_, rfl⟩
  have HNL := Lib.hid hn'
  rw [hn'] at hlen hp2 ⊢
  have HO := Lib.hid fun W' (hW : Kp (fun k => W.heap.size ≤ k ∧ k < w1.heap.size) w1 W') => hO.kp hW
  have hsz := hx.size
  clear hN hO HPC HG hok hx1 hn'
  gi_wp2_with fail
  have hx2 : Ext W (w1.alloc (.cells #[.slice pa n' pc, .slice ta tn tc, .string nt] 42)) := hx.alloc _
  have HO2 := Lib.hid fun W' (hW : Kp (fun k => W.heap.size ≤ k ∧ k < w1.heap.size) (w1.alloc (.cells #[.slice pa n' pc, .slice ta tn tc, .string nt] 42)) W') => HO.out W' (((Kp.refl _ w1).alloc _).trans hW)
  have hz2 : w1.heap.size < (w1.alloc (.cells #[.slice pa n' pc, .slice ta tn tc, .string nt] 42)).heap.size := by simp
  clear HO hx
  generalize w1.alloc (.cells #[.slice pa n' pc, .slice ta tn tc, .string nt] 42) = w2 at hx2 HO2 hz2 ⊢
  have hDlt : ∀ j, D₀ j → j < W.heap.size := fun j hj => (HDD.out j hj).1
  have HDL := Lib.hid hDlt
  clear hDlt
  gi_loopw [17] (fun i wr => ∃ (k : Nat) (D : Fp), k ≤ n' ∧ i = .int .i64 k ∧ J (c.parents.take k) D wr ∧ (∀ j, D j → j < wr.heap.size) ∧ Sub D₀ D w2 wr ∧ Kp (fun j => ¬ D₀ j) w2 wr) (fun i _ => n' - (intOf i).toNat)
  case atStart => exact ⟨0, D₀, Nat.zero_le _, rfl, hJ _ _ _ _ HJ0.out HDL.out (Kp.of_ext hx2), fun j hj => hx2.lt (HDL.out j hj), Sub.refl _ _, Kp.refl _ _⟩
  case round =>
    obtain ⟨k, D, hk, rfl, hIk, hDk, hSub, hKp⟩ := hrel
    have hSubW : Sub D₀ D W wr := fun j hj => (hSub j hj).imp id fun h => ⟨by have := hx2.size; omega, h.2⟩
    have hKpW : Kp (fun j => ¬ D₀ j) W wr := (Kp.of_ext hx2).trans hKp
    by_cases hlt : k < n'
    · have hks : Kp (fun k => W.heap.size ≤ k ∧ k < w1.heap.size) w2 wr := hKp.mono fun j hj hs hd => by have := HDL.out j hd; omega
      have hkc : k < c.parents.length := by have := HNL.out; omega
      obtain ⟨b2', off, rfl, hS2, hb2', hc0⟩ := (HO2.out _ hks).rd.num hkc
      have HT : Hid (c.parents.take (k + 1) = c.parents.take k ++ [c.parents[k]]) := Lib.hid (by rw [List.take_succ_eq_append_getElem hkc])
      have hpf := take_snoc_prefix c.parents hkc
      have hd : decide ((k : Int) < (n' : Int)) = true := decide_eq_true (by omega)
      have hw : IntKind.i64.wrap ((k : Int) + 1) = (k : Int) + 1 := IntWalk.i64_in _ (by omega)
      have h0 : (0 : Int) ≤ (k : Int) := by omega
      have h1' : (k : Int) < (n' : Int) := by omega
      have hcall := HY.out (c.parents.take k) c.parents[k] D wr hIk hDk hpf hSubW hKpW
      rw [← HT.out] at hcall
      generalize c.parents[k] = x at hc0 hcall HT
      have HC := Lib.hid hcall
      clear HY hcall hpf hIk hkc h1 h2
      gi_wp2_with (refine listIn_callV rfl rfl (.func yf ya yb) rfl _ rfl ?_)
      refine HC.out.mono ?_
      rintro e W2 ⟨D', hs', hk', hd', h'⟩
      have hs2 : Sub D₀ D' w2 W2 := hSub.trans hs' hKp.size hk'.size
      have hk2 : Kp (fun j => ¬ D₀ j) w2 W2 := hKp.trans' hk' fun j hj hn hd => by
        rcases hSub j hd with h | h
        · exact hn h
        · omega
      have hs3 : Sub D₀ D' W W2 := hSubW.trans hs' hKpW.size hk'.size
      have hk3 : Kp (fun j => ¬ D₀ j) W W2 := (Kp.of_ext hx2).trans hk2
      clear hc0 HC hks
      rcases h' with ⟨rfl, hI2⟩ | ⟨rfl, hIx2⟩
      · refine ⟨_, rfl, ?_⟩
        gi_wp2_with fail
        go_roundw
        case rel => exact ⟨k + 1, D', by omega, by go_num, hI2, hd', hs2, hk2⟩
        case measure => simp [intOf]; omega
      · refine ⟨_, rfl, ?_⟩
        gi_wp2_with fail
        exact leaves0 (results_none rfl _ _ _) ⟨⟨_, rfl⟩, D', hs3, hk3, hd', .inr ⟨_, List.take_prefix _ _, hIx2⟩⟩
    · have hd : decide ((k : Int) < (n' : Int)) = false := decide_eq_false (by omega)
      rw [List.take_of_length_le (by have := HNL.out; omega)] at hIk
      clear HY h1 h2
      gi_wp2_with fail
      exact leaves0 (results_none rfl _ _ _) ⟨⟨_, rfl⟩, D, hSubW, hKpW, hDk, .inl hIk⟩

/-- dag.Parents. -/
theorem parents_calls {w : World} (h : RepoX repoT I D w rb cs room) (hG : GoodR cs) (n : Int) : Calls Tryz.prog 109 #[.pointer (some ⟨rb, 0, none⟩), .int .i64 n] w fun e w' =>
    ∃ u, e = .returned u ∧ SeqV Tryz.prog (fun k => (D k ∨ I k) ∨ (w.heap.size ≤ k ∧ k < w'.heap.size)) w' u encI' (parentsC cs n) ∧ Ext w w' := by
  have H := Lib.hid h
  clear h
  go_enter Tryz.func109, Tryz.ntmps109
  go_wp2_with fail
  go_ret
  have hx : Ext w ((w.alloc (.cells #[.pointer (some ⟨rb, 0, none⟩)] 25)).alloc (.cells #[.int .i64 n] 3)) := ((Kp.refl _ w).alloc _).alloc _
  refine ⟨.func (.func 147) #[] #[.pointer (some ⟨w.heap.size, 0, none⟩), .pointer (some ⟨w.heap.size + 1, 0, none⟩)], rfl, ⟨⟨_, _, _, rfl⟩, ?_⟩, hx⟩
  intro W hW y J Jx D₀ hyf hJ hJx h0 hD hy
  have hz := hW.size
  simp only [World.size_alloc] at hz
  have hb1 := ((Blk.new w 25 #[.pointer (some ⟨rb, 0, none⟩)]).ext ((Kp.refl _ _).alloc (.cells #[.int .i64 n] 3))).kp hW (.inr ⟨Nat.le_refl _, by simp; omega⟩)
  have hb2 := (Blk.new (w.alloc (.cells #[.pointer (some ⟨rb, 0, none⟩)] 25)) 3 #[.int .i64 n]).kp hW (.inr ⟨by simp, by simp⟩)
  simp only [World.size_alloc] at hb2
  have hR : RepoX repoT I D W rb cs room := (H.out.ext hx).kp hW (fun k hk => .inl (.inl hk)) fun k hk => .inl (.inr hk)
  exact callF_fn (enters_of Tryz.func147 (by kernel_rfl) rfl) (parents1_calls w.heap.size (w.heap.size + 1) n _ W y hyf hb1.cell0 hb2.cell0 hR hG J Jx D₀ hJ hJx h0 hD hy)

/-! ### Ahead -/
/-- What the memory is while a pile goes down: the pile at pb, and what the caller's word J says of D. -/
structure AhM (J : List Int → Fp → World → Prop) (D₀ : Fp) (W wr : World) (pb : Nat) (pre l : List Int) (Dp E : Fp) : Prop where
  pile : PileAt Dp wr pb l
  j : J pre E wr
  dlt : ∀ k, E k → k < wr.heap.size
  low : ∀ k, Dp k → W.heap.size ≤ k
  apart : ∀ k, Dp k → ¬ E k
  sub : Sub D₀ E W wr
  kp : Kp (fun k => ¬ D₀ k) W wr
section
variable {J J' : List Int → Fp → World → Prop} {D₀ Dp Dp' E E' : Fp} {W wr w' : World} {pb : Nat} {pre pre' l l' : List Int}
theorem AhM.piled (h : AhM J D₀ W wr pb pre l Dp E) (hJ : Frames J) (hP : PileAt Dp' w' pb l') (hs : Sub Dp Dp' wr w') (hk : Kp (fun k => ¬ Dp k) wr w') : AhM J D₀ W w' pb pre l' Dp' E := by
  have hz := h.kp.size
  refine ⟨hP, hJ _ _ _ _ h.j h.dlt (hk.mono fun k _ he hd => h.apart k hd he), fun k hk' => hk.lt (h.dlt k hk'), fun k hk' => ?_, fun k hk' he => ?_, fun k hk' => (h.sub k hk').imp id fun h' => ⟨h'.1, hk.lt h'.2⟩, h.kp.trans' hk fun k hk' _ hd => by have := h.low k hd; omega⟩
  · rcases hs k hk' with h' | h'
    · exact h.low k h'
    · omega
  · rcases hs k hk' with h' | h'
    · exact h.apart k h' he
    · have := h.dlt k he; omega
theorem AhM.ext (h : AhM J D₀ W wr pb pre l Dp E) (hJ : Frames J) (hx : Ext wr w') : AhM J D₀ W w' pb pre l Dp E :=
  h.piled hJ (h.pile.ext hx) (fun k hk => .inl hk) (Kp.of_ext hx)
theorem AhM.told (h : AhM J D₀ W wr pb pre l Dp E) (hs : Sub E E' wr w') (hk : Kp (fun k => ¬ E k) wr w') (hlt : ∀ k, E' k → k < w'.heap.size) (hj : J' pre' E' w') : AhM J' D₀ W w' pb pre' l Dp E' := by
  have hz := h.kp.size
  refine ⟨h.pile.kp hk fun k hk' => h.apart k hk', hj, hlt, h.low, fun k hk' he => ?_, h.sub.trans hs h.kp.size hk.size, h.kp.trans' hk fun k hk' hn he => ?_⟩
  · rcases hs k he with h' | h'
    · exact h.apart k hk' h'
    · have := h.pile.2 k hk'; omega
  · rcases h.sub k he with h' | h'
    · exact hn h'
    · omega
end

set_option maxHeartbeats 2000000 in
/-- Ahead's function. -/
theorem ahead1_calls (b1 b2 : Nat) (n : Int) (S : Fp) (W : World) (y : Value) (hyf : ∃ f a b, y = .func f a b) (h1 : W.cell? ⟨b1, 0, none⟩ = some (.pointer (some ⟨rb, 0, none⟩))) (h2 : W.cell? ⟨b2, 0, none⟩ = some (.int .i64 n))
    (hR : RepoX repoT I D W rb cs room) (hDS : ∀ k, D k → S k) (hIS : ∀ k, I k → S k) (hb1S : S b1) (hb2S : S b2) (hG : GoodR cs) (hn : cs.length ≤ 300)
    (J Jx : List Int → Fp → World → Prop) (D₀ : Fp) (hJ : Frames J) (hJx : Frames Jx) (h0 : J [] D₀ W) (hD : ∀ k, D₀ k → k < W.heap.size ∧ ¬ S k)
    (hy : ∀ pre x D W1, J pre D W1 → (∀ k, D k → k < W1.heap.size) → (pre ++ [x]) <+: aheadF cs n → Sub D₀ D W W1 → Kp (fun k => ¬ D₀ k) W W1 → CallV Tryz.prog y (encI' x) W1 fun e W2 =>
      ∃ D', Sub D D' W1 W2 ∧ Kp (fun k => ¬ D k) W1 W2 ∧ (∀ k, D' k → k < W2.heap.size) ∧ ((e = .returned (.bool true) ∧ J (pre ++ [x]) D' W2) ∨ (e = .returned (.bool false) ∧ Jx (pre ++ [x]) D' W2))) :
    Calls Tryz.prog 103 #[y, .pointer (some ⟨b1, 0, none⟩), .pointer (some ⟨b2, 0, none⟩)] W fun e W' => (∃ v, e = .returned v) ∧ ∃ D', Sub D₀ D' W W' ∧ Kp (fun k => ¬ D₀ k) W W' ∧ (∀ k, D' k → k < W'.heap.size) ∧ (J (aheadF cs n) D' W' ∨ ∃ pre, pre <+: aheadF cs n ∧ Jx pre D' W') := by
  obtain ⟨yf, ya, yb, rfl⟩ := hyf
  have HGet := Lib.hid fun W' (hx : Ext W W') => getR_calls (hR.ext hx) n hG.small
  have HKS := Lib.hid (show ∀ W', Kp (fun k => ¬ D₀ k) W W' → Kp S W W' from fun W' h => h.mono fun k _ hs hd => (hD k hd).2 hs)
  have HPar := Lib.hid fun W' (hx : Kp S W W') c => parents_calls (hR.kp hx hDS hIS) hG c
  have HDI := Lib.hid (show ∀ k, (D k ∨ I k) → k < W.heap.size from fun k hk => hk.elim (hR.ld k) (hR.li k))
  have HY := Lib.hid hy
  have HJ0 := Lib.hid h0
  have HDD := Lib.hid hD
  have HJ := Lib.hid hJ
  have HJx := Lib.hid hJx
  have HG := Lib.hid hG
  have hb1 := cell_lt h1
  have hb2 := cell_lt h2
  dsimp only at hb1 hb2
  have HB1 := Lib.hid (show ∀ W', Kp (fun k => ¬ D₀ k) W W' → W'.cell? ⟨b1, 0, none⟩ = some (.pointer (some ⟨rb, 0, none⟩)) from fun W' hk => (hk.cell (p := ⟨b1, 0, none⟩) hb1 fun h => (hD _ h).2 hb1S).trans h1)
  have hno : getC cs n = none → aheadF cs n = [] := fun h => by unfold aheadF; rw [h]; rfl
  have hyes : ∀ c, getC cs n = some c → (getC cs n).isSome = true ∧ n ≤ 300 := fun c h => ⟨by rw [h]; rfl, by have := (getC_some h).2.1; omega⟩
  have HNO := Lib.hid hno
  have HYES := Lib.hid hyes
  clear hy hR h0 hD hno hyes hDS hIS hJ hJx hG hn
  refine calls_of_body Tryz.func103 rfl ?_
  simp only [Tryz.ntmps103, List.size_toArray, List.length_cons, List.length_nil, Nat.reduceAdd, Nat.reduceSub, Array.replicate_succ, Array.replicate_zero, List.push_toArray, List.append_toArray, List.nil_append, List.cons_append]
  gi_wp2_with fail
  refine wide_call ((HGet.out _ (by first | exact Kp.refl _ _ | exact (Kp.refl _ W).alloc _)).mono ?_)
  rintro e w1 ⟨sv, ok, c, rfl, ⟨k, rfl, hN⟩, hx1, hok⟩
  obtain ⟨⟨pa, pn, pc⟩, ⟨ta, tn, tc⟩, nt⟩ := k
  dsimp only [SliceV.val, KS.val]
  clear HGet hN
  rcases hok with ⟨rfl, hc⟩ | ⟨rfl, hc, _⟩
  rotate_left
  · have he := HNO.out hc
    clear hc h1 h2
    gi_wp2_with fail
    rw [he]
    exact leaves0 (results_none rfl _ _ _) ⟨⟨_, rfl⟩, D₀, fun k hk => .inl hk, Kp.of_ext (hx1.alloc _), fun k hk => (hx1.alloc _).lt (HDD.out k hk).1, .inl (HJ.out _ _ _ _ HJ0.out (fun k hk => (HDD.out k hk).1) (Kp.of_ext (hx1.alloc _)))⟩
  · obtain ⟨hsome, hn300⟩ := HYES.out c hc
    have HSome := Lib.hid hsome
    clear hc hsome HYES HNO
    have c1 : w1.cell? ⟨b1, 0, none⟩ = some (.pointer (some ⟨rb, 0, none⟩)) := (hx1.cell (p := ⟨b1, 0, none⟩) hb1 trivial).trans h1
    have c2 : w1.cell? ⟨b2, 0, none⟩ = some (.int .i64 n) := (hx1.cell (p := ⟨b2, 0, none⟩) hb2 trivial).trans h2
    gi_wp2_with fail
    have hx2 : Ext W (w1.alloc (.cells #[.slice pa pn pc, .slice ta tn tc, .string nt] 42)) := hx1.alloc _
    have d2 : (w1.alloc (.cells #[.slice pa pn pc, .slice ta tn tc, .string nt] 42)).cell? ⟨b2, 0, none⟩ = some (.int .i64 n) := (((Kp.refl All w1).alloc _).cell (p := ⟨b2, 0, none⟩) (hx1.lt hb2) trivial).trans c2
    generalize w1.alloc (.cells #[.slice pa pn pc, .slice ta tn tc, .string nt] 42) = w2 at hx2 d2 ⊢
    clear c1 c2 hx1
    refine wide_call ((newPile_calls w2).mono ?_)
    rintro e w3 ⟨rfl, hP, hx3, hz3⟩
    have hxW3 := hx2.trans hx3
    have hb2' : b2 < w2.heap.size := hx2.lt hb2
    have d3 : w3.cell? ⟨b2, 0, none⟩ = some (.int .i64 n) := (hx3.cell (p := ⟨b2, 0, none⟩) hb2' trivial).trans d2
    have hpbW : W.heap.size ≤ w2.heap.size := hx2.size
    have hP' := hP.ext ((Kp.refl _ w3).alloc (.cells #[.int .i64 n] 3))
    have HPut := Lib.hid (putAll_calls hP' List.Pairwise.nil (.slice (some ⟨w3.heap.size, 0, none⟩) 1 1) [n] (Own.made w3 3 [n] (by simp [maxLen])).rd (fun k hk e => by subst e; simp [Value.ownBlock] at hk; omega) (by simp))
    have HM0 := Lib.hid (show AhM J D₀ W (w3.alloc (.cells #[.int .i64 n] 3)) w2.heap.size [] [] (fun k => k = w2.heap.size) D₀ from
      ⟨hP', HJ.out _ _ _ _ HJ0.out (fun k hk => (HDD.out k hk).1) (Kp.of_ext (hxW3.alloc _)), fun k hk => (hxW3.alloc _).lt (HDD.out k hk).1, fun k hk => by omega, fun k hk he => by have := (HDD.out k he).1; omega, fun k hk => .inl hk, Kp.of_ext (hxW3.alloc _)⟩)
    generalize w2.heap.size = pb at hP hpbW hP' HPut HM0 ⊢
    clear d2 hP hP' hx2 hx3 hxW3 hz3 hb2'
    gi_wp2_with fail
    refine wide_call (HPut.out.mono ?_)
    rintro e w4 ⟨⟨r, rfl⟩, l', Dp, hP4, hs4, hk4, hso, hme, hle⟩
    have hl' : l' = [n] := by
      have h1 : l'.length = 1 := by simpa using hle
      obtain ⟨z, rfl⟩ := List.length_eq_one_iff.1 h1
      have := (hme n).2 (.inl (List.mem_singleton.2 rfl))
      rw [List.mem_singleton] at this
      rw [this]
    subst hl'
    have HM := Lib.hid (HM0.out.piled HJ.out hP4 hs4 hk4)
    clear HPut HM0 hP4 hs4 hk4 hso hme hle d3
    gi_wp2_with fail
    clear h1 h2
    gi_loopw [7] (fun i wr => ∃ (pre l : List Int) (last : Int) (Dp E : Fp), i = .int .i64 last ∧ AhInv cs n pre last l ∧ AhM J D₀ W wr pb pre l Dp E) (fun i wr => 3 * ahB n (intOf i) + pileLen wr pb)
    case atStart => exact ⟨[], [n], 0, Dp, D₀, rfl, AhInv.start HSome.out, HM.out⟩
    case round =>
      obtain ⟨pre, l, last, Dp', E, rfl, hA, hMr⟩ := hrel
      have HA := Lib.hid hA
      have HMr := Lib.hid hMr
      have hll : l.length ≤ 901 := by have := hA.len; omega
      have HW0 : Hid (pileLen wr pb = l.length) := Lib.hid hMr.pile.len
      clear hA hMr HM
      have HLen := Lib.hid (lenPile_calls HMr.out.pile)
      gi_wp2_with fail
      refine wide_call (HLen.out.mono ?_)
      rintro e w5 ⟨rfl, rfl⟩
      cases l with
      | nil =>
        have HE := Lib.hid HA.out.done
        gi_wp2_with fail
        refine leaves0 (results_none rfl _ _ _) ⟨⟨_, rfl⟩, E, HMr.out.sub, HMr.out.kp, HMr.out.dlt, .inl ?_⟩
        rw [HE.out]; exact HMr.out.j
      | cons c r =>
        have hd : decide ((0 : Int) < ((c :: r).length : Int)) = true := decide_eq_true (by rw [List.length_cons]; omega)
        have hd' : decide ((0 : Int) < (r.length : Int) + 1) = true := decide_eq_true (by omega)
        have HPop := Lib.hid (popPile_calls HMr.out.pile c r rfl (by omega))
        clear HLen
        gi_wp2_with fail
        refine wide_call (HPop.out.mono ?_)
        rintro e w5 ⟨rfl, Dq, hP5, hs5, hk5⟩
        have HM5 := Lib.hid (HMr.out.piled HJ.out hP5 hs5 hk5)
        clear HPop hP5 hs5 hk5
        by_cases hcl : c = last
        · subst hcl
          have hde : (c == c) = true := by simp
          have HA2 := Lib.hid HA.out.again
          have HL5 := Lib.hid HM5.out.pile.len
          gi_wp2_with fail
          go_roundw
          case rel => exact ⟨pre, r, c, Dq, E, rfl, HA2.out, HM5.out⟩
          case measure => rw [HL5.out, HW0.out]; simp
        · have hde : (c == last) = false := by rw [beq_eq_false_iff_ne]; exact hcl
          obtain ⟨ht1, ht2, ht3⟩ := HA.out.told hcl
          have HC := Lib.hid (HY.out pre c E w5 HM5.out.j HM5.out.dlt ht1 HM5.out.sub HM5.out.kp)
          have HT1 := Lib.hid ht1
          clear ht1
          gi_wp2_with (refine listIn_callV rfl rfl (.func yf ya yb) rfl _ rfl ?_)
          refine HC.out.mono ?_
          rintro e w6 ⟨E', hs6, hk6, hlt6, h6⟩
          rcases h6 with ⟨rfl, hj6⟩ | ⟨rfl, hj6⟩
          · have HM6 := Lib.hid (HM5.out.told hs6 hk6 hlt6 hj6)
            clear HC hs6 hk6 hlt6 hj6
            refine ⟨_, rfl, ?_⟩
            have hks := HKS.out _ HM6.out.kp
            have e1 : w6.cell? ⟨b1, 0, none⟩ = some (.pointer (some ⟨rb, 0, none⟩)) := HB1.out _ HM6.out.kp
            have HP6 := Lib.hid (HPar.out w6 hks c)
            clear hks
            gi_wp2_with fail
            refine wide_call (HP6.out.mono ?_)
            rintro e w7 ⟨u, rfl, hs7, hx7⟩
            obtain ⟨uf, ua, ub, rfl⟩ := hs7.isf
            have HS7 := Lib.hid hs7
            have hp2 := parents_two HG.out c
            have HLi := Lib.hid (listI_calls _ _ _ w7 hs7 (fun k hk => by
              have h1 := HM6.out.kp.size
              have h2 := hx7.size
              rcases hk with hk | hk
              · have := HDI.out k hk; omega
              · omega) (by omega))
            clear hs7
            gi_wp2_with fail
            refine wide_call (HLi.out.mono ?_)
            rintro e w8 ⟨lv, rfl, hN8, hx8⟩
            have HM8 := Lib.hid ((HM6.out.ext HJ.out hx7).ext HJ.out hx8)
            have HPut := Lib.hid (putAll_calls HM8.out.pile (List.pairwise_cons.1 HA.out.sorted).2 lv (parentsC cs c) hN8.1.rd (fun k hk hd => by
              have h1 := hN8.2 k hk
              have h2 := HM6.out.pile.2 k hd
              have h3 := hx7.size
              omega) (by simp only [List.length_cons] at hll; omega))
            obtain ⟨A8, n8, c8, rfl⟩ := hN8.1.slice
            clear hN8 hx7 hx8 HLi HS7 HP6
            gi_wp2_with fail
            refine wide_call (HPut.out.mono ?_)
            rintro e w9 ⟨⟨r', rfl⟩, l', Dq', hP9, hs9, hk9, hso, hme, hle⟩
            have hst := HA.out.step HG.out hcl hso hme hle
            have HM9 := Lib.hid (HM8.out.piled HJ.out hP9 hs9 hk9)
            have HST := Lib.hid hst
            have HL9 := Lib.hid HM9.out.pile.len
            clear HPut hP9 hs9 hk9 hso hme hle hst e1
            gi_wp2_with fail
            go_roundw
            case rel => exact ⟨pre ++ [c], l', c, Dq', E', rfl, HST.out.1, HM9.out⟩
            case measure => rw [HL9.out, HW0.out]; exact HST.out.2
          · have HM6 := Lib.hid (HM5.out.told (J' := Jx) hs6 hk6 hlt6 hj6)
            clear HC hs6 hk6 hlt6 hj6
            refine ⟨_, rfl, ?_⟩
            gi_wp2_with fail
            exact leaves0 (results_none rfl _ _ _) ⟨⟨_, rfl⟩, E', HM6.out.sub, HM6.out.kp, HM6.out.dlt, .inr ⟨_, HT1.out, HM6.out.j⟩⟩

/-- dag.Ahead. -/
theorem ahead_calls {w : World} (h : RepoX repoT I D w rb cs room) (hG : GoodR cs) (hn : cs.length ≤ 300) (n : Int) : Calls Tryz.prog 64 #[.pointer (some ⟨rb, 0, none⟩), .int .i64 n] w fun e w' =>
    ∃ u, e = .returned u ∧ SeqV Tryz.prog (fun k => (D k ∨ I k) ∨ (w.heap.size ≤ k ∧ k < w'.heap.size)) w' u encI' (aheadF cs n) ∧ Ext w w' := by
  have H := Lib.hid h
  clear h
  go_enter Tryz.func64, Tryz.ntmps64
  go_wp2_with fail
  go_ret
  have hx : Ext w ((w.alloc (.cells #[.pointer (some ⟨rb, 0, none⟩)] 25)).alloc (.cells #[.int .i64 n] 3)) := ((Kp.refl _ w).alloc _).alloc _
  refine ⟨.func (.func 103) #[] #[.pointer (some ⟨w.heap.size, 0, none⟩), .pointer (some ⟨w.heap.size + 1, 0, none⟩)], rfl, ⟨⟨_, _, _, rfl⟩, ?_⟩, hx⟩
  intro W hW y J Jx D₀ hyf hJ hJx h0 hD hy
  have hz := hW.size
  simp only [World.size_alloc] at hz
  have hb1 := ((Blk.new w 25 #[.pointer (some ⟨rb, 0, none⟩)]).ext ((Kp.refl _ _).alloc (.cells #[.int .i64 n] 3))).kp hW (.inr ⟨Nat.le_refl _, by simp; omega⟩)
  have hb2 := (Blk.new (w.alloc (.cells #[.pointer (some ⟨rb, 0, none⟩)] 25)) 3 #[.int .i64 n]).kp hW (.inr ⟨by simp, by simp⟩)
  simp only [World.size_alloc] at hb2
  have hR : RepoX repoT I D W rb cs room := (H.out.ext hx).kp hW (fun k hk => .inl (.inl hk)) fun k hk => .inl (.inr hk)
  exact callF_fn (enters_of Tryz.func103 (by kernel_rfl) rfl) (ahead1_calls w.heap.size (w.heap.size + 1) n _ W y hyf hb1.cell0 hb2.cell0 hR (fun k hk => .inl (.inl hk)) (fun k hk => .inl (.inr hk)) (.inr ⟨Nat.le_refl _, by simp; omega⟩) (.inr ⟨by omega, by simp⟩) hG hn J Jx D₀ hJ hJx h0 hD hy)
end

end Go.Proofs.YtgjbfkaepalkiaaGreatDoor
