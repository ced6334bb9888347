/-
  Package tree: Drop, All, Get. Package tree: Get.
-/
import Derived.Test.YtgjbfkaepalkiaaGreatDoorSeq
namespace Go.Proofs.YtgjbfkaepalkiaaGreatDoor
open Go.RowKit
set_option linter.unusedVariables false
set_option linter.unusedSimpArgs false
attribute [local go_sem] Oper.semAt_some

theorem drop1_calls (b : Nat) (p : ByteArray) (f : File) (W : World) (hb : W.cell? ⟨b, 0, none⟩ = some (.string p)) :
    Calls Tryz.prog 135 #[.agg #[.string f.path, .string f.data], .pointer (some ⟨b, 0, none⟩)] W fun e W' => e = .returned (.bool (!(f.path.toList == p.toList))) ∧ Ext W W' := by
  have hlt := cell_lt hb
  dsimp only at hlt
  go_enter Tryz.func135, Tryz.ntmps135
  go_wp2_with fail
  go_ret
  exact ⟨rfl, (Kp.refl _ W).alloc _⟩

/-- tree.Drop. -/
theorem drop_calls (v : Value) (p : ByteArray) (xs : List File) (S : Fp) (w : World) (hR : Rd EF S w v xs) (hb : xs.length ≤ 1000000) :
    Calls Tryz.prog 91 #[v, .string p] w fun e w' => ∃ u, e = .returned u ∧ New EF 39 w.heap.size w' u (xs.filter fun f => !(f.path.toList == p.toList)) ∧ Ext w w' := by
  go_enter Tryz.func91, Tryz.ntmps91
  go_wp2_with fail
  refine (of_calls v xs S _ (hR.kp ((Kp.refl _ w).alloc _)) hb).mono ?_
  rintro e w1 ⟨s1, rfl, hs1, hx1⟩
  have hbox : Blk w1 w.heap.size 9 #[.string p] := (Blk.new w 9 #[.string p]).ext hx1
  have hz1 := hx1.size
  simp only [World.size_alloc] at hz1
  have hf : FnV Tryz.prog (fun k => w.heap.size ≤ k ∧ k < w1.heap.size) w1 (.func (.func 135) #[] #[.pointer (some ⟨w.heap.size, 0, none⟩)]) encF (fun f => .bool (!(f.path.toList == p.toList))) :=
    ⟨⟨_, _, _, rfl⟩, fun W hW x => callV_fn (enters_of Tryz.func135 (by kernel_rfl) rfl) (drop1_calls w.heap.size p x W (hbox.kp hW ⟨Nat.le_refl _, by omega⟩).cell0)⟩
  go_wp2_with fail
  refine (filter_calls s1 _ xs _ _ w1 (hs1.wide fun k hk => ⟨by have := hk.1; simp at this; omega, hk.2⟩) hf (fun k hk => hk.2)).mono ?_
  rintro e w2 ⟨s2, rfl, hs2, hx2⟩
  go_wp2_with fail
  have hz2 := hx2.size
  refine (list_calls s2 _ _ w2 hs2 (fun k hk => by omega) (Nat.le_trans (List.length_filter_le _ _) hb)).mono ?_
  rintro e w3 ⟨u, rfl, hN, hx3⟩
  go_wp2_with fail
  go_ret
  exact ⟨u, rfl, hN.less (by omega), (((Kp.refl _ w).alloc _).trans (Kp.of_ext hx1)).trans ((hx2).trans hx3)⟩

abbrev encF2 (f : File) : Array Value := #[.string f.path, .string f.data]

set_option maxHeartbeats 400000 in
/-- tree.All's function. -/
theorem all1_calls (b : Nat) (v : Value) (xs : List File) (S : Fp) (W : World) (y : Value) (hb : W.cell? ⟨b, 0, none⟩ = some v) (hSb : S b) (hR : Rd EF S W v xs)
    (I Ix : List File → Fp → World → Prop) (D₀ : Fp) (hI : Frames I) (hIx : Frames Ix) (h0 : I [] D₀ W) (hD : ∀ k, D₀ k → k < W.heap.size ∧ ¬ S k)
    (hy : ∀ pre x D W1, I pre D W1 → (∀ k, D k → k < W1.heap.size) → (pre ++ [x]) <+: xs → Sub D₀ D W W1 → Kp (fun k => ¬ D₀ k) W W1 → CallV Tryz.prog y (encF2 x) W1 fun e W2 =>
      ∃ D', Sub D D' W1 W2 ∧ Kp (fun k => ¬ D k) W1 W2 ∧ (∀ k, D' k → k < W2.heap.size) ∧ ((e = .returned (.bool true) ∧ I (pre ++ [x]) D' W2) ∨ (e = .returned (.bool false) ∧ Ix (pre ++ [x]) D' W2))) :
    Calls Tryz.prog 207 #[y, .pointer (some ⟨b, 0, none⟩)] W fun e W' => (∃ v, e = .returned v) ∧ ∃ D', Sub D₀ D' W W' ∧ Kp (fun k => ¬ D₀ k) W W' ∧ (∀ k, D' k → k < W'.heap.size) ∧ (I xs D' W' ∨ ∃ pre, pre <+: xs ∧ Ix pre D' W') := by
  obtain ⟨A, c, rfl, hO⟩ := hR.open_
  have hlen := hO.len
  refine calls_of_body Tryz.func207 rfl ?_
  simp only [Tryz.ntmps207, List.size_toArray, List.length_cons, List.length_nil, Nat.reduceAdd, Nat.reduceSub, Array.replicate_succ, Array.replicate_zero, List.push_toArray, List.append_toArray, List.nil_append, List.cons_append]
  gi_wp2_with fail
  gi_loopw [7] (fun i wr => ∃ (k : Nat) (D : Fp), k ≤ xs.length ∧ i = .int .i64 k ∧ I (xs.take k) D wr ∧ (∀ j, D j → j < wr.heap.size) ∧ Sub D₀ D W wr ∧ Kp (fun j => ¬ D₀ j) W wr) (fun i _ => xs.length - (intOf i).toNat)
  case atStart => exact ⟨0, D₀, Nat.zero_le _, rfl, h0, fun j hj => (hD j hj).1, Sub.refl _ _, Kp.refl _ _⟩
  case round =>
    obtain ⟨k, D, hk, rfl, hIk, hDk, hSub, hKp⟩ := hrel
    have hks : Kp S W wr := hKp.mono fun j hj hs hd => (hD j hd).2 hs
    by_cases hlt : k < xs.length
    · obtain ⟨b2, off, rfl, hS2, hb2, hc0, hc1⟩ := (hO.rd.kp hks).file hlt
      gi_wp2_with (refine listIn_callV rfl rfl y rfl _ rfl ?_)
      refine (hy (xs.take k) xs[k] D _ (hI _ _ _ _ hIk hDk ((Kp.refl _ _).alloc _)) (fun j hj => by have := hDk j hj; simp; omega) (take_snoc_prefix xs hlt) (hSub.alloc _) (hKp.alloc _)).mono ?_
      rintro e W2 ⟨D', hs', hk', hd', h'⟩
      have hs2 : Sub D₀ D' W W2 := (hSub.alloc _).trans hs' (by have := hKp.size; simp; omega) hk'.size
      have hk2 : Kp (fun j => ¬ D₀ j) W W2 := (hKp.alloc _).trans' hk' fun j hj hn hd => by
        rcases hSub j hd with h | h
        · exact hn h
        · omega
      rw [← take_snoc xs hlt] at h'
      rcases h' with ⟨rfl, hI2⟩ | ⟨rfl, hIx2⟩
      · refine ⟨_, rfl, ?_⟩
        gi_wp2_with fail
        go_roundw
        case rel => exact ⟨k + 1, D', by omega, by go_num, hI2, hd', hs2, hk2⟩
        case measure => simp [intOf]; omega
      · refine ⟨_, rfl, ?_⟩
        gi_wp2_with fail
        exact leaves0 (results_none rfl _ _ _) ⟨⟨_, rfl⟩, D', hs2, hk2, hd', .inr ⟨_, List.take_prefix _ _, hIx2⟩⟩
    · gi_wp2_with fail
      have hxs : xs.take k = xs := List.take_of_length_le (by omega)
      rw [hxs] at hIk
      exact leaves0 (results_none rfl _ _ _) ⟨⟨_, rfl⟩, D, hSub, hKp, hDk, .inl hIk⟩

/-- tree.All. -/
theorem all_calls (v : Value) (xs : List File) (S : Fp) (w : World) (hR : Rd EF S w v xs) (hb : xs.length ≤ 1000000) :
    Calls Tryz.prog 184 #[v] w fun e w' => ∃ s, e = .returned s ∧ SeqV Tryz.prog (fun k => w.heap.size ≤ k ∧ k < w'.heap.size) w' s encF2 xs ∧ Ext w w' := by
  go_enter Tryz.func184, Tryz.ntmps184
  go_wp2_with fail
  refine (clone_calls v xs S w hR hb).mono ?_
  rintro e w1 ⟨u, rfl, hN, hx1⟩
  obtain ⟨A, n, c, rfl⟩ := hN.1.slice
  go_wp2_with fail
  go_ret
  have hz := hx1.size
  refine ⟨.func (.func 207) #[] #[.pointer (some ⟨w1.heap.size, 0, none⟩)], rfl, ⟨⟨_, _, _, rfl⟩, ?_⟩, hx1.alloc _⟩
  intro W hW y I Ix D₀ hyf hI hIx h0 hD hy
  refine callF_fn (enters_of Tryz.func207 (by kernel_rfl) rfl) (all1_calls w1.heap.size (.slice A n c) xs (fun k => w.heap.size ≤ k ∧ k < w1.heap.size + 1) W y ?_ ⟨hz, by omega⟩ ?_ I Ix D₀ hI hIx h0 (by simpa using hD) hy)
  · exact ((Blk.new w1 30 #[.slice A n c]).kp hW ⟨hz, by simp⟩).cell0
  · refine ((hN.1.rd.kp ((Kp.refl _ w1).alloc (.cells #[.slice A n c] 30))).wide (fun k hk => ⟨hN.2 k hk, by have := hN.1.lt hk; omega⟩)).kp (S := fun k => w.heap.size ≤ k ∧ k < w1.heap.size + 1) ?_
    simpa using hW

end Go.Proofs.YtgjbfkaepalkiaaGreatDoor

namespace Go.Proofs.YtgjbfkaepalkiaaGreatDoor
open Go.RowKit
set_option linter.unusedVariables false
set_option linter.unusedSimpArgs false
attribute [local go_sem] Oper.semAt_some

def getF (xs : List File) (p : ByteArray) : Option File := xs.find? fun f => f.path.toList == p.toList
def getD (xs : List File) (p : ByteArray) : ByteArray := ((getF xs p).map File.data).getD ⟨#[]⟩

set_option maxHeartbeats 400000 in
theorem get_calls (v : Value) (p : ByteArray) (xs : List File) (S : Fp) (w : World) (hR : Rd EF S w v xs) (hb : xs.length ≤ 1000000) :
    Calls Tryz.prog 159 #[v, .string p] w fun e w' => e = .returned (.tuple #[.string (getD xs p), .bool (getF xs p).isSome]) ∧ Ext w w' := by
  refine calls_of_body Tryz.func159 rfl ?_
  simp only [Tryz.ntmps159, List.size_toArray, List.length_cons, List.length_nil, Nat.reduceAdd, Nat.reduceSub, Array.replicate_succ, Array.replicate_zero, List.push_toArray, List.append_toArray, List.nil_append, List.cons_append]
  gi_wp2_with fail
  refine wide_call ((all_calls v xs S _ (hR.kp ((((Kp.refl _ w).alloc _).alloc _).alloc _)) hb).mono ?_)
  rintro e w1 ⟨s, rfl, hs, hx1⟩
  have hz1 := hx1.size
  simp only [World.size_alloc] at hz1
  have hbp : Blk w1 w.heap.size 9 #[.string p] := (((Blk.new w 9 #[.string p]).ext ((Kp.refl _ _).alloc _)).ext ((Kp.refl _ _).alloc _)).ext hx1
  have hb0 : Blk w1 (w.heap.size + 1) 9 #[.string ⟨#[]⟩] := by
    have := ((Blk.new (w.alloc (.cells #[.string p] 9)) 9 #[.string ⟨#[]⟩]).ext ((Kp.refl _ _).alloc (.cells #[.bool false] 4))).ext hx1
    simpa using this
  have hb1 : Blk w1 (w.heap.size + 1 + 1) 4 #[.bool false] := by
    have := (Blk.new ((w.alloc (.cells #[.string p] 9)).alloc (.cells #[.string ⟨#[]⟩] 9)) 4 #[.bool false]).ext hx1
    simpa using this
  have hxw : Ext w w1 := ((((Kp.refl _ w).alloc _).alloc _).alloc _).trans hx1
  simp only [World.size_alloc] at hs
  clear hx1 hR
  gi_wp2_with fail
  obtain ⟨n, hn⟩ : ∃ n, w.heap.size = n := ⟨_, rfl⟩
  rw [hn] at hz1 hbp hb0 hb1 hs ⊢
  refine range_wp (fv := s) rfl hs (fun k hk => hk.2) (fun _ => rfl)
    (fun pre D W => (Blk W (n + 1) 9 #[.string ⟨#[]⟩] ∧ Blk W (n + 1 + 1) 4 #[.bool false] ∧ getF pre p = none) ∧ D (n + 1) ∧ D (n + 1 + 1))
    (fun c pre D W => ∃ f, (Blk W (n + 1) 9 #[.string f.data] ∧ Blk W (n + 1 + 1) 4 #[.bool true] ∧ c = .ret ∧ getF pre p = some f) ∧ D (n + 1) ∧ D (n + 1 + 1))
    (fun pre D W W' ⟨⟨h1, h2, h3⟩, h4, h5⟩ _ hk => ⟨⟨h1.kp hk h4, h2.kp hk h5, h3⟩, h4, h5⟩) (fun c pre D W W' ⟨f, ⟨h1, h2, h3⟩, h4, h5⟩ _ hk => ⟨f, ⟨h1.kp hk h4, h2.kp hk h5, h3⟩, h4, h5⟩)
    (fun k => k = n + 1 ∨ k = n + 1 + 1) ⟨⟨hb0, hb1, rfl⟩, .inl rfl, .inr rfl⟩ (fun k hk => by omega) ?round ?done ?stop
  case round =>
    rintro l pre x D W ⟨⟨hI0, hI1, hI2⟩, hI3, hI4⟩ hD hpre hsub hkp hl hlt hnl K hK
    gi_wp2_with fail
    refine hK _ _ (Kp.refl _ W) ?_
    intro W₂ hk2 hsz hrec
    have e1 : l ≠ n + 1 := by rintro rfl; exact hnl hI3
    have e2 : l ≠ n + 1 + 1 := by rintro rfl; exact hnl hI4
    have hp2 := ((hbp.kp hkp (by omega)).kp hk2 (by omega)).cell0
    have h20 := hI0.kp hk2 (Ne.symm e1)
    have h21 := hI1.kp hk2 (Ne.symm e2)
    have hsn : getF (pre ++ [x]) p = if x.path.toList == p.toList then some x else none := by
      unfold getF at hI2 ⊢
      rw [List.find?_append, hI2]
      by_cases h : x.path.toList = p.toList <;> simp [h]
    have c0 := h20.cell0
    have c1 := h21.cell0
    have f0 := h20.frozen 0
    have f1 := h21.frozen 0
    have hlt2 : ∀ k, D k → k < W₂.heap.size := fun k hk => hk2.lt (hD k hk)
    clear hbp hb0 hb1 hs hI0 hI1 hk2 hkp hsub hK hrec hl
    cases hb : (x.path.toList == p.toList) with
    | true =>
      rw [hb] at hsn
      gi_wp2_with fail
      refine ⟨D, fun k hk => .inl (.inl hk), ?_, ?_, ⟨x, ?_, ?_, rfl, hsn⟩, hI3, hI4⟩
      · exact ((Kp.refl _ W₂).setCell (.inr fun h => h (.inl hI3)) _).setCell (.inr fun h => h (.inl hI4)) _
      · simpa using hlt2
      · exact (h20.set_ 0 _).far (by simp) _
      · exact (h21.far (by simp) _).set_ 0 _
    | false =>
      rw [hb] at hsn
      gi_wp2_with fail
      exact ⟨D, fun k hk => .inl (.inl hk), Kp.refl _ W₂, hlt2, ⟨h20, h21, hsn⟩, hI3, hI4⟩
  case done =>
    rintro q D' W' ⟨⟨hI0, hI1, hI2⟩, hI3, hI4⟩ hsub hkp hlt hq hnq hblk
    have c0 := hI0.cell0
    have c1 := hI1.cell0
    have f0 := hI0.frozen 0
    have f1 := hI1.frozen 0
    clear hbp hb0 hb1 hs
    gi_wp2_with fail
    have hq1 : q ≠ n + 1 := by omega
    have hq2 : q ≠ n + 1 + 1 := by omega
    have hb0' := (hI0.set_ 0 (.string ⟨#[]⟩)).far (p := ⟨n + 1 + 1, 0, none⟩) (by simp) (.bool false)
    have hb1' := (hI1.far (p := ⟨n + 1, 0, none⟩) (by simp) (.string ⟨#[]⟩)).set_ 0 (.bool false)
    refine leaves1 ((Below.heap_setCell _ _ _ _ hq2).trans ((Below.heap_setCell _ _ _ _ hq1).trans hblk)) fun W3 hk3 hz3 => ⟨_, results_cells2 (ty := 9) (ty' := 4) rfl Tryz.isAgg9 Tryz.isAgg4 rfl rfl (hb0'.kp hk3 (Ne.symm hq1)).cell0 (hb1'.kp hk3 (Ne.symm hq2)).cell0, ?_, ?_⟩
    · unfold getD; rw [hI2]; rfl
    · refine ((((hxw.mono fun _ _ _ => trivial).trans' hkp fun k hk _ => by omega).setCell (.inl (by simp; omega)) _).setCell (.inl (by simp; omega)) _).trans' hk3 fun k hk _ => by omega
  case stop =>
    rintro q c pre D' W' hpre ⟨f, ⟨hI0, hI1, rfl, hI2⟩, hI3, hI4⟩ hsub hkp hlt hq hnq hblk
    clear hbp hb0 hb1 hs
    gi_wp2_with fail
    have hq1 : q ≠ n + 1 := by omega
    have hq2 : q ≠ n + 1 + 1 := by omega
    have hf : getF xs p = some f := by
      obtain ⟨r, rfl⟩ := hpre
      unfold getF at hI2 ⊢
      rw [List.find?_append, hI2]; rfl
    refine leaves1 hblk fun W3 hk3 hz3 => ⟨_, results_cells2 (ty := 9) (ty' := 4) rfl Tryz.isAgg9 Tryz.isAgg4 rfl rfl (hI0.kp hk3 (Ne.symm hq1)).cell0 (hI1.kp hk3 (Ne.symm hq2)).cell0, ?_, ?_⟩
    · unfold getD; rw [hf]; rfl
    · exact ((hxw.mono fun _ _ _ => trivial).trans' hkp fun k hk _ => by omega).trans' hk3 fun k hk _ => by omega

end Go.Proofs.YtgjbfkaepalkiaaGreatDoor
