/-
  Package tree: Drop, All, Get.
-/
import Derived.Test.YtddooggkcdloeaaGreatDoorSeq
namespace Go.Proofs.YtddooggkcdloeaaGreatDoor
open Go.RowKit
set_option linter.unusedVariables false
set_option linter.unusedSimpArgs false
attribute [local go_sem] Oper.semAt_some

theorem drop1_calls (b : Nat) (p : ByteArray) (f : File) (W : World) (hb : W.cell? ⟨b, 0, none⟩ = some (.string p)) :
    Calls Tryz.prog 69 #[.agg #[.string f.path, .string f.data], .pointer (some ⟨b, 0, none⟩)] W fun e W' => e = .returned (.bool (!(f.path.toList == p.toList))) ∧ Ext W W' := by
  have hlt := cell_lt hb
  dsimp only at hlt
  go_enter Tryz.func69, Tryz.ntmps69
  go_wp2_with fail
  go_ret
  exact ⟨rfl, (Kp.refl _ W).alloc _⟩

/-- tree.Drop. -/
theorem drop_calls (v : Value) (p : ByteArray) (xs : List File) (S : Fp) (w : World) (hR : Rd EF S w v xs) (hb : xs.length ≤ 1000000) :
    Calls Tryz.prog 42 #[v, .string p] w fun e w' => ∃ u, e = .returned u ∧ New EF 40 w.heap.size w' u (xs.filter fun f => !(f.path.toList == p.toList)) ∧ Ext w w' := by
  go_enter Tryz.func42, Tryz.ntmps42
  go_wp2_with fail
  refine (of_calls v xs S _ (hR.kp ((Kp.refl _ w).alloc _)) hb).mono ?_
  rintro e w1 ⟨s1, rfl, hs1, hx1⟩
  have hbox : Blk w1 w.heap.size 9 #[.string p] := (Blk.new w 9 #[.string p]).ext hx1
  have hz1 := hx1.size
  simp only [World.size_alloc] at hz1
  have hf : FnV Tryz.prog (fun k => w.heap.size ≤ k ∧ k < w1.heap.size) w1 (.func (.func 69) #[] #[.pointer (some ⟨w.heap.size, 0, none⟩)]) encF (fun f => .bool (!(f.path.toList == p.toList))) :=
    ⟨⟨_, _, _, rfl⟩, fun W hW x => callV_fn (enters_of Tryz.func69 (by kernel_rfl) rfl) (drop1_calls w.heap.size p x W (hbox.kp hW ⟨Nat.le_refl _, by omega⟩).cell0)⟩
  go_wp2_with fail
  refine (filter_calls s1 _ xs _ _ w1 (hs1.wide fun k hk => ⟨by have := hk.1; simp at this; omega, hk.2⟩) hf (fun k hk => hk.2)).mono ?_
  rintro e w2 ⟨s2, rfl, hs2, hx2⟩
  go_wp2_with fail
  have hz2 := hx2.size
  refine (list_calls s2 _ _ w2 hs2 (fun k hk => by omega) (Nat.le_trans (List.length_filter_le _ _) hb)).mono ?_
  rintro e w3 ⟨u, rfl, hN, hx3⟩
  go_wp2_with fail
  go_ret
  exact ⟨u, rfl, hN.less (by omega), (((Kp.refl _ w).alloc _).trans (Kp.of_ext hx1)).trans ((hx2).trans hx3)⟩

abbrev encF2 (f : File) : Array Value := #[.string f.path, .string f.data]

set_option maxHeartbeats 400000 in
/-- tree.All's function. -/
theorem all1_calls (b : Nat) (v : Value) (xs : List File) (S : Fp) (W : World) (y : Value) (hb : W.cell? ⟨b, 0, none⟩ = some v) (hSb : S b) (hR : Rd EF S W v xs)
    (I Ix : List File → Fp → World → Prop) (D₀ : Fp) (hI : Frames I) (hIx : Frames Ix) (h0 : I [] D₀ W) (hD : ∀ k, D₀ k → k < W.heap.size ∧ ¬ S k)
    (hy : ∀ pre x D W1, I pre D W1 → (∀ k, D k → k < W1.heap.size) → (pre ++ [x]) <+: xs → Sub D₀ D W W1 → Kp (fun k => ¬ D₀ k) W W1 → CallV Tryz.prog y (encF2 x) W1 fun e W2 =>
      ∃ D', Sub D D' W1 W2 ∧ Kp (fun k => ¬ D k) W1 W2 ∧ (∀ k, D' k → k < W2.heap.size) ∧ ((e = .returned (.bool true) ∧ I (pre ++ [x]) D' W2) ∨ (e = .returned (.bool false) ∧ Ix (pre ++ [x]) D' W2))) :
    Calls Tryz.prog 73 #[y, .pointer (some ⟨b, 0, none⟩)] W fun e W' => (∃ v, e = .returned v) ∧ ∃ D', Sub D₀ D' W W' ∧ Kp (fun k => ¬ D₀ k) W W' ∧ (∀ k, D' k → k < W'.heap.size) ∧ (I xs D' W' ∨ ∃ pre, pre <+: xs ∧ Ix pre D' W') := by
  obtain ⟨A, c, rfl, hO⟩ := hR.open_
  have hlen := hO.len
  refine calls_of_body Tryz.func73 rfl ?_
  simp only [Tryz.ntmps73, List.size_toArray, List.length_cons, List.length_nil, Nat.reduceAdd, Nat.reduceSub, Array.replicate_succ, Array.replicate_zero, List.push_toArray, List.append_toArray, List.nil_append, List.cons_append]
  gi_wp2_with fail
  gi_loopw [7] (fun i wr => ∃ (k : Nat) (D : Fp), k ≤ xs.length ∧ i = .int .i64 k ∧ I (xs.take k) D wr ∧ (∀ j, D j → j < wr.heap.size) ∧ Sub D₀ D W wr ∧ Kp (fun j => ¬ D₀ j) W wr) (fun i _ => xs.length - (intOf i).toNat)
  case atStart => exact ⟨0, D₀, Nat.zero_le _, rfl, h0, fun j hj => (hD j hj).1, Sub.refl _ _, Kp.refl _ _⟩
  case round =>
    obtain ⟨k, D, hk, rfl, hIk, hDk, hSub, hKp⟩ := hrel
    have hks : Kp S W wr := hKp.mono fun j hj hs hd => (hD j hd).2 hs
    by_cases hlt : k < xs.length
    · obtain ⟨b2, off, rfl, hS2, hb2, hc0, hc1⟩ := (hO.rd.kp hks).file hlt
      gi_wp2_with (refine listIn_callV rfl rfl y rfl _ rfl ?_)
      refine (hy (xs.take k) xs[k] D _ (hI _ _ _ _ hIk hDk ((Kp.refl _ _).alloc _)) (fun j hj => by have := hDk j hj; simp; omega) (take_snoc_prefix xs hlt) (hSub.alloc _) (hKp.alloc _)).mono ?_
      rintro e W2 ⟨D', hs', hk', hd', h'⟩
      have hs2 : Sub D₀ D' W W2 := (hSub.alloc _).trans hs' (by have := hKp.size; simp; omega) hk'.size
      have hk2 : Kp (fun j => ¬ D₀ j) W W2 := (hKp.alloc _).trans' hk' fun j hj hn hd => by
        rcases hSub j hd with h | h
        · exact hn h
        · omega
      rw [← take_snoc xs hlt] at h'
      rcases h' with ⟨rfl, hI2⟩ | ⟨rfl, hIx2⟩
      · refine ⟨_, rfl, ?_⟩
        gi_wp2_with fail
        go_roundw
        case rel => exact ⟨k + 1, D', by omega, by go_num, hI2, hd', hs2, hk2⟩
        case measure => simp [intOf]; omega
      · refine ⟨_, rfl, ?_⟩
        gi_wp2_with fail
        exact leaves0 (results_none rfl _ _ _) ⟨⟨_, rfl⟩, D', hs2, hk2, hd', .inr ⟨_, List.take_prefix _ _, hIx2⟩⟩
    · gi_wp2_with fail
      have hxs : xs.take k = xs := List.take_of_length_le (by omega)
      rw [hxs] at hIk
      exact leaves0 (results_none rfl _ _ _) ⟨⟨_, rfl⟩, D, hSub, hKp, hDk, .inl hIk⟩

/-- tree.All. -/
theorem all_calls (v : Value) (xs : List File) (S : Fp) (w : World) (hR : Rd EF S w v xs) (hb : xs.length ≤ 1000000) :
    Calls Tryz.prog 49 #[v] w fun e w' => ∃ s, e = .returned s ∧ SeqV Tryz.prog (fun k => w.heap.size ≤ k ∧ k < w'.heap.size) w' s encF2 xs ∧ Ext w w' := by
  go_enter Tryz.func49, Tryz.ntmps49
  go_wp2_with fail
  refine (clone_calls v xs S w hR hb).mono ?_
  rintro e w1 ⟨u, rfl, hN, hx1⟩
  obtain ⟨A, n, c, rfl⟩ := hN.1.slice
  go_wp2_with fail
  go_ret
  have hz := hx1.size
  refine ⟨.func (.func 73) #[] #[.pointer (some ⟨w1.heap.size, 0, none⟩)], rfl, ⟨⟨_, _, _, rfl⟩, ?_⟩, hx1.alloc _⟩
  intro W hW y I Ix D₀ hyf hI hIx h0 hD hy
  refine callF_fn (enters_of Tryz.func73 (by kernel_rfl) rfl) (all1_calls w1.heap.size (.slice A n c) xs (fun k => w.heap.size ≤ k ∧ k < w1.heap.size + 1) W y ?_ ⟨hz, by omega⟩ ?_ I Ix D₀ hI hIx h0 (by simpa using hD) hy)
  · exact ((Blk.new w1 22 #[.slice A n c]).kp hW ⟨hz, by simp⟩).cell0
  · refine ((hN.1.rd.kp ((Kp.refl _ w1).alloc (.cells #[.slice A n c] 22))).wide (fun k hk => ⟨hN.2 k hk, by have := hN.1.lt hk; omega⟩)).kp (S := fun k => w.heap.size ≤ k ∧ k < w1.heap.size + 1) ?_
    simpa using hW

end Go.Proofs.YtddooggkcdloeaaGreatDoor
