/-
  seq and the sequences of slices, at files.
-/
import Derived.Test.YtgjbfkaepalkiaaGreatDoorData
import Derived.WalkSpells
import Derived.Shelf.Abstract
import Derived.TacticsInMore
import Derived.LoopNIn
namespace Go.Proofs.YtgjbfkaepalkiaaGreatDoor
open Go.RowKit
set_option linter.unusedVariables false
set_option linter.unusedSimpArgs false
attribute [local go_sem] Oper.semAt_some

abbrev encF (f : File) : Array Value := #[.agg #[.string f.path, .string f.data]]

set_option maxHeartbeats 400000 in
/-- slices.Values's function. -/
theorem values1_calls (b : Nat) (v : Value) (xs : List File) (S : Fp) (W : World) (y : Value) (hb : W.cell? ⟨b, 0, none⟩ = some v) (hSb : S b) (hR : Rd EF S W v xs)
    (I Ix : List File → Fp → World → Prop) (D₀ : Fp) (hI : Frames I) (hIx : Frames Ix) (h0 : I [] D₀ W) (hD : ∀ k, D₀ k → k < W.heap.size ∧ ¬ S k)
    (hy : ∀ pre x D W1, I pre D W1 → (∀ k, D k → k < W1.heap.size) → (pre ++ [x]) <+: xs → Sub D₀ D W W1 → Kp (fun k => ¬ D₀ k) W W1 → CallV Tryz.prog y (encF x) W1 fun e W2 =>
      ∃ D', Sub D D' W1 W2 ∧ Kp (fun k => ¬ D k) W1 W2 ∧ (∀ k, D' k → k < W2.heap.size) ∧ ((e = .returned (.bool true) ∧ I (pre ++ [x]) D' W2) ∨ (e = .returned (.bool false) ∧ Ix (pre ++ [x]) D' W2))) :
    Calls Tryz.prog 190 #[y, .pointer (some ⟨b, 0, none⟩)] W fun e W' => (∃ v, e = .returned v) ∧ ∃ D', Sub D₀ D' W W' ∧ Kp (fun k => ¬ D₀ k) W W' ∧ (∀ k, D' k → k < W'.heap.size) ∧ (I xs D' W' ∨ ∃ pre, pre <+: xs ∧ Ix pre D' W') := by
  obtain ⟨A, c, rfl, hO⟩ := hR.open_
  have hlen := hO.len
  refine calls_of_body Tryz.func190 rfl ?_
  simp only [Tryz.ntmps190, List.size_toArray, List.length_cons, List.length_nil, Nat.reduceAdd, Nat.reduceSub, Array.replicate_succ, Array.replicate_zero, List.push_toArray, List.append_toArray, List.nil_append, List.cons_append]
  gi_wp2_with fail
  gi_loopw [7] (fun i wr => ∃ (k : Nat) (D : Fp), k ≤ xs.length ∧ i = .int .i64 k ∧ I (xs.take k) D wr ∧ (∀ j, D j → j < wr.heap.size) ∧ Sub D₀ D W wr ∧ Kp (fun j => ¬ D₀ j) W wr) (fun i _ => xs.length - (intOf i).toNat)
  case atStart => exact ⟨0, D₀, Nat.zero_le _, rfl, h0, fun j hj => (hD j hj).1, Sub.refl _ _, Kp.refl _ _⟩
  case round =>
    obtain ⟨k, D, hk, rfl, hIk, hDk, hSub, hKp⟩ := hrel
    have hks : Kp S W wr := hKp.mono fun j hj hs hd => (hD j hd).2 hs
    by_cases hlt : k < xs.length
    · obtain ⟨b2, off, rfl, hS2, hb2, hc0, hc1⟩ := (hO.rd.kp hks).file hlt
      gi_wp2_with (refine listIn_callV rfl rfl y rfl _ rfl ?_)
      refine (hy (xs.take k) xs[k] D _ (hI _ _ _ _ hIk hDk ((Kp.refl _ _).alloc _)) (fun j hj => by have := hDk j hj; simp; omega) (take_snoc_prefix xs hlt) (hSub.alloc _) (hKp.alloc _)).mono ?_
      rintro e W2 ⟨D', hs', hk', hd', h'⟩
      have hs2 : Sub D₀ D' W W2 := (hSub.alloc _).trans hs' (by have := hKp.size; simp; omega) hk'.size
      have hk2 : Kp (fun j => ¬ D₀ j) W W2 := (hKp.alloc _).trans' hk' fun j hj hn hd => by
        rcases hSub j hd with h | h
        · exact hn h
        · omega
      rw [← take_snoc xs hlt] at h'
      rcases h' with ⟨rfl, hI2⟩ | ⟨rfl, hIx2⟩
      · refine ⟨_, rfl, ?_⟩
        gi_wp2_with fail
        go_roundw
        case rel => exact ⟨k + 1, D', by omega, by go_num, hI2, hd', hs2, hk2⟩
        case measure => simp [intOf]; omega
      · refine ⟨_, rfl, ?_⟩
        gi_wp2_with fail
        exact leaves0 (results_none rfl _ _ _) ⟨⟨_, rfl⟩, D', hs2, hk2, hd', .inr ⟨_, List.take_prefix _ _, hIx2⟩⟩
    · gi_wp2_with fail
      have hxs : xs.take k = xs := List.take_of_length_le (by omega)
      rw [hxs] at hIk
      exact leaves0 (results_none rfl _ _ _) ⟨⟨_, rfl⟩, D, hSub, hKp, hDk, .inl hIk⟩



theorem values_calls (v : Value) (xs : List File) (S : Fp) (w : World) (hR : Rd EF S w v xs) :
    Calls Tryz.prog 163 #[v] w fun e w' => ∃ s, e = .returned s ∧ SeqV Tryz.prog (fun k => S k ∨ k = w.heap.size) w' s encF xs ∧ Ext w w' ∧ w'.heap.size = w.heap.size + 1 := by
  go_enter Tryz.func163, Tryz.ntmps163
  obtain ⟨A, c, rfl, hO⟩ := hR.open_
  go_wp2_with fail
  go_ret
  refine ⟨.func (.func 190) #[] #[.pointer (some ⟨w.heap.size, 0, none⟩)], rfl, ⟨⟨_, _, _, rfl⟩, ?_⟩, (Kp.refl _ w).alloc _, by simp⟩
  intro W hW y I Ix D₀ hyf hI hIx h0 hD hy
  refine callF_fn (enters_of Tryz.func190 (by kernel_rfl) rfl) (values1_calls w.heap.size (.slice A xs.length c) xs (fun k => S k ∨ k = w.heap.size) W y ?_ (.inr rfl) ?_ I Ix D₀ hI hIx h0 hD hy)
  · exact (hW.cell (p := ⟨w.heap.size, 0, none⟩) (by simp) (.inr rfl)).trans (by simp)
  · exact ((hR.kp ((Kp.refl _ w).alloc _)).wide (fun k hk => .inl hk)).kp hW

/-- slices.Clone. -/
theorem clone_calls (v : Value) (xs : List File) (S : Fp) (w : World) (hR : Rd EF S w v xs) (hb : xs.length ≤ 1000000) :
    Calls Tryz.prog 92 #[v] w fun e w' => ∃ u, e = .returned u ∧ New EF 39 w.heap.size w' u xs ∧ Ext w w' := by
  obtain ⟨A, c, rfl, hO⟩ := hR.open_
  have hnil := fun W a n c => Lib.run_eql_slice_nil (P := Tryz.prog) W 30 _ a n c 0 0 Tryz.underlying30
  cases A with
  | none =>
    obtain ⟨rfl, rfl⟩ := hO.none_
    clear hb hR hO
    go_enter Tryz.func92, Tryz.ntmps92
    go_wp2_with fail
    go_ret
    exact ⟨.slice none 0 0, rfl, New.nil _ _ _, Kp.refl _ w⟩
  | some ad =>
    go_enter Tryz.func92, Tryz.ntmps92
    go_wp2_with (at_builtin; refine stop ?_)
    refine list_append (v := .slice (some ⟨w.heap.size, 0, none⟩) 0 0) tiF rfl rfl rfl rfl (Own.made w 39 ([] : List File) (Nat.zero_le _)) ((hR.kp ((Kp.refl _ w).alloc _))) (by simp; omega) (by simp [maxLen]; omega) ?_
    intro v' w' hown hkp hblk
    clear hnil
    go_wp2_with fail
    go_ret
    have hz : w.heap.size + 1 ≤ w'.heap.size := by simpa using hkp.size
    refine ⟨v', rfl, ⟨hown, fun g hg => ?_⟩, ((Kp.refl _ w).alloc _).trans' hkp fun k hk _ => ?_⟩
    · rcases hblk with h | h
      · rw [h] at hg; simp [Value.ownBlock] at hg; omega
      · rw [h] at hg; simp at hg; omega
    · simp [Value.ownBlock]; omega

theorem of_calls (v : Value) (xs : List File) (S : Fp) (w : World) (hR : Rd EF S w v xs) (hb : xs.length ≤ 1000000) :
    Calls Tryz.prog 134 #[v] w fun e w' => ∃ s, e = .returned s ∧ SeqV Tryz.prog (fun k => w.heap.size ≤ k ∧ k < w'.heap.size) w' s encF xs ∧ Ext w w' := by
  go_enter Tryz.func134, Tryz.ntmps134
  go_wp2_with fail
  refine (clone_calls v xs S w hR hb).mono ?_
  rintro e w1 ⟨u, rfl, hN, hx1⟩
  go_wp2_with fail
  refine (values_calls u xs _ w1 hN.1.rd).mono ?_
  rintro e w2 ⟨s, rfl, hs, hx2, hz⟩
  go_wp2_with fail
  go_ret
  refine ⟨s, rfl, hs.wide ?_, hx1.trans hx2⟩
  have h1 := hx1.size
  rintro k (h | h)
  · exact ⟨hN.2 k h, by have := hN.1.lt h; omega⟩
  · omega

/-- slices.AppendSeq, of no elements ahead. -/
theorem appendSeq_calls (s : Value) (xs : List File) (S : Fp) (w : World) (hs : SeqV Tryz.prog S w s encF xs) (hS : ∀ k, S k → k < w.heap.size) (hb : xs.length ≤ 1000000) :
    Calls Tryz.prog 189 #[.slice none 0 0, s] w fun e w' => ∃ u, e = .returned u ∧ New EF 39 w.heap.size w' u xs ∧ Ext w w' := by
  refine calls_of_body Tryz.func189 rfl ?_
  simp only [Tryz.ntmps189, List.size_toArray, List.length_cons, List.length_nil, Nat.reduceAdd, Nat.reduceSub, Array.replicate_succ, Array.replicate_zero, List.push_toArray, List.append_toArray, List.nil_append, List.cons_append]
  gi_wp2_with fail
  refine range_wp (fv := s) rfl (hs.later (Kp.of_ext ((Kp.refl _ w).alloc _))) (fun k hk => Nat.lt_of_lt_of_le (hS k hk) (by simp)) (fun _ => rfl) (fun pre D W => Coll EF 30 39 w.heap.size pre D W) (fun _ _ _ _ => False)
    (fun pre D W W' h _ hk => h.frame hk) (fun _ _ _ _ _ h _ _ => h) (fun k => k = w.heap.size) ⟨_, Blk.new w _ _, Own.nil _ _, rfl, fun g hg => by simp [Value.ownBlock] at hg⟩ (fun k hk => ⟨by simp; omega, fun h => by have := hS k h; omega⟩) ?round ?done ?stop
  case stop => exact fun _ _ _ _ _ _ h => h.elim
  case round =>
    intro l pre x D W hI hD hpre hsub hkp hl hlt hnl K hK
    gi_wp2_with fail
    refine hK _ _ ((Kp.refl _ W).alloc _) ?_
    intro W₂ hk2 hsz hrec
    have hWW : Kp (fun k => k ≠ l) W W₂ := (Kp.of_ext ((Kp.refl _ W).alloc _)).trans hk2
    have hx := (Blk.new W 39 #[.string x.path, .string x.data]).kp hk2 (by simp; omega)
    have hx0 : W₂.cell? ⟨W.heap.size, 0, none⟩ = some (.string x.path) := hx.cell 0
    have hx1 : W₂.cell? ⟨W.heap.size, 1, none⟩ = some (.string x.data) := hx.cell 1
    obtain ⟨v, hv, hown, hB, hg⟩ := hI.frame (hWW.mono fun k _ hk => by rintro rfl; exact hnl hk)
    have hv0 := hv.cell0
    have hpl : (pre ++ [x]).length ≤ xs.length := hpre.length_le
    simp only [List.length_append, List.length_singleton] at hpl
    clear hsub hkp hl hrec hK hs hS
    gi_wp2_with (gi_at_builtin; refine stop ?_)
    refine listIn_append (v := v) (u := .slice (some ⟨W₂.heap.size, 0, none⟩) 1 1) tiF rfl rfl rfl rfl (hown.kp ((Kp.refl _ _).alloc _) (fun _ _ => trivial)) (Own.made W₂ 39 [x] (by simp [maxLen])).rd (by simp; omega) (by simp [maxLen]; omega) ?_
    intro v' w' hown' hkp' hblk'
    obtain ⟨A', n', c', rfl⟩ := hown'.slice
    have hvB : v.ownBlock ≠ some w.heap.size := fun h => by have := (hg _ h).2; omega
    have hv' : Blk w' w.heap.size 30 #[v] := (hv.ext ((Kp.refl _ W₂).alloc _)).kp hkp' hvB
    have hv0' := hv'.cell0
    have hf0' := hv'.frozen 0
    clear hv0 hx0 hx1
    gi_wp2_with fail
    exact coll_step (fun k hk => .inl hk) (fun k hk => by have := hWW.size; rcases hk with hk | hk; exact hWW.lt (hD k hk); omega) hv hB hg ((Kp.refl _ _).alloc _) hown' hkp' hblk'
  case done =>
    intro q D' W' hI hsub hkp hlt hq hnq hblk
    obtain ⟨v, hv, hown, hB, hg⟩ := hI
    have hv0 := hv.cell0
    have hq' : q ≠ w.heap.size := by simp at hq; omega
    simp only [World.size_alloc] at hq
    have hgq : ∀ g, v.ownBlock = some g → g ≠ q := fun g h e => hnq (e ▸ (hg g h).1)
    clear hs hS
    gi_wp2_with fail
    refine leaves1 hblk fun W3 hk3 _ => ⟨_, results_tmp rfl _ _ _, v, rfl, ⟨hown.kp hk3 hgq, fun g h => by have := (hg g h).2; omega⟩, ?_⟩
    exact (((Kp.refl _ w).alloc _).trans' hkp fun k hk _ => Nat.ne_of_lt hk).trans' hk3 fun k hk _ => by omega

theorem collect_calls (s : Value) (xs : List File) (S : Fp) (w : World) (hs : SeqV Tryz.prog S w s encF xs) (hS : ∀ k, S k → k < w.heap.size) (hb : xs.length ≤ 1000000) :
    Calls Tryz.prog 161 #[s] w fun e w' => ∃ u, e = .returned u ∧ New EF 39 w.heap.size w' u xs ∧ Ext w w' := by
  go_enter Tryz.func161, Tryz.ntmps161
  go_wp2_with fail
  refine (appendSeq_calls s xs S w hs hS hb).mono ?_
  rintro e w1 ⟨u, rfl, hN, hx⟩
  go_wp2_with fail
  go_ret
  exact ⟨u, rfl, hN, hx⟩

theorem list_calls (s : Value) (xs : List File) (S : Fp) (w : World) (hs : SeqV Tryz.prog S w s encF xs) (hS : ∀ k, S k → k < w.heap.size) (hb : xs.length ≤ 1000000) :
    Calls Tryz.prog 132 #[s] w fun e w' => ∃ u, e = .returned u ∧ New EF 39 w.heap.size w' u xs ∧ Ext w w' := by
  obtain ⟨f, a, b, rfl⟩ := hs.isf
  have hnil := run_eql_func_nil (P := Tryz.prog) 156 ⟨_, _, _, Tryz.underlying156⟩
  go_enter Tryz.func132, Tryz.ntmps132
  go_wp2_with fail
  refine (collect_calls _ xs S w hs hS hb).mono ?_
  rintro e w1 ⟨u, rfl, hN, hx⟩
  clear hnil
  go_wp2_with fail
  go_ret
  exact ⟨u, rfl, hN, hx⟩

set_option maxHeartbeats 800000 in
/-- seq.Filter's function. -/
theorem filter1_calls (b1 b2 : Nat) (s f : Value) (xs : List File) (p : File → Bool) (S : Fp) (W : World) (y : Value) (hyf : ∃ f a b, y = .func f a b) (h1 : W.cell? ⟨b1, 0, none⟩ = some s) (h2 : W.cell? ⟨b2, 0, none⟩ = some f) (hS1 : S b1) (hS2 : S b2) (hSW : ∀ k, S k → k < W.heap.size)
    (hs : SeqV Tryz.prog S W s encF xs) (hf : FnV Tryz.prog S W f encF (fun x => .bool (p x)))
    (I Ix : List File → Fp → World → Prop) (D₀ : Fp) (hI : Frames I) (hIx : Frames Ix) (h0 : I [] D₀ W) (hD : ∀ k, D₀ k → k < W.heap.size ∧ ¬ S k)
    (hy : ∀ pre x D W1, I pre D W1 → (∀ k, D k → k < W1.heap.size) → (pre ++ [x]) <+: xs.filter p → Sub D₀ D W W1 → Kp (fun k => ¬ D₀ k) W W1 → CallV Tryz.prog y (encF x) W1 fun e W2 =>
      ∃ D', Sub D D' W1 W2 ∧ Kp (fun k => ¬ D k) W1 W2 ∧ (∀ k, D' k → k < W2.heap.size) ∧ ((e = .returned (.bool true) ∧ I (pre ++ [x]) D' W2) ∨ (e = .returned (.bool false) ∧ Ix (pre ++ [x]) D' W2))) :
    Calls Tryz.prog 162 #[y, .pointer (some ⟨b1, 0, none⟩), .pointer (some ⟨b2, 0, none⟩)] W fun e W' => (∃ v, e = .returned v) ∧ ∃ D', Sub D₀ D' W W' ∧ Kp (fun k => ¬ D₀ k) W W' ∧ (∀ k, D' k → k < W'.heap.size) ∧ (I (xs.filter p) D' W' ∨ ∃ pre, pre <+: xs.filter p ∧ Ix pre D' W') := by
  obtain ⟨sf, sa, sb, rfl⟩ := hs.isf
  obtain ⟨ff, fa, fb, rfl⟩ := hf.isf
  obtain ⟨yf, ya, yb, rfl⟩ := hyf
  have hb1 := cell_lt h1
  have hb2 := cell_lt h2
  dsimp only at hb1 hb2
  have hnil := run_eql_func_nil (P := Tryz.prog) 156 ⟨_, _, _, Tryz.underlying156⟩
  have hnil2 := run_eql_func_nil (P := Tryz.prog) 111 ⟨_, _, _, Tryz.underlying111⟩
  refine calls_of_body Tryz.func162 rfl ?_
  simp only [Tryz.ntmps162, List.size_toArray, List.length_cons, List.length_nil, Nat.reduceAdd, Nat.reduceSub, Array.replicate_succ, Array.replicate_zero, List.push_toArray, List.append_toArray, List.nil_append, List.cons_append]
  gi_wp2_with fail
  clear hnil hnil2
  have hbox := Blk.new W 111 #[Value.func yf ya yb]
  have hx0 : Ext W (W.alloc (.cells #[Value.func yf ya yb] 111)) := (Kp.refl _ W).alloc _
  have hz0 : (W.alloc (.cells #[Value.func yf ya yb] 111)).heap.size = W.heap.size + 1 := by simp
  generalize hW0 : W.alloc (.cells #[Value.func yf ya yb] 111) = W0 at hbox hx0 hz0
  refine range_wp (fv := .func sf sa sb) rfl (hs.later (Kp.of_ext hx0)) (fun k hk => by have := hSW k hk; omega) (fun _ => rfl) (fun pre D W' => I (pre.filter p) D W') (fun c _ D W' => c = .ret ∧ ∃ pre, pre <+: xs.filter p ∧ Ix pre D W')
    (fun pre D W1 W2 h hd hk => hI _ _ _ _ h hd hk) (fun c pre D W1 W2 ⟨hc, q, hq, h⟩ hd hk => ⟨hc, q, hq, hIx _ _ _ _ h hd hk⟩) D₀ (hI _ _ _ _ h0 (fun k hk => (hD k hk).1) (Kp.of_ext hx0)) (fun k hk => ⟨hx0.lt (hD k hk).1, (hD k hk).2⟩) ?round ?done ?stop
  case round =>
    intro l pre x D Wr hIr hDr hpre hsub hkp hl hlt hnl K hK
    gi_wp2_with fail
    refine hK _ _ ((Kp.refl _ Wr).alloc _) ?_
    intro W₂ hk2 hsz hrec
    clear hK hrec
    have hWW : Kp (fun k => k ≠ l) Wr W₂ := (Kp.of_ext ((Kp.refl _ Wr).alloc _)).trans hk2
    have hx := (Blk.new Wr 39 #[.string x.path, .string x.data]).kp hk2 (by simp; omega)
    have hx0' : W₂.cell? ⟨Wr.heap.size, 0, none⟩ = some (.string x.path) := hx.cell 0
    have hx1' : W₂.cell? ⟨Wr.heap.size, 1, none⟩ = some (.string x.data) := hx.cell 1
    have hy2 := ((hbox.kp hkp fun h => by have := (hD _ h).1; omega).kp hWW (by omega))
    have hold : Kp (fun k => ¬ D₀ k) W W₂ := ((hx0.mono fun _ _ _ => trivial).trans hkp).trans' hWW fun k hk _ => by omega
    have hSW2 : Kp S W W₂ := hold.mono fun k _ hs hd => (hD k hd).2 hs
    have hc2 : W₂.cell? ⟨b2, 0, none⟩ = some (.func ff fa fb) := (hSW2.cell (p := ⟨b2, 0, none⟩) hb2 hS2).trans h2
    have hfl : (pre ++ [x]).filter p = pre.filter p ++ if p x then [x] else [] := by rw [List.filter_append]; cases h : p x <;> simp [h]
    have hpf : (pre ++ [x]).filter p <+: xs.filter p := hpre.filter p
    have hD2 : ∀ k, D k → k < W₂.heap.size := fun k hk => hWW.lt (hDr k hk)
    have hI2 : I (pre.filter p) D W₂ := hI _ _ _ _ hIr hDr (hWW.mono fun k _ hk => by rintro rfl; exact hnl hk)
    have hsubW : Sub D₀ D W W₂ := fun k hk => by
      have := hWW.size
      rcases hsub k hk with h | h
      · exact .inl h
      · exact .inr ⟨by omega, by omega⟩
    clear hsub hkp hWW hIr hDr hk2 hsz
    gi_wp2_with (refine listInR_callV rfl rfl (.func ff fa fb) rfl _ rfl ?_)
    refine (hf.does W₂ hSW2 x).mono ?_
    rintro e W3 ⟨rfl, hx3⟩
    have hold3 : Kp (fun k => ¬ D₀ k) W W3 := hold.trans (Kp.of_ext hx3)
    have hI3 : I (pre.filter p) D W3 := hI _ _ _ _ hI2 hD2 (Kp.of_ext hx3)
    have hD3 : ∀ k, D k → k < W3.heap.size := fun k hk => hx3.lt (hD2 k hk)
    have hsub3 : Sub D₀ D W W3 := fun k hk => (hsubW k hk).imp id fun h => ⟨h.1, hx3.lt h.2⟩
    refine ⟨_, rfl, ?_⟩
    cases hp : p x with
    | false =>
      rw [hp] at hfl
      gi_wp2_with (refine listInR_skip rfl undef rfl ?_ ?_)
      refine ⟨D, fun k hk => .inl (.inl hk), Kp.of_ext hx3, hD3, ?_⟩
      show I ((pre ++ [x]).filter p) D W3
      rw [hfl]; simpa using hI3
    | true =>
      rw [hp] at hfl
      simp only [if_true] at hfl
      have hy3 := (hy2.ext hx3).cell0
      have hx3' := (hx.ext hx3).cell 0
      have hx3'' := (hx.ext hx3).cell 1
      simp only [List.getElem?_toArray, List.getElem?_cons_zero, List.getElem?_cons_succ] at hx3' hx3''
      clear hc2 hx0' hx1'
      gi_wp2_with (refine listInR_callV_g rfl (.func yf ya yb) rfl _ rfl ?_ ?_)
      rw [hfl] at hpf
      refine (hy (pre.filter p) x D W3 hI3 hD3 hpf hsub3 hold3).mono ?_
      rintro e W4 ⟨D', hs4, hk4, hl4, h4⟩
      have hs4' : Sub (fun k => D k ∨ (Wr.heap.size ≤ k ∧ k < (Wr.alloc (.cells #[.string x.path, .string x.data] 39)).heap.size)) D' W₂ W4 := fun k hk => by
        have := hx3.size
        rcases hs4 k hk with h | h
        · exact .inl (.inl h)
        · exact .inr ⟨by omega, h.2⟩
      have hk4' : Kp (fun k => ¬ (D k ∨ (Wr.heap.size ≤ k ∧ k < (Wr.alloc (.cells #[.string x.path, .string x.data] 39)).heap.size))) W₂ W4 := (Kp.of_ext hx3).trans' hk4 fun k _ hk h => hk (.inl h)
      rw [← hfl] at h4 hpf
      rcases h4 with ⟨rfl, h4⟩ | ⟨rfl, h4⟩
      · refine ⟨_, rfl, ?_⟩
        gi_wp2_with fail
        exact ⟨D', hs4', hk4', hl4, h4⟩
      · refine ⟨_, rfl, ?_⟩
        gi_wp2_with fail
        exact ⟨D', hs4', hk4', hl4, rfl, _, hpf, h4⟩
  case done =>
    intro q D' W' hId hsub hkp hlt hq hnq hblk
    gi_wp2_with fail
    refine leaves1 hblk fun W3 hk3 hz3 => ⟨_, results_none rfl _ _ _, ⟨_, rfl⟩, D', fun k hk => ?_, ((hx0.mono fun _ _ _ => trivial).trans hkp).trans' hk3 (fun k hk _ => by omega), fun k hk => by have := hlt k hk; omega, .inl (hI _ _ _ _ hId hlt (hk3.mono fun k _ hk => by rintro rfl; exact hnq hk))⟩
    rcases hsub k hk with h | h
    · exact .inl h
    · exact .inr ⟨by omega, by omega⟩
  case stop =>
    rintro q c pre D' W' hpre ⟨rfl, r, hr, hIr⟩ hsub hkp hlt hq hnq hblk
    gi_wp2_with fail
    refine leaves1 hblk fun W3 hk3 hz3 => ⟨_, results_none rfl _ _ _, ⟨_, rfl⟩, D', fun k hk => ?_, ((hx0.mono fun _ _ _ => trivial).trans hkp).trans' hk3 (fun k hk _ => by omega), fun k hk => by have := hlt k hk; omega, .inr ⟨r, hr, hIx _ _ _ _ hIr hlt (hk3.mono fun k _ hk => by rintro rfl; exact hnq hk)⟩⟩
    rcases hsub k hk with h | h
    · exact .inl h
    · exact .inr ⟨by omega, by omega⟩

theorem filter_calls (s f : Value) (xs : List File) (p : File → Bool) (S : Fp) (w : World) (hs : SeqV Tryz.prog S w s encF xs) (hf : FnV Tryz.prog S w f encF (fun x => .bool (p x))) (hS : ∀ k, S k → k < w.heap.size) :
    Calls Tryz.prog 133 #[s, f] w fun e w' => ∃ u, e = .returned u ∧ SeqV Tryz.prog (fun k => S k ∨ (w.heap.size ≤ k ∧ k < w'.heap.size)) w' u encF (xs.filter p) ∧ Ext w w' := by
  obtain ⟨sf, sa, sb, rfl⟩ := hs.isf
  obtain ⟨ff, fa, fb, rfl⟩ := hf.isf
  go_enter Tryz.func133, Tryz.ntmps133
  go_wp2_with fail
  go_ret
  have hx : Ext w ((w.alloc (.cells #[.func sf sa sb] 156)).alloc (.cells #[.func ff fa fb] 111)) := ((Kp.refl _ w).alloc _).alloc _
  refine ⟨.func (.func 162) #[] #[.pointer (some ⟨w.heap.size, 0, none⟩), .pointer (some ⟨w.heap.size + 1, 0, none⟩)], rfl, ⟨⟨_, _, _, rfl⟩, ?_⟩, hx⟩
  intro W hW y I Ix D₀ hyf hI hIx h0 hD hy
  have hz := hW.size
  simp only [World.size_alloc] at hz
  have hb1 := ((Blk.new w 156 #[.func sf sa sb]).ext ((Kp.refl _ _).alloc (.cells #[.func ff fa fb] 111))).kp hW (.inr ⟨Nat.le_refl _, by simp; omega⟩)
  have hb2 := (Blk.new (w.alloc (.cells #[.func sf sa sb] 156)) 111 #[.func ff fa fb]).kp hW (.inr ⟨by simp, by simp⟩)
  simp only [World.size_alloc] at hb2
  have hk : Kp S w W := (Kp.of_ext hx).trans' hW fun k _ h => .inl h
  refine callF_fn (enters_of Tryz.func162 (by kernel_rfl) rfl) (filter1_calls w.heap.size (w.heap.size + 1) (.func sf sa sb) (.func ff fa fb) xs p (fun k => S k ∨ (w.heap.size ≤ k ∧ k < w.heap.size + 1 + 1)) W y hyf hb1.cell0 hb2.cell0 (.inr ⟨by omega, by omega⟩) (.inr ⟨by omega, by omega⟩) ?_ ((hs.later hk).wide fun k h => .inl h) ((hf.later hk).wide fun k h => .inl h) I Ix D₀ hI hIx h0 ?_ hy)
  · rintro k (h | h)
    · have := hS k h; omega
    · omega
  · intro k hk
    have := hD k hk
    simpa using this

end Go.Proofs.YtgjbfkaepalkiaaGreatDoor
