/-
  Sequences of texts that are gone through once: slices.AppendSeq, Collect, seq.List, seq.Take, seq.Fold (counting), at texts. seq.Take, seq.Fold (counting), line.Few, line.Binary. text.plain.
-/
import Derived.Test.YtgjbfkaepalkiaaGreatDoorLines
import Derived.Test.YtgjbfkaepalkiaaGreatDoorConcat
namespace Go.Proofs.YtgjbfkaepalkiaaGreatDoor
open Go.RowKit
set_option linter.unusedVariables false
set_option linter.unusedSimpArgs false
attribute [local go_sem] Oper.semAt_some

/-- slices.AppendSeq at texts, of no elements ahead. -/
theorem appendSeqS_calls (s : Value) (xs : List ByteArray) (S B : Fp) (w : World) (hs : SeqB Tryz.prog S B w s encS xs) (hS : ∀ k, S k → k < w.heap.size) (hb : xs.length ≤ 1000000) :
    Calls Tryz.prog 249 #[.slice none 0 0, s] w fun e w' => ∃ u, e = .returned u ∧ New ES 9 w.heap.size w' u xs ∧ Kp (fun k => ¬ B k) w w' := by
  refine calls_of_body Tryz.func249 rfl ?_
  simp only [Tryz.ntmps249, List.size_toArray, List.length_cons, List.length_nil, Nat.reduceAdd, Nat.reduceSub, Array.replicate_succ, Array.replicate_zero, List.push_toArray, List.append_toArray, List.nil_append, List.cons_append]
  gi_wp2_with fail
  refine range_wpB (fv := s) rfl (hs.later (Kp.of_ext ((Kp.refl _ w).alloc _))) (fun k hk => Nat.lt_of_lt_of_le (hS k hk) (by simp)) (fun _ => rfl) (fun pre D W => Coll ES 52 9 w.heap.size pre D W) (fun _ _ _ _ => False)
    (fun pre D W W' h _ hk => h.frame hk) (fun _ _ _ _ _ h _ _ => h) (fun k => k = w.heap.size) ⟨_, Blk.new w _ _, Own.nil _ _, rfl, fun g hg => by simp [Value.ownBlock] at hg⟩ (fun k hk => ⟨by simp; omega, fun h => by have := hS k h; omega⟩) ?round ?done ?stop
  case stop => exact fun _ _ _ _ _ _ h => h.elim
  case round =>
    intro l pre x D W hI hD hpre hsub hkp hl hlt hnl K hK
    gi_wp2_with fail
    refine hK _ _ (Kp.refl _ W) ?_
    intro W₂ hk2 hsz hrec
    obtain ⟨v, hv, hown, hB, hg⟩ := hI.frame (hk2.mono fun k _ hk => by rintro rfl; exact hnl hk)
    have hv0 := hv.cell0
    have hpl : (pre ++ [x]).length ≤ xs.length := hpre.length_le
    simp only [List.length_append, List.length_singleton] at hpl
    clear hsub hkp hl hrec hK hs hS
    gi_wp2_with (gi_at_builtin; refine stop ?_)
    refine listIn_append (v := v) (u := .slice (some ⟨W₂.heap.size, 0, none⟩) 1 1) tiS rfl rfl rfl rfl (hown.kp ((Kp.refl _ _).alloc _) (fun _ _ => trivial)) (Own.made W₂ 9 [x] (by simp [maxLen])).rd (by simp; omega) (by simp [maxLen]; omega) ?_
    intro v' w' hown' hkp' hblk'
    obtain ⟨A', n', c', rfl⟩ := hown'.slice
    have hvB : v.ownBlock ≠ some w.heap.size := fun h => by have := (hg _ h).2; omega
    have hv' : Blk w' w.heap.size 52 #[v] := (hv.ext ((Kp.refl _ W₂).alloc _)).kp hkp' hvB
    have hv0' := hv'.cell0
    have hf0' := hv'.frozen 0
    clear hv0
    gi_wp2_with fail
    exact coll_step (fun k hk => .inl hk) (fun k hk => by have := hk2.size; rcases hk with hk | hk; exact hk2.lt (hD k hk); omega) hv hB hg ((Kp.refl _ _).alloc _) hown' hkp' hblk'
  case done =>
    intro q D' W' hI hsub hkp hlt hq hnq hblk
    obtain ⟨v, hv, hown, hB, hg⟩ := hI
    have hv0 := hv.cell0
    have hq' : q ≠ w.heap.size := by simp at hq; omega
    simp only [World.size_alloc] at hq
    have hgq : ∀ g, v.ownBlock = some g → g ≠ q := fun g h e => hnq (e ▸ (hg g h).1)
    clear hs hS
    gi_wp2_with fail
    refine leaves1 hblk fun W3 hk3 _ => ⟨_, results_tmp rfl _ _ _, v, rfl, ⟨hown.kp hk3 hgq, fun g h => by have := (hg g h).2; omega⟩, ?_⟩
    exact (((Kp.refl _ w).alloc _).trans' hkp fun k hk h => ⟨Nat.ne_of_lt hk, h⟩).trans' hk3 fun k hk _ => by omega

theorem listS_calls (s : Value) (xs : List ByteArray) (S B : Fp) (w : World) (hs : SeqB Tryz.prog S B w s encS xs) (hS : ∀ k, S k → k < w.heap.size) (hb : xs.length ≤ 1000000) :
    Calls Tryz.prog 214 #[s] w fun e w' => ∃ u, e = .returned u ∧ New ES 9 w.heap.size w' u xs ∧ Kp (fun k => ¬ B k) w w' := by
  obtain ⟨f, a, b, rfl⟩ := hs.isf
  have hnil := run_eql_func_nil (P := Tryz.prog) 223 ⟨_, _, _, Tryz.underlying223⟩
  go_enter Tryz.func214, Tryz.ntmps214
  have hc : Calls Tryz.prog 237 #[.func f a b] w fun e w' => ∃ u, e = .returned u ∧ New ES 9 w.heap.size w' u xs ∧ Kp (fun k => ¬ B k) w w' := by
    clear hnil
    go_enter Tryz.func237, Tryz.ntmps237
    go_wp2_with fail
    refine (appendSeqS_calls _ xs S B w hs hS hb).mono ?_
    rintro e w1 ⟨u, rfl, hN, hx⟩
    go_wp2_with fail
    go_ret
    exact ⟨u, rfl, hN, hx⟩
  have HC := Lib.hid hc
  clear hc hs hS
  go_wp2_with fail
  refine HC.out.mono ?_
  rintro e w1 ⟨u, rfl, hN, hx⟩
  clear hnil
  go_wp2_with fail
  go_ret
  exact ⟨u, rfl, hN, hx⟩

/-- line.Split. -/
theorem split_line (s : ByteArray) (w : World) (hsz : s.size ≤ 1000000) :
    Calls Tryz.prog 187 #[.string s] w fun e w' => ∃ u, e = .returned u ∧ New ES 9 w.heap.size w' u (linesT s) ∧ Ext w w' := by
  go_enter Tryz.func187, Tryz.ntmps187
  go_wp2_with fail
  refine (lines_calls s w hsz).mono ?_
  rintro e w1 ⟨u, rfl, hsq, hx, hlt⟩
  go_wp2_with fail
  refine (listS_calls u _ _ _ w1 hsq (fun k hk => by omega) (by have := linesT_length s; omega)).mono ?_
  rintro e w2 ⟨v, rfl, hN, hk⟩
  clear hsq
  obtain ⟨A, n, c, rfl⟩ := hN.1.slice
  go_wp2_with fail
  go_ret
  exact ⟨_, rfl, hN.less hx.size, hx.trans' hk fun k hk _ => Nat.ne_of_lt hk⟩

end Go.Proofs.YtgjbfkaepalkiaaGreatDoor

namespace Go.Proofs.YtgjbfkaepalkiaaGreatDoor
open Go.RowKit
set_option linter.unusedVariables false
set_option linter.unusedSimpArgs false
attribute [local go_sem] Oper.semAt_some

theorem take_len_lt {α : Type} {xs : List α} {n : Nat} (h : xs.length < n) : xs.take n = xs := List.take_of_length_le (by omega)
theorem prefix_take {α : Type} {xs pre : List α} {n : Nat} (h : pre <+: xs) (hl : pre.length ≤ n) : pre <+: xs.take n := by
  obtain ⟨r, rfl⟩ := h
  rw [List.take_append, List.take_of_length_le hl]
  exact ⟨_, rfl⟩
theorem prefix_full {α : Type} {xs pre : List α} {n : Nat} (h : pre <+: xs) (hl : pre.length = n) : pre = xs.take n := by
  obtain ⟨r, rfl⟩ := h
  rw [List.take_append, List.take_of_length_le (by omega), hl, Nat.sub_self, List.take_zero, List.append_nil]

/-- What stands between two rounds of Take's: what the caller's word says, and how many are left. -/
def TakeI (n lb : Nat) (W0 : World) (D₀ : Fp) (I : List ByteArray → Fp → World → Prop) (pre : List ByteArray) (D : Fp) (W : World) : Prop :=
  ∃ Dy : Fp, I pre Dy W ∧ Blk W lb 3 #[.int .i64 ((n - pre.length : Nat) : Int)] ∧ (∀ k, D k ↔ Dy k ∨ k = lb) ∧ ¬ Dy lb ∧ pre.length < n ∧ Sub D₀ Dy W0 W
def TakeX (xs : List ByteArray) (n : Nat) (W0 : World) (D₀ : Fp) (I Ix : List ByteArray → Fp → World → Prop) (c : Code) (pre : List ByteArray) (D : Fp) (W : World) : Prop :=
  c = .ret ∧ ∃ Dy : Fp, (∀ k, Dy k → D k) ∧ Sub D₀ Dy W0 W ∧ (I (xs.take n) Dy W ∨ ∃ q, q <+: xs.take n ∧ Ix q Dy W)
theorem TakeI.frames {n lb : Nat} {W0 : World} {D₀ : Fp} {I : List ByteArray → Fp → World → Prop} (hI : Frames I) : Frames (TakeI n lb W0 D₀ I) := by
  rintro pre D W W' ⟨Dy, h1, h2, h3, h4, h5, h6⟩ hD hk
  have hz := hk.size
  exact ⟨Dy, hI _ _ _ _ h1 (fun k hd => hD k ((h3 k).2 (.inl hd))) (hk.mono fun k _ hd => (h3 k).2 (.inl hd)), h2.kp hk ((h3 lb).2 (.inr rfl)), h3, h4, h5, fun k hd => (h6 k hd).imp id fun h => ⟨h.1, by omega⟩⟩
theorem TakeX.frames {xs : List ByteArray} {n : Nat} {W0 : World} {D₀ : Fp} {I Ix : List ByteArray → Fp → World → Prop} (hI : Frames I) (hIx : Frames Ix) (c : Code) : Frames (TakeX xs n W0 D₀ I Ix c) := by
  rintro pre D W W' ⟨hc, Dy, h1, h2, h3⟩ hD hk
  have hz := hk.size
  refine ⟨hc, Dy, h1, fun k hd => (h2 k hd).imp id fun h => ⟨h.1, by omega⟩, ?_⟩
  rcases h3 with h | ⟨q, hq, h⟩
  · exact .inl (hI _ _ _ _ h (fun k hd => hD k (h1 k hd)) (hk.mono fun k _ hd => h1 k hd))
  · exact .inr ⟨q, hq, hIx _ _ _ _ h (fun k hd => hD k (h1 k hd)) (hk.mono fun k _ hd => h1 k hd)⟩

set_option maxHeartbeats 1000000 in
theorem take1_calls (b1 b2 : Nat) (n : Nat) (hn : 1 ≤ n) (hn2 : n ≤ 1000000) (s : Value) (xs : List ByteArray) (S B : Fp) (W : World) (y : Value) (hyf : ∃ f a b, y = .func f a b) (h1 : W.cell? ⟨b1, 0, none⟩ = some (.int .i64 n)) (h2 : W.cell? ⟨b2, 0, none⟩ = some s) (hS1 : S b1) (hS2 : S b2) (hB1 : ¬ B b1) (hB2 : ¬ B b2) (hSW : ∀ k, S k → k < W.heap.size)
    (hs : SeqB Tryz.prog S B W s encS xs)
    (I Ix : List ByteArray → Fp → World → Prop) (D₀ : Fp) (hI : Frames I) (hIx : Frames Ix) (h0 : I [] D₀ W) (hD : ∀ k, D₀ k → k < W.heap.size ∧ ¬ S k)
    (hy : ∀ pre x D W1, I pre D W1 → (∀ k, D k → k < W1.heap.size) → (pre ++ [x]) <+: xs.take n → Sub D₀ D W W1 → Kp (fun k => ¬ D₀ k ∧ ¬ B k) W W1 → CallV Tryz.prog y (encS x) W1 fun e W2 =>
      ∃ D', Sub D D' W1 W2 ∧ Kp (fun k => ¬ D k) W1 W2 ∧ (∀ k, D' k → k < W2.heap.size) ∧ ((e = .returned (.bool true) ∧ I (pre ++ [x]) D' W2) ∨ (e = .returned (.bool false) ∧ Ix (pre ++ [x]) D' W2))) :
    Calls Tryz.prog 246 #[y, .pointer (some ⟨b1, 0, none⟩), .pointer (some ⟨b2, 0, none⟩)] W fun e W' => (∃ v, e = .returned v) ∧ ∃ D', Sub D₀ D' W W' ∧ Kp (fun k => ¬ D₀ k ∧ ¬ B k) W W' ∧ (∀ k, D' k → k < W'.heap.size) ∧ (I (xs.take n) D' W' ∨ ∃ pre, pre <+: xs.take n ∧ Ix pre D' W') := by
  obtain ⟨sf, sa, sb, rfl⟩ := hs.isf
  obtain ⟨yf, ya, yb, rfl⟩ := hyf
  have hb1 := cell_lt h1
  have hb2 := cell_lt h2
  dsimp only at hb1 hb2
  have hnil := run_eql_func_nil (P := Tryz.prog) 223 ⟨_, _, _, Tryz.underlying223⟩
  have hd : decide ((n : Int) < 1) = false := decide_eq_false (by omega)
  refine calls_of_body Tryz.func246 rfl ?_
  simp only [Tryz.ntmps246, List.size_toArray, List.length_cons, List.length_nil, Nat.reduceAdd, Nat.reduceSub, Array.replicate_succ, Array.replicate_zero, List.push_toArray, List.append_toArray, List.nil_append, List.cons_append]
  gi_wp2_with fail
  clear hnil hd
  have hbox := (Blk.new W 108 #[Value.func yf ya yb]).ext ((Kp.refl _ _).alloc (.cells #[.int .i64 n] 3))
  have hlb : Blk ((W.alloc (.cells #[Value.func yf ya yb] 108)).alloc (.cells #[.int .i64 n] 3)) (W.heap.size + 1) 3 #[.int .i64 n] := by
    have h := Blk.new (W.alloc (.cells #[Value.func yf ya yb] 108)) 3 #[.int .i64 n]
    rwa [World.size_alloc] at h
  have hx0 : Ext W ((W.alloc (.cells #[Value.func yf ya yb] 108)).alloc (.cells #[.int .i64 n] 3)) := ((Kp.refl _ W).alloc _).alloc _
  have hz0 : ((W.alloc (.cells #[Value.func yf ya yb] 108)).alloc (.cells #[.int .i64 n] 3)).heap.size = W.heap.size + 2 := by simp
  generalize ((W.alloc (.cells #[Value.func yf ya yb] 108)).alloc (.cells #[.int .i64 n] 3)) = W0 at hbox hlb hx0 hz0 ⊢
  have hBS := hs.sub
  refine range_wpB (fv := .func sf sa sb) rfl (hs.later (Kp.of_ext hx0)) (fun k hk => by have := hSW k hk; omega) (fun _ => rfl) (TakeI n (W.heap.size + 1) W D₀ I) (TakeX xs n W D₀ I Ix) (TakeI.frames hI) (TakeX.frames hI hIx) (fun k => D₀ k ∨ k = W.heap.size + 1)
    ⟨D₀, hI _ _ _ _ h0 (fun k hk => (hD k hk).1) (Kp.of_ext hx0), by simpa using hlb, fun k => Iff.rfl, fun h => by have := (hD _ h).1; omega, by simp; omega, fun k hk => .inl hk⟩
    (fun k hk => by rcases hk with hk | hk; exact ⟨hx0.lt (hD k hk).1, (hD k hk).2⟩; exact ⟨by omega, fun h => by have := hSW k h; omega⟩) ?round ?done ?stop
  case round =>
    rintro l pre x D Wr ⟨Dy, i1, i2, i3, i4, i5, i6⟩ hDr hpre hsub hkp hl hlt hnl K hK
    gi_wp2_with fail
    refine hK _ _ (Kp.refl _ Wr) ?_
    intro W₂ hk2 hsz hrec
    clear hK hrec
    have hDl : ∀ k, D k → k ≠ l := fun k hd e => hnl (e ▸ hd)
    have j1 : I pre Dy W₂ := hI _ _ _ _ i1 (fun k hd => hDr k ((i3 k).2 (.inl hd))) (hk2.mono fun k _ hd => hDl k ((i3 k).2 (.inl hd)))
    have j2 := i2.kp hk2 (hDl _ ((i3 _).2 (.inr rfl)))
    have hlbl := j2.lt
    have hbox2 := (hbox.kp (hkp.mono (T := fun k => k = W.heap.size) fun k _ e => ⟨by rintro (h | h); have := (hD k h).1; omega; omega, fun h => by have := hSW k (hBS k h); omega⟩) rfl).kp hk2 (by omega)
    have hold : Kp (fun k => ¬ D₀ k ∧ ¬ B k) W W₂ := ((hx0.mono fun _ _ _ => trivial).trans' hkp fun k hk hn => ⟨by rintro (h | h); exact hn.1 h; omega, hn.2⟩).trans' hk2 fun k hk _ => by omega
    have hSW2 : Kp (fun k => k = b1 ∨ k = b2) W W₂ := hold.mono fun k _ h => by
      rcases h with rfl | rfl
      · exact ⟨fun h => (hD _ h).2 hS1, hB1⟩
      · exact ⟨fun h => (hD _ h).2 hS2, hB2⟩
    have hDy2 : ∀ k, Dy k → k < W₂.heap.size := fun k hd => hk2.lt (hDr k ((i3 k).2 (.inl hd)))
    have j6 : Sub D₀ Dy W W₂ := fun k hd => (i6 k hd).imp id fun h => ⟨h.1, by omega⟩
    obtain ⟨m, hm⟩ : ∃ m, n - pre.length = m := ⟨_, rfl⟩
    rw [hm] at j2
    have hm1 : 1 ≤ m := by omega
    have hm2 : m ≤ 1000000 := by omega
    have hlen : (pre ++ [x]).length = pre.length + 1 := by simp
    have HLEN := Lib.hid hlen
    have HM := Lib.hid hm
    have c0 := j2.cell0
    have f0 := j2.frozen 0
    have y0 := hbox2.cell0
    clear i1 i2 hsub hlen hm hs h1 h2
    have hne : ¬ W.heap.size = W.heap.size + 1 := by omega
    gi_wp2_with (refine listInR_callV rfl rfl (.func yf ya yb) rfl _ rfl ?_)
    have hpx : (pre ++ [x]) <+: xs.take n := prefix_take hpre (by rw [HLEN.out]; omega)
    have k1 : Kp (fun k => k ≠ W.heap.size + 1) W₂ (W₂.setCell ⟨W.heap.size + 1, 0, none⟩ (.int .i64 ((m : Int) - 1))) := (Kp.refl _ _).setCell (.inr (by simp)) _
    have k2 := j2.set_ 0 (.int .i64 ((m : Int) - 1))
    have hzz : (W₂.setCell ⟨W.heap.size + 1, 0, none⟩ (.int .i64 ((m : Int) - 1))).heap.size = W₂.heap.size := by simp
    generalize W₂.setCell ⟨W.heap.size + 1, 0, none⟩ (.int .i64 ((m : Int) - 1)) = W3 at k1 k2 hzz ⊢
    have hold3 : Kp (fun k => ¬ D₀ k ∧ ¬ B k) W W3 := hold.trans' k1 fun k hk _ => by omega
    refine (hy pre x Dy W3 (hI _ _ _ _ j1 hDy2 (k1.mono fun k _ hd e => i4 (e ▸ hd))) (fun k hd => by have := hDy2 k hd; omega) hpx (fun k hd => by have := j6 k hd; rw [hzz]; exact this) hold3).mono ?_
    rintro e W4 ⟨D', hs4, hk4, hl4, h4⟩
    have hlb4 : Blk W4 (W.heap.size + 1) 3 #[.int .i64 ((m : Int) - 1)] := Blk.kp k2 hk4 i4
    have hz4 := hk4.size
    have hnD' : ¬ D' (W.heap.size + 1) := fun h => by
      rcases hs4 _ h with h | h
      · exact i4 h
      · omega
    have hs04 : Sub D₀ D' W W4 := fun k hd => by
      rcases hs4 k hd with h | h
      · rcases j6 k h with h | h
        · exact .inl h
        · exact .inr ⟨h.1, by omega⟩
      · exact .inr ⟨by omega, h.2⟩
    have hsX : Sub (fun k => D k ∨ (Wr.heap.size ≤ k ∧ k < Wr.heap.size)) (fun k => D' k ∨ k = W.heap.size + 1) W₂ W4 := fun k hd => by
      rcases hd with hd | rfl
      · rcases hs4 k hd with h | h
        · exact .inl (.inl ((i3 k).2 (.inl h)))
        · exact .inr ⟨by omega, h.2⟩
      · exact .inl (.inl ((i3 _).2 (.inr rfl)))
    have hkX : Kp (fun k => ¬ (D k ∨ (Wr.heap.size ≤ k ∧ k < Wr.heap.size))) W₂ W4 := (k1.mono fun k _ h e => h (.inl ((i3 k).2 (.inr e)))).trans' hk4 fun k _ h hd => h (.inl ((i3 k).2 (.inl hd)))
    have hlX : ∀ k, (D' k ∨ k = W.heap.size + 1) → k < W4.heap.size := fun k hd => by
      rcases hd with hd | rfl
      · exact hl4 k hd
      · exact hlb4.lt
    have d0 := hlb4.cell0
    clear c0 f0 y0 k1 k2 hold hold3 hSW2 hbox2 j2
    rcases h4 with ⟨rfl, h4⟩ | ⟨rfl, h4⟩
    · refine ⟨_, rfl, ?_⟩
      by_cases hm3 : m = 1
      · have hd1 : decide ((m : Int) - 1 < 1) = true := decide_eq_true (by omega)
        have hfull : pre ++ [x] = xs.take n := prefix_full hpre (by have := HM.out; rw [HLEN.out]; omega)
        rw [hfull] at h4
        gi_wp2_with fail
        exact ⟨_, hsX, hkX, hlX, rfl, D', fun k h => .inl h, hs04, .inl h4⟩
      · have hd1 : decide ((m : Int) - 1 < 1) = false := decide_eq_false (by omega)
        have hlen2 : pre.length + 1 < n := by have := HM.out; omega
        have hcast : ((n - (pre ++ [x]).length : Nat) : Int) = (m : Int) - 1 := by have := HM.out; rw [HLEN.out]; omega
        have HC := Lib.hid hcast
        clear hcast
        gi_wp2_with fail
        exact ⟨_, hsX, hkX, hlX, D', h4, by rw [HC.out]; exact hlb4, fun k => Iff.rfl, hnD', by rw [HLEN.out]; exact hlen2, hs04⟩
    · refine ⟨_, rfl, ?_⟩
      gi_wp2_with fail
      exact ⟨_, hsX, hkX, hlX, rfl, D', fun k h => .inl h, hs04, .inr ⟨_, hpx, h4⟩⟩
  case done =>
    rintro q D' W' ⟨Dy, i1, i2, i3, i4, i5, i6⟩ hsub hkp hlt hq hnq hblk
    have HT := Lib.hid (take_len_lt i5)
    gi_wp2_with fail
    refine leaves1 hblk fun W3 hk3 hz3 => ⟨_, results_none rfl _ _ _, ⟨_, rfl⟩, Dy, fun k hk => (i6 k hk).imp id fun h => ⟨h.1, by omega⟩, ((hx0.mono fun _ _ _ => trivial).trans' hkp fun k hk hn => ⟨by rintro (h | h); exact hn.1 h; omega, hn.2⟩).trans' hk3 (fun k hk _ => by omega), fun k hk => by have := hlt k ((i3 k).2 (.inl hk)); omega, .inl (by rw [HT.out]; exact hI _ _ _ _ i1 (fun k hk => hlt k ((i3 k).2 (.inl hk))) (hk3.mono fun k _ hk => by rintro rfl; exact hnq ((i3 _).2 (.inl hk))))⟩
  case stop =>
    rintro q c pre D' W' hpre ⟨rfl, Dy, i1, i2, i3⟩ hsub hkp hlt hq hnq hblk
    gi_wp2_with fail
    refine leaves1 hblk fun W3 hk3 hz3 => ⟨_, results_none rfl _ _ _, ⟨_, rfl⟩, Dy, fun k hk => (i2 k hk).imp id fun h => ⟨h.1, by omega⟩, ((hx0.mono fun _ _ _ => trivial).trans' hkp fun k hk hn => ⟨by rintro (h | h); exact hn.1 h; omega, hn.2⟩).trans' hk3 (fun k hk _ => by omega), fun k hk => by have := hlt k (i1 k hk); omega, ?_⟩
    rcases i3 with h | ⟨r, hr, h⟩
    · exact .inl (hI _ _ _ _ h (fun k hk => hlt k (i1 k hk)) (hk3.mono fun k _ hk => by rintro rfl; exact hnq (i1 _ hk)))
    · exact .inr ⟨r, hr, hIx _ _ _ _ h (fun k hk => hlt k (i1 k hk)) (hk3.mono fun k _ hk => by rintro rfl; exact hnq (i1 _ hk))⟩

/-- seq.Take. -/
theorem take_calls (s : Value) (xs : List ByteArray) (n : Nat) (hn : 1 ≤ n) (hn2 : n ≤ 1000000) (S B : Fp) (w : World) (hs : SeqB Tryz.prog S B w s encS xs) (hS : ∀ k, S k → k < w.heap.size) :
    Calls Tryz.prog 231 #[s, .int .i64 n] w fun e w' => ∃ u, e = .returned u ∧ SeqB Tryz.prog (fun k => S k ∨ (w.heap.size ≤ k ∧ k < w'.heap.size)) B w' u encS (xs.take n) ∧ Ext w w' := by
  obtain ⟨sf, sa, sb, rfl⟩ := hs.isf
  go_enter Tryz.func231, Tryz.ntmps231
  go_wp2_with fail
  go_ret
  have hx : Ext w ((w.alloc (.cells #[.func sf sa sb] 223)).alloc (.cells #[.int .i64 n] 3)) := ((Kp.refl _ w).alloc _).alloc _
  refine ⟨.func (.func 246) #[] #[.pointer (some ⟨w.heap.size + 1, 0, none⟩), .pointer (some ⟨w.heap.size, 0, none⟩)], rfl, ⟨⟨_, _, _, rfl⟩, fun k hk => .inl (hs.sub k hk), ?_⟩, hx⟩
  intro W hW y I Ix D₀ hyf hI hIx h0 hD hy
  have hz := hW.size
  simp only [World.size_alloc] at hz
  have hb1 := ((Blk.new w 223 #[.func sf sa sb]).ext ((Kp.refl _ _).alloc (.cells #[.int .i64 n] 3))).kp hW (.inr ⟨Nat.le_refl _, by simp; omega⟩)
  have hb2 := (Blk.new (w.alloc (.cells #[.func sf sa sb] 223)) 3 #[.int .i64 n]).kp hW (.inr ⟨by simp, by simp⟩)
  simp only [World.size_alloc] at hb2
  have hk : Kp S w W := (Kp.of_ext hx).trans' hW fun k _ h => .inl h
  refine callF_fn (enters_of Tryz.func246 (by kernel_rfl) rfl) (take1_calls (w.heap.size + 1) w.heap.size n hn hn2 (.func sf sa sb) xs (fun k => S k ∨ (w.heap.size ≤ k ∧ k < w.heap.size + 1 + 1)) B W y hyf hb2.cell0 hb1.cell0 (.inr ⟨by omega, by omega⟩) (.inr ⟨by omega, by omega⟩) (fun h => by have := hS _ (hs.sub _ h); omega) (fun h => by have := hS _ (hs.sub _ h); omega) ?_ ((hs.later hk).wide fun k h => .inl h) I Ix D₀ hI hIx h0 ?_ hy)
  · rintro k (h | h)
    · have := hS k h; omega
    · omega
  · intro k hk
    have := hD k hk
    simpa using this

/-- How many there are: seq.Fold with line.Few's function. -/
theorem foldCount_calls (s : Value) (xs : List ByteArray) (S B : Fp) (w : World) (hs : SeqB Tryz.prog S B w s encS xs) (hS : ∀ k, S k → k < w.heap.size) (hb : xs.length ≤ 1000000) :
    Calls Tryz.prog 230 #[s, .int .i64 0, .func (.func 232) #[] #[]] w fun e w' => e = .returned (.int .i64 xs.length) ∧ Kp (fun k => ¬ B k) w w' := by
  obtain ⟨sf, sa, sb, rfl⟩ := hs.isf
  have hnil := run_eql_func_nil (P := Tryz.prog) 223 ⟨_, _, _, Tryz.underlying223⟩
  have hnil2 := run_eql_func_nil (P := Tryz.prog) 235 ⟨_, _, _, Tryz.underlying235⟩
  refine calls_of_body Tryz.func230 rfl ?_
  simp only [Tryz.ntmps230, List.size_toArray, List.length_cons, List.length_nil, Nat.reduceAdd, Nat.reduceSub, Array.replicate_succ, Array.replicate_zero, List.push_toArray, List.append_toArray, List.nil_append, List.cons_append]
  gi_wp2_with fail
  clear hnil hnil2
  have hba := (Blk.new w 3 #[.int .i64 0]).ext ((Kp.refl _ _).alloc (.cells #[.func (.func 232) #[] #[]] 235))
  have hbf : Blk ((w.alloc (.cells #[.int .i64 0] 3)).alloc (.cells #[.func (.func 232) #[] #[]] 235)) (w.heap.size + 1) 235 #[.func (.func 232) #[] #[]] := by
    have h := Blk.new (w.alloc (.cells #[.int .i64 0] 3)) 235 #[.func (.func 232) #[] #[]]
    rwa [World.size_alloc] at h
  have hx0 : Ext w ((w.alloc (.cells #[.int .i64 0] 3)).alloc (.cells #[.func (.func 232) #[] #[]] 235)) := ((Kp.refl _ w).alloc _).alloc _
  have hz0 : ((w.alloc (.cells #[.int .i64 0] 3)).alloc (.cells #[.func (.func 232) #[] #[]] 235)).heap.size = w.heap.size + 2 := by simp
  generalize ((w.alloc (.cells #[.int .i64 0] 3)).alloc (.cells #[.func (.func 232) #[] #[]] 235)) = W0 at hba hbf hx0 hz0 ⊢
  have hBS := hs.sub
  refine range_wpB (fv := .func sf sa sb) rfl (hs.later (Kp.of_ext hx0)) (fun k hk => by have := hS k hk; omega) (fun _ => rfl) (fun pre D W => Blk W w.heap.size 3 #[.int .i64 (pre.length : Int)] ∧ D w.heap.size) (fun _ _ _ _ => False)
    (fun pre D W W' h _ hk => ⟨h.1.kp hk h.2, h.2⟩) (fun _ _ _ _ _ h _ _ => h) (fun k => k = w.heap.size) ⟨hba, rfl⟩ (fun k hk => ⟨by omega, fun h => by have := hS k h; omega⟩) ?round ?done ?stop
  case stop => exact fun _ _ _ _ _ _ h => h.elim
  case round =>
    rintro l pre x D W ⟨i1, i2⟩ hDr hpre hsub hkp hl hlt hnl K hK
    gi_wp2_with fail
    refine hK _ _ (Kp.refl _ W) ?_
    intro W₂ hk2 hsz hrec
    clear hK hrec
    have j1 := i1.kp hk2 (fun e => hnl (e ▸ i2))
    have j2 := (hbf.kp (hkp.mono (T := fun k => k = w.heap.size + 1) fun k _ e => ⟨by omega, fun h => by have := hS k (hBS k h); omega⟩) rfl).kp hk2 (by omega)
    have hpl : (pre ++ [x]).length ≤ xs.length := hpre.length_le
    simp only [List.length_append, List.length_singleton] at hpl
    obtain ⟨m, hm⟩ : ∃ m, pre.length = m := ⟨_, rfl⟩
    rw [hm] at j1 hpl
    have hm2 : m + 1 ≤ 1000000 := by omega
    have HL : Hid (((pre ++ [x]).length : Int) = (m : Int) + 1) := Lib.hid (by rw [List.length_append, hm]; rfl)
    have c0 := j1.cell0
    have f0 := j1.frozen 0
    have c1 := j2.cell0
    have hcall : ∀ W, Calls Tryz.prog 232 #[.int .i64 m, .string x] W fun e W' => e = .returned (.int .i64 ((m : Int) + 1)) ∧ W = W' := by
      intro W
      have hw : IntKind.i64.wrap ((m : Int) + 1) = (m : Int) + 1 := IntWalk.i64_in _ (by omega)
      go_enter Tryz.func232, Tryz.ntmps232
      go_wp2_with fail
      go_ret
      exact ⟨rfl, rfl⟩
    have HCL := Lib.hid (fun W => (callV_fn (args := #[.int .i64 m, .string x]) (lb := #[]) (enters_of Tryz.func232 (by kernel_rfl) rfl) (hcall W) : CallV Tryz.prog (.func (.func 232) #[] #[]) #[.int .i64 m, .string x] W _))
    have hlt0 := j1.lt
    clear hs hsub hkp hpl hm hcall i1
    gi_wp2_with (refine listInR_callV rfl rfl (.func (.func 232) #[] #[]) rfl _ rfl ?_)
    refine (HCL.out W₂).mono ?_
    rintro e w' ⟨rfl, rfl⟩
    refine ⟨_, rfl, ?_⟩
    gi_wp2_with fail
    refine ⟨D, fun k hk => .inl (.inl hk), (Kp.refl _ _).setCell (.inr fun h => h (.inl i2)) _, fun k hk => by have := hk2.lt (hDr k hk); simpa using this, ?_, i2⟩
    rw [HL.out]
    exact j1.set_ 0 _
  case done =>
    rintro q D' W' ⟨i1, i2⟩ hsub hkp hlt hq hnq hblk
    have c0 := i1.cell0
    clear hs
    gi_wp2_with fail
    refine leaves1 hblk fun W3 hk3 _ => ⟨_, results_tmp rfl _ _ _, rfl, ((hx0.mono (T := fun k => ¬ B k) fun _ _ _ => trivial).trans' hkp fun k hk h => ⟨by omega, h⟩).trans' hk3 fun k hk _ => by omega⟩

theorem few_calls (s : ByteArray) (w : World) (hsz : s.size ≤ 1000000) : Calls Tryz.prog 211 #[.string s] w fun e w' => e = .returned (.bool (decide ((linesT s).length ≤ 60))) ∧ Ext w w' := by
  have hll := linesT_length s
  have htl : ((linesT s).take 61).length = min 61 (linesT s).length := List.length_take ..
  obtain ⟨m, hm⟩ : ∃ m, ((linesT s).take 61).length = m := ⟨_, rfl⟩
  have hdd : decide ((m : Int) ≤ 60) = decide ((linesT s).length ≤ 60) := by
    by_cases h : (linesT s).length ≤ 60
    · rw [decide_eq_true h, decide_eq_true (by omega)]
    · rw [decide_eq_false h, decide_eq_false (by omega)]
  have hm2 : m ≤ 61 := by omega
  have HM := Lib.hid hm
  have HLL := Lib.hid hll
  clear hm htl hll
  go_enter Tryz.func211, Tryz.ntmps211
  go_wp2_with fail
  refine (lines_calls s w hsz).mono ?_
  rintro e w1 ⟨u, rfl, hsq, hx, hlt⟩
  go_wp2_with fail
  refine (take_calls u _ 61 (by omega) (by omega) _ _ w1 hsq (fun k hk => by omega)).mono ?_
  rintro e w2 ⟨v, rfl, hsq2, hx2⟩
  clear hsq
  go_wp2_with fail
  refine (foldCount_calls v _ _ _ w2 hsq2 (fun k hk => by have := hx2.size; rcases hk with hk | hk <;> omega) (by have := HM.out; omega)).mono ?_
  rintro e w3 ⟨rfl, hk3⟩
  clear hsq2
  rw [HM.out]
  go_wp2_with fail
  go_ret
  exact ⟨rfl, (hx.trans hx2).trans' hk3 fun k hk _ => Nat.ne_of_lt hk⟩

def binaryB (s : ByteArray) : Bool := decide (0 ≤ Lib.indexByte (bl s) 0)
theorem binary_calls (s : ByteArray) (w : World) : Calls Tryz.prog 210 #[.string s] w fun e w' => e = .returned (.bool (binaryB s)) ∧ w' = w := by
  go_enter Tryz.func210, Tryz.ntmps210
  go_wp2_with fail
  refine (Tryz.strings_IndexByte s 0 w).mono ?_
  rintro e w1 ⟨rfl, rfl⟩
  go_wp2_with fail
  go_ret
  exact ⟨rfl, rfl⟩

end Go.Proofs.YtgjbfkaepalkiaaGreatDoor

namespace Go.Proofs.YtgjbfkaepalkiaaGreatDoor
open Go.RowKit
set_option linter.unusedVariables false
set_option linter.unusedSimpArgs false
attribute [local go_sem] Oper.semAt_some

def fewB (s : ByteArray) : Bool := decide ((linesT s).length ≤ 60)
def oddT (s : ByteArray) : Bool := binaryB s || !fewB s

theorem plain1_calls (s : ByteArray) (w : World) (hsz : s.size ≤ 1000000) : Calls Tryz.prog 209 #[.string s] w fun e w' => e = .returned (.bool (oddT s)) ∧ Ext w w' := by
  have hF := few_calls s w hsz
  have hB := binary_calls s w
  rw [show decide ((linesT s).length ≤ 60) = fewB s from rfl] at hF
  unfold oddT
  generalize fewB s = q at hF ⊢
  generalize binaryB s = r at hB ⊢
  have HF := Lib.hid hF
  have HB := Lib.hid hB
  clear hF hB
  go_enter Tryz.func209, Tryz.ntmps209
  go_wp2_with fail
  refine HB.out.mono ?_
  rintro e w1 ⟨rfl, rfl⟩
  cases r with
  | true =>
    go_wp2_with fail
    go_ret
    exact ⟨rfl, Kp.refl _ _⟩
  | false =>
    go_wp2_with fail
    refine HF.out.mono ?_
    rintro e w1 ⟨rfl, hx⟩
    go_wp2_with fail
    go_ret
    exact ⟨by cases q <;> rfl, hx⟩

theorem indexOddT_calls (A : Option Addr) (c : Nat) (ys : List ByteArray) (S : Fp) (w : World) (hO : Opn ES S w A c ys) (hn : ys.length ≤ 1000000) (hp : ∀ y ∈ ys, y.size ≤ 1000000) :
    Calls Tryz.prog 228 #[.slice A ys.length c, .func (.func 209) #[] #[]] w fun e w' => (∃ r : Int, e = .returned (.int .i64 r) ∧ decide (r ≥ 0) = ys.any oddT) ∧ Ext w w' := by
  go_enter Tryz.func228, Tryz.ntmps228
  go_wp2_with fail
  go_loopw [8] (fun i wr => ∃ k : Nat, k ≤ ys.length ∧ i = .int .i64 k ∧ ((ys.take k).any oddT) = false ∧ Ext w wr) (fun i _ => ys.length - (intOf i).toNat)
  case atStart => exact ⟨0, Nat.zero_le _, rfl, by simp, Kp.refl _ _⟩
  case round =>
    obtain ⟨k, hk, rfl, hno, hx⟩ := hrel
    rename_i wr
    by_cases hlt : k < ys.length
    · have hd : decide ((k : Int) < (ys.length : Int)) = true := decide_eq_true (by omega)
      obtain ⟨b, off, rfl, _, hb, c0⟩ := (hO.rd.kp (hx.mono fun _ _ _ => trivial)).text hlt
      have hlt' : (k : Int) < (ys.length : Int) := by omega
      have h0 : (0 : Int) ≤ (k : Int) := by omega
      have hw : IntKind.i64.wrap ((k : Int) + 1) = (k : Int) + 1 := IntWalk.i64_in _ (by omega)
      have hsn : ((ys.take (k + 1)).any oddT) = oddT ys[k] := by rw [take_snoc ys hlt, List.any_append, hno]; simp only [List.any_cons, List.any_nil, Bool.or_false, Bool.false_or]
      have hcl := plain1_calls ys[k] wr (hp _ (List.getElem_mem hlt))
      cases ho : oddT ys[k] with
      | true =>
        rw [ho] at hsn hcl
        go_wp2_with (go_at_call 209; refine stop ?_)
        refine hcl.mono ?_
        rintro e w' ⟨rfl, hx'⟩
        clear hcl
        go_wp2_with fail
        go_ret
        refine ⟨⟨(k : Int), rfl, ?_⟩, hx.trans hx'⟩
        rw [decide_eq_true (by omega : (k : Int) ≥ 0)]
        have : ((ys.take (k + 1)).any oddT) = true → (ys.any oddT) = true := by
          intro h
          obtain ⟨y, hy, hy'⟩ := List.any_eq_true.1 h
          exact List.any_eq_true.2 ⟨y, List.mem_of_mem_take hy, hy'⟩
        exact (this hsn).symm
      | false =>
        rw [ho] at hsn hcl
        go_wp2_with (go_at_call 209; refine stop ?_)
        refine hcl.mono ?_
        rintro e w' ⟨rfl, hx'⟩
        clear hcl
        go_wp2_with fail
        go_roundw
        case rel => exact ⟨k + 1, by omega, by go_num, hsn, hx.trans hx'⟩
        case measure => simp [intOf]; omega
    · have hd : decide ((k : Int) < (ys.length : Int)) = false := decide_eq_false (by omega)
      have hkl : k = ys.length := by omega
      subst hkl
      rw [List.take_length] at hno
      go_wp2_with fail
      go_ret
      exact ⟨⟨-1, rfl, by rw [hno]; rfl⟩, hx⟩

theorem containsOddT_calls (A : Option Addr) (c : Nat) (ys : List ByteArray) (S : Fp) (w : World) (hO : Opn ES S w A c ys) (hn : ys.length ≤ 1000000) (hp : ∀ y ∈ ys, y.size ≤ 1000000) :
    Calls Tryz.prog 208 #[.slice A ys.length c, .func (.func 209) #[] #[]] w fun e w' => e = .returned (.bool (ys.any oddT)) ∧ Ext w w' := by
  go_enter Tryz.func208, Tryz.ntmps208
  have HI := indexOddT_calls A c ys S w hO hn hp
  clear hO hp
  go_wp2_with fail
  refine HI.mono ?_
  rintro e w' ⟨⟨r, rfl, hr⟩, hx⟩
  have hr' : decide ((0 : Int) ≤ r) = ys.any oddT := hr
  cases ha : (ys.any oddT) with
  | true =>
    rw [ha] at hr'
    go_wp2_with fail
    go_ret
    exact ⟨by rw [ha]; rfl, hx⟩
  | false =>
    rw [ha] at hr'
    go_wp2_with fail
    go_ret
    exact ⟨by rw [ha]; rfl, hx⟩

/-- text.plain. -/
theorem plain_calls (v : Value) (ys : List ByteArray) (S : Fp) (w : World) (hR : Rd ES S w v ys) (hn : ys.length ≤ 1000000) (hp : ∀ y ∈ ys, y.size ≤ 1000000) :
    Calls Tryz.prog 185 #[v] w fun e w' => e = .returned (.bool (!ys.any oddT)) ∧ Ext w w' := by
  obtain ⟨A, c, rfl, hO⟩ := hR.open_
  have HC := Lib.hid (containsOddT_calls A c ys S w hO hn hp)
  clear hO hp hR
  generalize ys.any oddT = q at HC ⊢
  go_enter Tryz.func185, Tryz.ntmps185
  go_wp2_with fail
  refine HC.out.mono ?_
  rintro e w1 ⟨rfl, hx⟩
  go_wp2_with fail
  go_ret
  exact ⟨by cases q <;> rfl, hx⟩

end Go.Proofs.YtgjbfkaepalkiaaGreatDoor
