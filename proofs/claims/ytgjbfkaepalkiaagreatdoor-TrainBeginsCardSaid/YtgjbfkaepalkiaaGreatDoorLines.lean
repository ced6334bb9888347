/-
  Sequences that write into blocks of their own (B) as they are gone through, and the law of a range over such one. Plain: a text's lines. strings.Lines, line.Lines.
-/
import Derived.Test.YtgjbfkaepalkiaaGreatDoorBase
import Derived.Test.YtgjbfkaepalkiaaGreatDoorSameX
import Derived.Lib.Bytealg
import Derived.Test.YtgjbfkaepalkiaaGreatDoorSeq
import Derived.Deep.RegionHeld3
import Derived.Deep.DrawnRows
namespace Go.Proofs.YtgjbfkaepalkiaaGreatDoor
open Go.RowKit
set_option linter.unusedVariables false
set_option linter.unusedSimpArgs false

/-- A sequence's value that may be gone through once: as SeqV, but that it writes into blocks B of its own. -/
structure SeqB {α : Type} (P : Program) (S B : Fp) (w : World) (s : Value) (encs : α → Array Value) (xs : List α) : Prop where
  isf : ∃ f a b, s = .func f a b
  sub : ∀ k, B k → S k
  tells : ∀ W, Kp S w W → ∀ (y : Value) (I Ix : List α → Fp → World → Prop) (D₀ : Fp), (∃ f a b, y = .func f a b) → Frames I → Frames Ix → I [] D₀ W → (∀ k, D₀ k → k < W.heap.size ∧ ¬ S k) →
    (∀ pre x D W1, I pre D W1 → (∀ k, D k → k < W1.heap.size) → (pre ++ [x]) <+: xs → Sub D₀ D W W1 → Kp (fun k => ¬ D₀ k ∧ ¬ B k) W W1 → CallV P y (encs x) W1 fun e W2 =>
      ∃ D', Sub D D' W1 W2 ∧ Kp (fun k => ¬ D k) W1 W2 ∧ (∀ k, D' k → k < W2.heap.size) ∧ ((e = .returned (.bool true) ∧ I (pre ++ [x]) D' W2) ∨ (e = .returned (.bool false) ∧ Ix (pre ++ [x]) D' W2))) →
    CallF P s #[y] W fun e W' => (∃ v, e = .returned v) ∧ ∃ D', Sub D₀ D' W W' ∧ Kp (fun k => ¬ D₀ k ∧ ¬ B k) W W' ∧ (∀ k, D' k → k < W'.heap.size) ∧ (I xs D' W' ∨ ∃ pre, pre <+: xs ∧ Ix pre D' W')

theorem SeqB.later {α : Type} {P : Program} {S B : Fp} {w w' : World} {s : Value} {encs : α → Array Value} {xs : List α} (h : SeqB P S B w s encs xs) (hk : Kp S w w') : SeqB P S B w' s encs xs :=
  ⟨h.isf, h.sub, fun W hW => h.tells W (hk.trans hW)⟩
theorem SeqB.wide {α : Type} {P : Program} {S T B : Fp} {w : World} {s : Value} {encs : α → Array Value} {xs : List α} (h : SeqB P S B w s encs xs) (hs : ∀ k, S k → T k) : SeqB P T B w s encs xs :=
  ⟨h.isf, fun k hk => hs k (h.sub k hk), fun W hW y I Ix D₀ hyf hI hIx h0 hD hr => h.tells W (hW.mono fun k _ hk => hs k hk) y I Ix D₀ hyf hI hIx h0 (fun k hk => ⟨(hD k hk).1, fun hS => (hD k hk).2 (hs k hS)⟩) hr⟩

section
variable {α : Type} {P : Program} {g : Operand} {ps : Array Tmp} {assign body : Code} {Q : Exit → Act → World → Prop} {a : Act} {w : World} {n : Nat} {fv : Value}

/-- What a round owes (RoundOk), under such a sequence. -/
def RoundOkB (P : Program) (g0 : World) (B : Fp) (tmps : Array Value) (ps : Array Tmp) (assign body : Code) (encs : α → Array Value) (xs : List α) (I : List α → Fp → World → Prop) (Ix : Code → List α → Fp → World → Prop) (D₀ : Fp) : Prop :=
  ∀ (l : Nat) pre x D W, I pre D W → (∀ k, D k → k < W.heap.size) → (pre ++ [x]) <+: xs → Sub D₀ D g0 W → Kp (fun k => ¬ D₀ k ∧ ¬ B k) g0 W → g0.heap.size ≤ l → l < W.heap.size → ¬ D l →
    ∀ K : Act → World → Prop, (∀ a₁ W₁, Ext W W₁ → (∀ W₂, Kp (fun k => k ≠ l) W₁ W₂ → W₁.heap.size = W₂.heap.size → (∃ r', W₂.heap[l]? = some (.loop r')) →
        body.wpIn (Fence.wide.inRound l) 0 P (rpost I Ix (pre ++ [x]) (fun k => D k ∨ (W.heap.size ≤ k ∧ k < W₁.heap.size)) W₂) a₁ W₂) → K a₁ W₁) →
      assign.wpIn (Fence.wide.inRound l) 0 P (Exit.then K (fun _ _ _ => False)) { tmps := (ps.zip (encs x)).foldl (fun t (p, v) => t.setIfInBounds p v) tmps, defers := [] } W

theorem range_wpB (hg : a.eval g = fv) {S B : Fp} {encs : α → Array Value} {xs : List α} (hseq : SeqB P S B w fv encs xs) (hS : ∀ k, S k → k < w.heap.size) (hps : ∀ x, (encs x).size = ps.size)
    (I : List α → Fp → World → Prop) (Ix : Code → List α → Fp → World → Prop) (hI : Frames I) (hIx : ∀ c, Frames (Ix c)) (D₀ : Fp) (h0 : I [] D₀ w) (hD : ∀ k, D₀ k → k < w.heap.size ∧ ¬ S k)
    (hround : RoundOkB P w B a.tmps ps assign body encs xs I Ix D₀)
    (hdone : ∀ (q : Nat) (D' : Fp) (W' : World), I xs D' W' → Sub D₀ D' w W' → Kp (fun k => ¬ D₀ k ∧ ¬ B k) w W' → (∀ k, D' k → k < W'.heap.size) → w.heap.size ≤ q → ¬ D' q → W'.heap[q]? = some (.deferred (some [])) →
      Q .normal { a with defers := { target := .collected q, args := #[] } :: a.defers } W')
    (hstop : ∀ (q : Nat) (c : Code) (pre : List α) (D' : Fp) (W' : World), pre <+: xs → Ix c pre D' W' → Sub D₀ D' w W' → Kp (fun k => ¬ D₀ k ∧ ¬ B k) w W' → (∀ k, D' k → k < W'.heap.size) → w.heap.size ≤ q → ¬ D' q → W'.heap[q]? = some (.deferred (some [])) →
      c.wpIn Fence.wide 0 P Q { a with defers := { target := .collected q, args := #[] } :: a.defers } W') :
    (Code.rangeFunc g ps assign body).wpIn Fence.wide 0 P Q a w := by
  refine wpIn_rangeFunc ?_
  intro fn hfn
  rw [show Fence.wide.round = none from rfl]
  obtain ⟨rec, hrec⟩ : ∃ rec : LoopState → Option Code → Loop, rec = fun st pe => { state := st, pending := pe, fn, tmps := a.tmps, params := ps, assign, body, defers := w.heap.size } := ⟨_, rfl⟩
  obtain ⟨W1, hW1⟩ : ∃ W1, (w.alloc (.deferred (some []))).alloc (.loop (rec .ready none)) = W1 := ⟨_, rfl⟩
  have hL1 : W1.heap[w.heap.size + 1]? = some (.loop (rec .ready none)) := by
    rw [← hW1]; have := World.alloc_heap_new (w.alloc (.deferred (some []))) (.loop (rec .ready none)); rwa [World.size_alloc] at this
  have hK1 : W1.heap[w.heap.size]? = some (.deferred (some [])) := by
    rw [← hW1]; exact (Below.heap_alloc _ _ _ (by simp)).trans (World.alloc_heap_new w _)
  have he1 : Ext w W1 := by rw [← hW1]; exact ((Kp.refl _ w).alloc _).alloc _
  have hs1 : W1.heap.size = w.heap.size + 2 := by rw [← hW1]; simp
  have hcall := hseq.tells W1 (Kp.of_ext he1) (.func (.yield (w.heap.size + 1)) #[] #[]) (withRec (w.heap.size + 1) w.heap.size rec w D₀ I none) (fun pre E W => ∃ c, withRec (w.heap.size + 1) w.heap.size rec w D₀ (Ix c) (some c) pre E W)
    (fun k => D₀ k ∨ k = w.heap.size + 1 ∨ k = w.heap.size) ⟨_, _, _, rfl⟩ (withRec_frames hI none) (frames_ex fun c => withRec_frames (hIx c) (some c))
    ⟨D₀, hI _ _ _ _ h0 (fun k hk => (hD k hk).1) (Kp.of_ext he1), fun k hk => he1.lt (hD k hk).1, fun k => Iff.rfl, fun h => by have := (hD _ h).1; omega, fun h => by have := (hD _ h).1; omega, fun k hk => .inl hk, by omega, by omega, hL1, hK1⟩
    (by
      rintro k (h | h | h)
      · exact ⟨he1.lt (hD k h).1, (hD k h).2⟩
      · exact ⟨by omega, fun hs => by have := hS k hs; omega⟩
      · exact ⟨by omega, fun hs => by have := hS k hs; omega⟩) ?_
  · obtain ⟨f, ags, hrun, hc⟩ := hcall
    obtain ⟨d, hd1, hd2⟩ := ofValue_run hrun
    refine ⟨w.heap.size + 1, [{ target := .collected w.heap.size, args := #[] }], W1, d, W1, f, ags, W1, ?_, ?_, fun _ _ => trivial, hd2, (fun h => by cases h), callsIn_wide.2 (hc.mono ?_)⟩
    · rw [← hW1, hrec]; exact run_enterLoop_outer _ _ _ _ _
    · simp only [resolve, rangeCall, hg, List.map_toArray, List.map_cons, List.map_nil]; exact hd1
    · rintro e W2 ⟨⟨v, rfl⟩, E, hsub, hkp, hlt, (⟨D, h1, h2, h3, h4, h5, h6, h7, h8, h9, h10⟩ | ⟨pre, hpre, c, D, h1, h2, h3, h4, h5, h6, h7, h8, h9, h10⟩)⟩
      all_goals
        have hkp2 : ∀ o, Kp (fun k => k ≠ w.heap.size + 1) W2 (W2.putObj (w.heap.size + 1) o) := fun o => (Kp.refl _ _).putObj (.inr (by simp)) _
        have hend0 := run_endLoop (P := P) h9 (by rw [hrec]; simp)
        rw [show ∀ st pe, (rec st pe).pending = pe from fun st pe => by rw [hrec]] at hend0
        obtain ⟨W4, hend, hk2⟩ : ∃ W4, _ = Result.ok _ W4 ∧ Kp (fun k => k ≠ w.heap.size + 1) W2 W4 := ⟨_, hend0, hkp2 _⟩
      · refine ⟨none, _, hend, ?_⟩
        refine hdone w.heap.size D _ (hI _ _ _ _ h1 h2 (hk2.mono fun k _ hk => by rintro rfl; exact h4 hk)) (fun k hk => ?_) ?_ (fun k hk => hk2.lt (h2 k hk)) (Nat.le_refl _) h5 (hk2.heap (by simp) h10)
        · rcases h6 k hk with h | h
          · exact .inl h
          · exact .inr ⟨h.1, hk2.lt h.2⟩
        · refine (he1.mono fun k _ _ => trivial).trans' (hkp.trans' hk2 ?_) ?_
          · rintro k hk hn rfl; exact hn.1 (.inr (.inl rfl))
          · intro k hk hn
            refine ⟨?_, hn.2⟩
            rintro (h | h | h)
            · exact hn.1 h
            · omega
            · omega
      · refine ⟨some c, _, hend, ?_⟩
        refine hstop w.heap.size c pre D _ hpre ((hIx c) _ _ _ _ h1 h2 (hk2.mono fun k _ hk => by rintro rfl; exact h4 hk)) (fun k hk => ?_) ?_ (fun k hk => hk2.lt (h2 k hk)) (Nat.le_refl _) h5 (hk2.heap (by simp) h10)
        · rcases h6 k hk with h | h
          · exact .inl h
          · exact .inr ⟨h.1, hk2.lt h.2⟩
        · refine (he1.mono fun k _ _ => trivial).trans' (hkp.trans' hk2 ?_) ?_
          · rintro k hk hn rfl; exact hn.1 (.inr (.inl rfl))
          · intro k hk hn
            refine ⟨?_, hn.2⟩
            rintro (h | h | h)
            · exact hn.1 h
            · omega
            · omega
  · rintro pre x E W ⟨D, h1, h2, h3, h4, h5, h6, h7, h8, h9, h10⟩ hE hpre hsubE hkpE
    have hkD : Kp (fun k => ¬ D₀ k ∧ ¬ B k) w W := (he1.mono fun k _ _ => trivial).trans' hkpE (by
      intro k hk hn
      refine ⟨?_, hn.2⟩
      rintro (h | h | h)
      · exact hn.1 h
      · omega
      · omega)
    refine (round_call (r := rec .ready none) (I := I) (Ix := Ix) (D := D) (by rw [hrec]; exact hps) (x := x) h9 (by rw [hrec]) h2 h4 (xs := pre ++ [x]) ?_).mono ?_
    · intro K hK
      rw [hrec] at hK ⊢
      refine hround (w.heap.size + 1) pre x D W h1 h2 hpre h6 hkD (by omega) h7 h4 K fun a₁ W₁ hW1 hb => hK a₁ W₁ hW1 fun W₂ hk2 hs2 ⟨r', hr', _⟩ => hb W₂ hk2 hs2 ⟨r', hr'⟩
    · rintro e W' ⟨W3, D', hsz, hk3, hs3, hkW, hlt3, hl3, hres⟩
      have hq3 : W3.heap[w.heap.size]? = some (.deferred (some [])) := hkW.heap ⟨h5, by omega⟩ h10
      have hq' : W'.heap[w.heap.size]? = some (.deferred (some [])) := hk3.heap (by simp) hq3
      have hDq : ¬ D' w.heap.size := by
        intro h
        rcases hs3 _ h with h | h
        · exact h5 h
        · omega
      have hkDD : Kp (fun k => k ≠ w.heap.size + 1) W3 W' := hk3
      have hlt' : w.heap.size + 1 < W'.heap.size := Nat.lt_of_lt_of_le (hkW.lt h7) hk3.size
      have hsub' : Sub D₀ D' w W' := by
        have hz := he1.size
        have hz1 := hkW.size
        intro k hk
        rcases hs3 k hk with h | h
        · rcases h6 k h with h' | h'
          · exact .inl h'
          · exact .inr ⟨h'.1, by omega⟩
        · exact .inr ⟨by omega, by omega⟩
      refine ⟨fun k => D' k ∨ k = w.heap.size + 1 ∨ k = w.heap.size, ?_, ?_, ?_, ?_⟩
      · rintro k (h | h | h)
        · rcases hs3 k h with h | h
          · exact .inl ((h3 k).2 (.inl h))
          · exact .inr ⟨h.1, by omega⟩
        · exact .inl ((h3 k).2 (.inr (.inl h)))
        · exact .inl ((h3 k).2 (.inr (.inr h)))
      · refine (hkW.mono ?_).trans' hkDD ?_
        · intro k _ hk
          exact ⟨fun h => hk ((h3 k).2 (.inl h)), fun h => hk ((h3 k).2 (.inr (.inl h)))⟩
        · rintro k _ hk rfl
          exact hk ((h3 _).2 (.inr (.inl rfl)))
      · rintro k (h | h | h)
        · have := hlt3 k h; omega
        · omega
        · omega
      · rcases hres with ⟨rfl, hi, hl'⟩ | ⟨c, rfl, hi, hl'⟩
        · refine .inl ⟨rfl, D', hI _ _ _ _ hi hlt3 (hkDD.mono fun k _ hk => by rintro rfl; exact hl3 hk), fun k hk => by have := hlt3 k hk; omega, fun k => Iff.rfl, hl3, hDq, hsub', hlt', by omega, ?_, hq'⟩
          rw [hl', hrec]; rfl
        · refine .inr ⟨rfl, c, D', (hIx c) _ _ _ _ hi hlt3 (hkDD.mono fun k _ hk => by rintro rfl; exact hl3 hk), fun k hk => by have := hlt3 k hk; omega, fun k => Iff.rfl, hl3, hDq, hsub', hlt', by omega, ?_, hq'⟩
          rw [hl', hrec]; rfl
end

end Go.Proofs.YtgjbfkaepalkiaaGreatDoor

namespace Go.Proofs.YtgjbfkaepalkiaaGreatDoor
set_option linter.unusedVariables false
set_option linter.unusedSimpArgs false

def linesL : List UInt8 → List (List UInt8)
  | [] => []
  | x :: xs => if x = 10 then [10] :: linesL xs else match linesL xs with
    | [] => [[x]]
    | l :: ls => (x :: l) :: ls
def linesT (s : ByteArray) : List ByteArray := (linesL (bl s)).map lb

theorem lines_none {l : List UInt8} (hne : l ≠ []) (h : Lib.indexByte l 10 = -1) : linesL l = [l] := by
  induction l with
  | nil => exact absurd rfl hne
  | cons x xs ih =>
    unfold Lib.indexByte at h
    by_cases hx : x = 10
    · rw [if_pos (by rw [hx]; rfl)] at h; omega
    · rw [if_neg (by simpa using hx)] at h
      have h' : Lib.indexByte xs 10 = -1 := by
        have := Lib.indexByte_ge xs 10
        by_cases hq : Lib.indexByte xs 10 = -1
        · exact hq
        · rw [if_neg (by simpa using hq)] at h; omega
      unfold linesL
      rw [if_neg hx]
      cases xs with
      | nil => rfl
      | cons y ys => rw [ih (by simp) h']
theorem lines_some {l : List UInt8} {i : Nat} (h : Lib.indexByte l 10 = i) : i < l.length ∧ linesL l = l.take (i + 1) :: linesL (l.drop (i + 1)) := by
  induction l generalizing i with
  | nil => unfold Lib.indexByte at h; omega
  | cons x xs ih =>
    unfold Lib.indexByte at h
    by_cases hx : x = 10
    · rw [if_pos (by rw [hx]; rfl)] at h
      have hi : i = 0 := by omega
      subst hi
      refine ⟨by simp, ?_⟩
      subst hx
      simp [linesL]
    · rw [if_neg (by simpa using hx)] at h
      have h0 := Lib.indexByte_ge xs 10
      by_cases hq : Lib.indexByte xs 10 = -1
      · rw [if_pos (by simpa using hq)] at h; omega
      · rw [if_neg (by simpa using hq)] at h
        obtain ⟨j, hj⟩ : ∃ j : Nat, Lib.indexByte xs 10 = j := ⟨(Lib.indexByte xs 10).toNat, by omega⟩
        obtain ⟨h1, h2⟩ := ih hj
        have hi : i = j + 1 := by omega
        subst hi
        refine ⟨by simp; omega, ?_⟩
        rw [show linesL (x :: xs) = (if x = 10 then [10] :: linesL xs else match linesL xs with | [] => [[x]] | l :: ls => (x :: l) :: ls) from rfl, if_neg hx, h2]
        simp
theorem lines_length (l : List UInt8) : (linesL l).length ≤ l.length := by
  induction l with
  | nil => exact Nat.le_refl _
  | cons x xs ih =>
    unfold linesL
    split
    · simp only [List.length_cons]; omega
    · split
      · simp
      · rename_i h; rw [h] at ih; simp only [List.length_cons] at ih ⊢; omega
theorem linesT_length (s : ByteArray) : (linesT s).length ≤ s.size := by
  unfold linesT
  rw [List.length_map]
  exact lines_length _
theorem linesT_nil {s : ByteArray} (h : bl s = []) : linesT s = [] := by unfold linesT; rw [h]; rfl
theorem linesT_none {s : ByteArray} (hne : bl s ≠ []) (h : Lib.indexByte (bl s) 10 = -1) : linesT s = [s] := by
  unfold linesT
  rw [lines_none hne h]
  simp [lb_bl]
theorem linesT_some {s : ByteArray} {i : Nat} (h : Lib.indexByte (bl s) 10 = i) : i < s.size ∧ linesT s = lb ((bl s).take (i + 1)) :: linesT (lb ((bl s).drop (i + 1))) := by
  obtain ⟨h1, h2⟩ := lines_some h
  refine ⟨h1, ?_⟩
  unfold linesT
  rw [h2, bl_lb]; rfl
theorem bl_nil_iff (s : ByteArray) : bl s = [] ↔ s.size = 0 := by
  have : s.size = (bl s).length := rfl
  rw [this]
  exact ⟨fun h => by rw [h]; rfl, fun h => List.eq_nil_of_length_eq_zero h⟩

end Go.Proofs.YtgjbfkaepalkiaaGreatDoor

namespace Go.Proofs.YtgjbfkaepalkiaaGreatDoor
open Go.RowKit
set_option linter.unusedVariables false
set_option linter.unusedSimpArgs false

abbrev encS (x : ByteArray) : Array Value := #[.string x]
theorem suffix_snoc {α : Type} {xs pre : List α} {x : α} {rest : List α} (h : xs = pre ++ x :: rest) : xs = (pre ++ [x]) ++ rest ∧ (pre ++ [x]) <+: xs := ⟨by rw [h]; simp, ⟨rest, by rw [h]; simp⟩⟩

theorem Blk.drew_ {w : World} {b : Nat} {t : TypeId} {cs : Array Value} (h : Blk w b t cs) : Blk w.drew b t cs := h
def boxLen (w : World) (b : Nat) : Nat := match w.cell? ⟨b, 0, none⟩ with
  | some (.string r) => r.size
  | _ => 0
theorem boxLen_of {w : World} {b : Nat} {t : TypeId} {r : ByteArray} (h : Blk w b t #[.string r]) : boxLen w b = r.size := by unfold boxLen; rw [h.cell0]

theorem ext_take (r : ByteArray) (n : Nat) : r.extract 0 n = lb ((bl r).take n) := by
  apply ByteArray.ext
  apply Array.ext'
  simp only [bl, lb, ByteArray.data_extract, Array.toList_extract, List.extract_eq_take_drop, Nat.sub_zero, List.drop_zero]
theorem ext_drop (r : ByteArray) (n : Nat) : r.extract n r.size = lb ((bl r).drop n) := by
  apply ByteArray.ext
  apply Array.ext'
  have : r.size = r.data.toList.length := rfl
  simp only [bl, lb, ByteArray.data_extract, Array.toList_extract, List.extract_eq_take_drop, this]
  rw [List.take_of_length_le (by simp)]

set_option maxHeartbeats 1000000 in
set_option maxRecDepth 100000 in
theorem lines1_calls (b : Nat) (s : ByteArray) (S : Fp) (W : World) (y : Value) (hyf : ∃ f a b, y = .func f a b) (hb : Blk W b 9 #[.string s]) (hSb : S b) (hsz : s.size ≤ 1000000)
    (I Ix : List ByteArray → Fp → World → Prop) (D₀ : Fp) (hI : Frames I) (hIx : Frames Ix) (h0 : I [] D₀ W) (hD : ∀ k, D₀ k → k < W.heap.size ∧ ¬ S k)
    (hy : ∀ pre x D W1, I pre D W1 → (∀ k, D k → k < W1.heap.size) → (pre ++ [x]) <+: linesT s → Sub D₀ D W W1 → Kp (fun k => ¬ D₀ k ∧ ¬ k = b) W W1 → CallV Tryz.prog y (encS x) W1 fun e W2 =>
      ∃ D', Sub D D' W1 W2 ∧ Kp (fun k => ¬ D k) W1 W2 ∧ (∀ k, D' k → k < W2.heap.size) ∧ ((e = .returned (.bool true) ∧ I (pre ++ [x]) D' W2) ∨ (e = .returned (.bool false) ∧ Ix (pre ++ [x]) D' W2))) :
    Calls Tryz.prog 250 #[y, .pointer (some ⟨b, 0, none⟩)] W fun e W' => (∃ v, e = .returned v) ∧ ∃ D', Sub D₀ D' W W' ∧ Kp (fun k => ¬ D₀ k ∧ ¬ k = b) W W' ∧ (∀ k, D' k → k < W'.heap.size) ∧ (I (linesT s) D' W' ∨ ∃ pre, pre <+: linesT s ∧ Ix pre D' W') := by
  obtain ⟨yf, ya, yb, rfl⟩ := hyf
  have HY := Lib.hid hy
  clear hy
  have hb0 := hb.lt
  refine calls_of_body Tryz.func250 rfl ?_
  simp only [Tryz.ntmps250, List.size_toArray, List.length_cons, List.length_nil, Nat.reduceAdd, Nat.reduceSub, Array.replicate_succ, Array.replicate_zero, List.push_toArray, List.append_toArray, List.nil_append, List.cons_append]
  gi_wp2_with fail
  gi_loopw [3, 4] (fun ln i wr => ∃ (pre : List ByteArray) (r : ByteArray) (D : Fp), linesT s = pre ++ linesT r ∧ Blk wr b 9 #[.string r] ∧ r.size ≤ s.size ∧ I pre D wr ∧ (∀ j, D j → j < wr.heap.size) ∧ Sub D₀ D W wr ∧ Kp (fun j => ¬ D₀ j ∧ ¬ j = b) W wr) (fun ln i wx => boxLen wx b)
  case atStart => exact ⟨[], s, D₀, rfl, hb, Nat.le_refl _, h0, fun j hj => (hD j hj).1, Sub.refl _ _, Kp.refl _ _⟩
  case round =>
    obtain ⟨pre, r, D, hs, hB, hrs, hIp, hDk, hSub, hKp⟩ := hrel
    have hbl := boxLen_of hB
    have hDb : ¬ D b := fun h => by
      rcases hSub b h with h | h
      · exact (hD b h).2 hSb
      · have := hb0; omega
    have c0 := hB.cell0
    have f0 := hB.frozen 0
    have HS := Lib.hid hs
    have HBL := Lib.hid hbl
    clear hbl
    have hN : ∀ (x rest : ByteArray), linesT r = x :: linesT rest → ∀ W2, Kp (fun k => k ≠ b) wr W2 → CallV Tryz.prog (.func yf ya yb) (encS x) W2 fun e W3 => ∃ D', Sub D₀ D' W W3 ∧ Kp (fun j => ¬ D₀ j ∧ ¬ j = b) W W3 ∧ (∀ j, D' j → j < W3.heap.size) ∧ Kp (fun k => k = b) W2 W3 ∧ linesT s = (pre ++ [x]) ++ linesT rest ∧ ((e = .returned (.bool true) ∧ I (pre ++ [x]) D' W3) ∨ (e = .returned (.bool false) ∧ (pre ++ [x]) <+: linesT s ∧ Ix (pre ++ [x]) D' W3)) := by
      intro x rest hx W2 hk
      obtain ⟨hs1, hs2⟩ := suffix_snoc (hs.trans (by rw [hx]))
      have hz := hk.size
      have hKp2 : Kp (fun j => ¬ D₀ j ∧ ¬ j = b) W W2 := hKp.trans' hk fun j _ hn => hn.2
      have hSub2 : Sub D₀ D W W2 := fun j hj => (hSub j hj).imp id fun h => ⟨h.1, by omega⟩
      refine (HY.out pre x D W2 (hI _ _ _ _ hIp hDk (hk.mono fun j _ hd e => hDb (e ▸ hd))) (fun j hj => hk.lt (hDk j hj)) hs2 hSub2 hKp2).mono ?_
      rintro e W3 ⟨D', h1, h2, h3, h4⟩
      refine ⟨D', hSub2.trans h1 hKp2.size h2.size, hKp2.trans' h2 fun j hj hn hd => ?_, h3, h2.mono fun j _ e hd => hDb (e ▸ hd), hs1, h4.imp id fun h => ⟨h.1, hs2, h.2⟩⟩
      rcases hSub j hd with h | h
      · exact hn.1 h
      · omega
    have HN := Lib.hid hN
    clear hN hs
    by_cases hr : r.size = 0
    · have hd : decide ((0 : Int) < (r.size : Int)) = false := decide_eq_false (by omega)
      have hfin : I (linesT s) D wr := by
        have h1 := HS.out
        rw [linesT_nil ((bl_nil_iff r).2 hr), List.append_nil] at h1
        rw [h1]; exact hIp
      clear hIp
      gi_wp2_with fail
      exact leaves0 (results_none rfl _ _ _) ⟨⟨_, rfl⟩, D, hSub, hKp, hDk, .inl hfin⟩
    · have hd : decide ((0 : Int) < (r.size : Int)) = true := decide_eq_true (by omega)
      gi_wp2_with fail
      refine wide_call ((Tryz.strings_IndexByte r 10 _).mono ?_)
      rintro e w1 ⟨rfl, rfl⟩
      rw [show Lib.indexByte r.data.toList (Int.toNat 10).toUInt8 = Lib.indexByte (bl r) 10 from rfl]
      by_cases hi : Lib.indexByte (bl r) 10 = -1
      · rw [hi]
        have HSM := Lib.hid (show linesT r = r :: linesT ⟨#[]⟩ by rw [linesT_none (fun h => hr ((bl_nil_iff r).1 h)) hi]; rfl)
        clear hi
        gi_wp2_with (refine listIn_callV rfl rfl (.func yf ya yb) rfl _ rfl ?_)
        refine (HN.out _ _ HSM.out _ (by first | exact ((Kp.refl _ _).setCell (.inr (by simp)) _).drew | exact (Kp.refl _ _).setCell (.inr (by simp)) _)).mono ?_
        rintro e W3 ⟨D', hs3, hk3, hd3, hb3, hl3, h3⟩
        have hB3 : Blk W3 b 9 #[.string (⟨#[]⟩)] := (by first | exact (hB.set_ 0 _).kp hb3 rfl | exact (hB.set_ 0 _).drew_.kp hb3 rfl)
        clear c0 f0
        rcases h3 with ⟨rfl, hI3⟩ | ⟨rfl, hp3, hIx3⟩
        · refine ⟨_, rfl, ?_⟩
          gi_wp2_with fail
          go_roundw
          case rel => exact ⟨_, _, D', hl3, hB3, Nat.zero_le _, hI3, hd3, hs3, hk3⟩
          case measure => rw [boxLen_of hB3, HBL.out]; show 0 < r.size; omega
        · refine ⟨_, rfl, ?_⟩
          gi_wp2_with fail
          exact leaves0 (results_none rfl _ _ _) ⟨⟨_, rfl⟩, D', hs3, hk3, hd3, .inr ⟨_, hp3, hIx3⟩⟩
      · obtain ⟨i, hi'⟩ : ∃ i : Nat, Lib.indexByte (bl r) 10 = i := ⟨(Lib.indexByte (bl r) 10).toNat, by have := Lib.indexByte_ge (bl r) 10; omega⟩
        obtain ⟨hil, hsm⟩ := linesT_some hi'
        rw [hi']
        have hd2 : decide ((0 : Int) ≤ (i : Int)) = true := decide_eq_true (by omega)
        have hw : IntKind.i64.wrap ((i : Int) + 1) = (i : Int) + 1 := IntWalk.i64_in _ (by omega)
        have HSM := Lib.hid (show linesT r = r.extract 0 (i + 1) :: linesT (r.extract (i + 1) r.size) by rw [hsm, ext_drop, ext_take])
        have hez : (r.extract (i + 1) r.size).size = r.size - (i + 1) := by rw [ByteArray.size_extract]; omega
        have HEZ := Lib.hid hez
        clear hi hi' hsm hez
        gi_wp2_with fail
        have h0 : (0 : Int) ≤ (i : Int) := by omega
        have h1 : (0 : Int) ≤ (i : Int) + 1 := by omega
        have h2 : (i : Int) + 1 ≤ (r.size : Int) := by omega
        refine wpIn_wide.2 ?_
        go_region
        all_goals gi_wp2_with (refine listIn_callV rfl rfl (.func yf ya yb) rfl _ rfl ?_)
        all_goals
          refine (HN.out _ _ HSM.out _ (by first | exact ((Kp.refl _ _).setCell (.inr (by simp)) _).drew | exact (Kp.refl _ _).setCell (.inr (by simp)) _)).mono ?_
          rintro e W3 ⟨D', hs3, hk3, hd3, hb3, hl3, h3⟩
          have hB3 : Blk W3 b 9 #[.string (r.extract (i + 1) r.size)] := (by first | exact (hB.set_ 0 _).kp hb3 rfl | exact (hB.set_ 0 _).drew_.kp hb3 rfl)
          clear c0 f0
          rcases h3 with ⟨rfl, hI3⟩ | ⟨rfl, hp3, hIx3⟩
          · refine ⟨_, rfl, ?_⟩
            gi_wp2_with fail
            go_roundw
            case rel => exact ⟨_, _, D', hl3, hB3, by rw [HEZ.out]; omega, hI3, hd3, hs3, hk3⟩
            case measure => rw [boxLen_of hB3, HBL.out]; rw [HEZ.out]; omega
          · refine ⟨_, rfl, ?_⟩
            gi_wp2_with fail
            exact leaves0 (results_none rfl _ _ _) ⟨⟨_, rfl⟩, D', hs3, hk3, hd3, .inr ⟨_, hp3, hIx3⟩⟩

/-- line.Lines. -/
theorem lines_calls (s : ByteArray) (w : World) (hsz : s.size ≤ 1000000) :
    Calls Tryz.prog 215 #[.string s] w fun e w' => ∃ u, e = .returned u ∧ SeqB Tryz.prog (fun k => k = w.heap.size) (fun k => k = w.heap.size) w' u encS (linesT s) ∧ Ext w w' ∧ w.heap.size < w'.heap.size := by
  go_enter Tryz.func215, Tryz.ntmps215
  go_wp2_with go_in
  go_ret
  have hx : Ext w (w.alloc (.cells #[.string s] 9)) := (Kp.refl _ w).alloc _
  refine ⟨_, rfl, ⟨⟨_, _, _, rfl⟩, fun k hk => hk, ?_⟩, hx, by simp⟩
  intro W hW y I Ix D₀ hyf hI hIx h0 hD hy
  have hb := (Blk.new w 9 #[.string s]).kp hW rfl
  exact callF_fn (enters_of Tryz.func250 (by kernel_rfl) rfl) (lines1_calls w.heap.size s (fun k => k = w.heap.size) W y hyf hb rfl hsz I Ix D₀ hI hIx h0 hD hy)

end Go.Proofs.YtgjbfkaepalkiaaGreatDoor
