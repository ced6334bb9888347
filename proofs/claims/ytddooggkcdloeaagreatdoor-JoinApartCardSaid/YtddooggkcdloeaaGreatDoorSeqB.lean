/-
  Sequences that write into blocks of their own (B) as they are gone through, and the law of a range over such one.
-/
import Derived.Test.YtddooggkcdloeaaGreatDoorBase
namespace Go.Proofs.YtddooggkcdloeaaGreatDoor
open Go.RowKit
set_option linter.unusedVariables false
set_option linter.unusedSimpArgs false

/-- A sequence's value that may be gone through once: as SeqV, but that it writes into blocks B of its own. -/
structure SeqB {α : Type} (P : Program) (S B : Fp) (w : World) (s : Value) (encs : α → Array Value) (xs : List α) : Prop where
  isf : ∃ f a b, s = .func f a b
  sub : ∀ k, B k → S k
  tells : ∀ W, Kp S w W → ∀ (y : Value) (I Ix : List α → Fp → World → Prop) (D₀ : Fp), (∃ f a b, y = .func f a b) → Frames I → Frames Ix → I [] D₀ W → (∀ k, D₀ k → k < W.heap.size ∧ ¬ S k) →
    (∀ pre x D W1, I pre D W1 → (∀ k, D k → k < W1.heap.size) → (pre ++ [x]) <+: xs → Sub D₀ D W W1 → Kp (fun k => ¬ D₀ k ∧ ¬ B k) W W1 → CallV P y (encs x) W1 fun e W2 =>
      ∃ D', Sub D D' W1 W2 ∧ Kp (fun k => ¬ D k) W1 W2 ∧ (∀ k, D' k → k < W2.heap.size) ∧ ((e = .returned (.bool true) ∧ I (pre ++ [x]) D' W2) ∨ (e = .returned (.bool false) ∧ Ix (pre ++ [x]) D' W2))) →
    CallF P s #[y] W fun e W' => (∃ v, e = .returned v) ∧ ∃ D', Sub D₀ D' W W' ∧ Kp (fun k => ¬ D₀ k ∧ ¬ B k) W W' ∧ (∀ k, D' k → k < W'.heap.size) ∧ (I xs D' W' ∨ ∃ pre, pre <+: xs ∧ Ix pre D' W')

theorem SeqB.later {α : Type} {P : Program} {S B : Fp} {w w' : World} {s : Value} {encs : α → Array Value} {xs : List α} (h : SeqB P S B w s encs xs) (hk : Kp S w w') : SeqB P S B w' s encs xs :=
  ⟨h.isf, h.sub, fun W hW => h.tells W (hk.trans hW)⟩
theorem SeqB.wide {α : Type} {P : Program} {S T B : Fp} {w : World} {s : Value} {encs : α → Array Value} {xs : List α} (h : SeqB P S B w s encs xs) (hs : ∀ k, S k → T k) : SeqB P T B w s encs xs :=
  ⟨h.isf, fun k hk => hs k (h.sub k hk), fun W hW y I Ix D₀ hyf hI hIx h0 hD hr => h.tells W (hW.mono fun k _ hk => hs k hk) y I Ix D₀ hyf hI hIx h0 (fun k hk => ⟨(hD k hk).1, fun hS => (hD k hk).2 (hs k hS)⟩) hr⟩

section
variable {α : Type} {P : Program} {g : Operand} {ps : Array Tmp} {assign body : Code} {Q : Exit → Act → World → Prop} {a : Act} {w : World} {n : Nat} {fv : Value}

/-- What a round owes (RoundOk), under such a sequence. -/
def RoundOkB (P : Program) (g0 : World) (B : Fp) (tmps : Array Value) (ps : Array Tmp) (assign body : Code) (encs : α → Array Value) (xs : List α) (I : List α → Fp → World → Prop) (Ix : Code → List α → Fp → World → Prop) (D₀ : Fp) : Prop :=
  ∀ (l : Nat) pre x D W, I pre D W → (∀ k, D k → k < W.heap.size) → (pre ++ [x]) <+: xs → Sub D₀ D g0 W → Kp (fun k => ¬ D₀ k ∧ ¬ B k) g0 W → g0.heap.size ≤ l → l < W.heap.size → ¬ D l →
    ∀ K : Act → World → Prop, (∀ a₁ W₁, Ext W W₁ → (∀ W₂, Kp (fun k => k ≠ l) W₁ W₂ → W₁.heap.size = W₂.heap.size → (∃ r', W₂.heap[l]? = some (.loop r')) →
        body.wpIn (Fence.wide.inRound l) 0 P (rpost I Ix (pre ++ [x]) (fun k => D k ∨ (W.heap.size ≤ k ∧ k < W₁.heap.size)) W₂) a₁ W₂) → K a₁ W₁) →
      assign.wpIn (Fence.wide.inRound l) 0 P (Exit.then K (fun _ _ _ => False)) { tmps := (ps.zip (encs x)).foldl (fun t (p, v) => t.setIfInBounds p v) tmps, defers := [] } W

theorem range_wpB (hg : a.eval g = fv) {S B : Fp} {encs : α → Array Value} {xs : List α} (hseq : SeqB P S B w fv encs xs) (hS : ∀ k, S k → k < w.heap.size) (hps : ∀ x, (encs x).size = ps.size)
    (I : List α → Fp → World → Prop) (Ix : Code → List α → Fp → World → Prop) (hI : Frames I) (hIx : ∀ c, Frames (Ix c)) (D₀ : Fp) (h0 : I [] D₀ w) (hD : ∀ k, D₀ k → k < w.heap.size ∧ ¬ S k)
    (hround : RoundOkB P w B a.tmps ps assign body encs xs I Ix D₀)
    (hdone : ∀ (q : Nat) (D' : Fp) (W' : World), I xs D' W' → Sub D₀ D' w W' → Kp (fun k => ¬ D₀ k ∧ ¬ B k) w W' → (∀ k, D' k → k < W'.heap.size) → w.heap.size ≤ q → ¬ D' q → W'.heap[q]? = some (.deferred (some [])) →
      Q .normal { a with defers := { target := .collected q, args := #[] } :: a.defers } W')
    (hstop : ∀ (q : Nat) (c : Code) (pre : List α) (D' : Fp) (W' : World), pre <+: xs → Ix c pre D' W' → Sub D₀ D' w W' → Kp (fun k => ¬ D₀ k ∧ ¬ B k) w W' → (∀ k, D' k → k < W'.heap.size) → w.heap.size ≤ q → ¬ D' q → W'.heap[q]? = some (.deferred (some [])) →
      c.wpIn Fence.wide 0 P Q { a with defers := { target := .collected q, args := #[] } :: a.defers } W') :
    (Code.rangeFunc g ps assign body).wpIn Fence.wide 0 P Q a w := by
  refine wpIn_rangeFunc ?_
  intro fn hfn
  rw [show Fence.wide.round = none from rfl]
  obtain ⟨rec, hrec⟩ : ∃ rec : LoopState → Option Code → Loop, rec = fun st pe => { state := st, pending := pe, fn, tmps := a.tmps, params := ps, assign, body, defers := w.heap.size } := ⟨_, rfl⟩
  obtain ⟨W1, hW1⟩ : ∃ W1, (w.alloc (.deferred (some []))).alloc (.loop (rec .ready none)) = W1 := ⟨_, rfl⟩
  have hL1 : W1.heap[w.heap.size + 1]? = some (.loop (rec .ready none)) := by
    rw [← hW1]; have := World.alloc_heap_new (w.alloc (.deferred (some []))) (.loop (rec .ready none)); rwa [World.size_alloc] at this
  have hK1 : W1.heap[w.heap.size]? = some (.deferred (some [])) := by
    rw [← hW1]; exact (Below.heap_alloc _ _ _ (by simp)).trans (World.alloc_heap_new w _)
  have he1 : Ext w W1 := by rw [← hW1]; exact ((Kp.refl _ w).alloc _).alloc _
  have hs1 : W1.heap.size = w.heap.size + 2 := by rw [← hW1]; simp
  have hcall := hseq.tells W1 (Kp.of_ext he1) (.func (.yield (w.heap.size + 1)) #[] #[]) (withRec (w.heap.size + 1) w.heap.size rec w D₀ I none) (fun pre E W => ∃ c, withRec (w.heap.size + 1) w.heap.size rec w D₀ (Ix c) (some c) pre E W)
    (fun k => D₀ k ∨ k = w.heap.size + 1 ∨ k = w.heap.size) ⟨_, _, _, rfl⟩ (withRec_frames hI none) (frames_ex fun c => withRec_frames (hIx c) (some c))
    ⟨D₀, hI _ _ _ _ h0 (fun k hk => (hD k hk).1) (Kp.of_ext he1), fun k hk => he1.lt (hD k hk).1, fun k => Iff.rfl, fun h => by have := (hD _ h).1; omega, fun h => by have := (hD _ h).1; omega, fun k hk => .inl hk, by omega, by omega, hL1, hK1⟩
    (by
      rintro k (h | h | h)
      · exact ⟨he1.lt (hD k h).1, (hD k h).2⟩
      · exact ⟨by omega, fun hs => by have := hS k hs; omega⟩
      · exact ⟨by omega, fun hs => by have := hS k hs; omega⟩) ?_
  · obtain ⟨f, as, hrun, hc⟩ := hcall
    obtain ⟨d, hd1, hd2⟩ := ofValue_run hrun
    refine ⟨w.heap.size + 1, [{ target := .collected w.heap.size, args := #[] }], W1, d, W1, f, as, W1, ?_, ?_, fun _ _ => trivial, hd2, (fun h => by cases h), callsIn_wide.2 (hc.mono ?_)⟩
    · rw [← hW1, hrec]; exact run_enterLoop_outer _ _ _ _ _
    · simp only [resolve, rangeCall, hg, List.map_toArray, List.map_cons, List.map_nil]; exact hd1
    · rintro e W2 ⟨⟨v, rfl⟩, E, hsub, hkp, hlt, (⟨D, h1, h2, h3, h4, h5, h6, h7, h8, h9, h10⟩ | ⟨pre, hpre, c, D, h1, h2, h3, h4, h5, h6, h7, h8, h9, h10⟩)⟩
      all_goals
        have hkp2 : ∀ o, Kp (fun k => k ≠ w.heap.size + 1) W2 (W2.putObj (w.heap.size + 1) o) := fun o => (Kp.refl _ _).putObj (.inr (by simp)) _
        have hend0 := run_endLoop (P := P) h9 (by rw [hrec]; simp)
        rw [show ∀ st pe, (rec st pe).pending = pe from fun st pe => by rw [hrec]] at hend0
        obtain ⟨W4, hend, hk2⟩ : ∃ W4, _ = Result.ok _ W4 ∧ Kp (fun k => k ≠ w.heap.size + 1) W2 W4 := ⟨_, hend0, hkp2 _⟩
      · refine ⟨none, _, hend, ?_⟩
        refine hdone w.heap.size D _ (hI _ _ _ _ h1 h2 (hk2.mono fun k _ hk => by rintro rfl; exact h4 hk)) (fun k hk => ?_) ?_ (fun k hk => hk2.lt (h2 k hk)) (Nat.le_refl _) h5 (hk2.heap (by simp) h10)
        · rcases h6 k hk with h | h
          · exact .inl h
          · exact .inr ⟨h.1, hk2.lt h.2⟩
        · refine (he1.mono fun k _ _ => trivial).trans' (hkp.trans' hk2 ?_) ?_
          · rintro k hk hn rfl; exact hn.1 (.inr (.inl rfl))
          · intro k hk hn
            refine ⟨?_, hn.2⟩
            rintro (h | h | h)
            · exact hn.1 h
            · omega
            · omega
      · refine ⟨some c, _, hend, ?_⟩
        refine hstop w.heap.size c pre D _ hpre ((hIx c) _ _ _ _ h1 h2 (hk2.mono fun k _ hk => by rintro rfl; exact h4 hk)) (fun k hk => ?_) ?_ (fun k hk => hk2.lt (h2 k hk)) (Nat.le_refl _) h5 (hk2.heap (by simp) h10)
        · rcases h6 k hk with h | h
          · exact .inl h
          · exact .inr ⟨h.1, hk2.lt h.2⟩
        · refine (he1.mono fun k _ _ => trivial).trans' (hkp.trans' hk2 ?_) ?_
          · rintro k hk hn rfl; exact hn.1 (.inr (.inl rfl))
          · intro k hk hn
            refine ⟨?_, hn.2⟩
            rintro (h | h | h)
            · exact hn.1 h
            · omega
            · omega
  · rintro pre x E W ⟨D, h1, h2, h3, h4, h5, h6, h7, h8, h9, h10⟩ hE hpre hsubE hkpE
    have hkD : Kp (fun k => ¬ D₀ k ∧ ¬ B k) w W := (he1.mono fun k _ _ => trivial).trans' hkpE (by
      intro k hk hn
      refine ⟨?_, hn.2⟩
      rintro (h | h | h)
      · exact hn.1 h
      · omega
      · omega)
    refine (round_call (r := rec .ready none) (I := I) (Ix := Ix) (D := D) (by rw [hrec]; exact hps) (x := x) h9 (by rw [hrec]) h2 h4 (xs := pre ++ [x]) ?_).mono ?_
    · intro K hK
      rw [hrec] at hK ⊢
      refine hround (w.heap.size + 1) pre x D W h1 h2 hpre h6 hkD (by omega) h7 h4 K fun a₁ W₁ hW1 hb => hK a₁ W₁ hW1 fun W₂ hk2 hs2 ⟨r', hr', _⟩ => hb W₂ hk2 hs2 ⟨r', hr'⟩
    · rintro e W' ⟨W3, D', hsz, hk3, hs3, hkW, hlt3, hl3, hres⟩
      have hq3 : W3.heap[w.heap.size]? = some (.deferred (some [])) := hkW.heap ⟨h5, by omega⟩ h10
      have hq' : W'.heap[w.heap.size]? = some (.deferred (some [])) := hk3.heap (by simp) hq3
      have hDq : ¬ D' w.heap.size := by
        intro h
        rcases hs3 _ h with h | h
        · exact h5 h
        · omega
      have hkDD : Kp (fun k => k ≠ w.heap.size + 1) W3 W' := hk3
      have hlt' : w.heap.size + 1 < W'.heap.size := Nat.lt_of_lt_of_le (hkW.lt h7) hk3.size
      have hsub' : Sub D₀ D' w W' := by
        have hz := he1.size
        have hz1 := hkW.size
        intro k hk
        rcases hs3 k hk with h | h
        · rcases h6 k h with h' | h'
          · exact .inl h'
          · exact .inr ⟨h'.1, by omega⟩
        · exact .inr ⟨by omega, by omega⟩
      refine ⟨fun k => D' k ∨ k = w.heap.size + 1 ∨ k = w.heap.size, ?_, ?_, ?_, ?_⟩
      · rintro k (h | h | h)
        · rcases hs3 k h with h | h
          · exact .inl ((h3 k).2 (.inl h))
          · exact .inr ⟨h.1, by omega⟩
        · exact .inl ((h3 k).2 (.inr (.inl h)))
        · exact .inl ((h3 k).2 (.inr (.inr h)))
      · refine (hkW.mono ?_).trans' hkDD ?_
        · intro k _ hk
          exact ⟨fun h => hk ((h3 k).2 (.inl h)), fun h => hk ((h3 k).2 (.inr (.inl h)))⟩
        · rintro k _ hk rfl
          exact hk ((h3 _).2 (.inr (.inl rfl)))
      · rintro k (h | h | h)
        · have := hlt3 k h; omega
        · omega
        · omega
      · rcases hres with ⟨rfl, hi, hl'⟩ | ⟨c, rfl, hi, hl'⟩
        · refine .inl ⟨rfl, D', hI _ _ _ _ hi hlt3 (hkDD.mono fun k _ hk => by rintro rfl; exact hl3 hk), fun k hk => by have := hlt3 k hk; omega, fun k => Iff.rfl, hl3, hDq, hsub', hlt', by omega, ?_, hq'⟩
          rw [hl', hrec]; rfl
        · refine .inr ⟨rfl, c, D', (hIx c) _ _ _ _ hi hlt3 (hkDD.mono fun k _ hk => by rintro rfl; exact hl3 hk), fun k hk => by have := hlt3 k hk; omega, fun k => Iff.rfl, hl3, hDq, hsub', hlt', by omega, ?_, hq'⟩
          rw [hl', hrec]; rfl
end

end Go.Proofs.YtddooggkcdloeaaGreatDoor
