/-
  A region that draws its order whose first operations are in one forced order (a call among them), and whose others read only.
-/
import Derived.BigQuiet
import Derived.WalkKit
import Derived.Lib.Hide
namespace Go.Proofs.YtddooggkcdloeaaGreatDoor
open Go.RowKit
set_option linter.unusedVariables false

section
variable {P : Program} {ops : Array Oper} {md : Region.Mode} {Q : Exit → Act → World → Prop}

def seqLexGo (md : Region.Mode) (ops : Array Oper) : Nat → Nat → Array Bool → Bool
  | 0, k, listed => Region.lexFrom md ops (ops.size - k) k listed
  | n + 1, k, listed => decide (Region.ready md ops listed = [k]) && seqLexGo md ops n (k + 1) (listed.setIfInBounds k true)
def seqLexB (md : Region.Mode) (ops : Array Oper) (n : Nat) : Bool := Region.noSelect ops && seqLexGo md ops n 0 (Array.replicate ops.size false)

theorem wp_of_then {o : Oper} {a : Act} {w : World} {K K' : Act → World → Prop} (hh : o.wp P a w K (Exit.then K' Q)) : o.wp P a w K Q := by
  unfold Oper.wp at *
  generalize (execOp a.eval o).run P w = r at *
  cases r with
  | ok n w' =>
    cases n <;> simp only [Oper.upon] at hh ⊢ <;>
      first
        | exact hh
        | exact Calls.mono hh (fun e w'' he => by cases e <;> exact he)
  | halt x w' => cases x <;> simp only [Oper.upon] at hh ⊢ <;> exact hh

theorem wpAny_of_seqQuiet {l₂ : List Oper} : ∀ (l₁ : List Oper) (k : Nat) (listed : Array Bool) (a : Act) (w : World), (∀ j, (l₁ ++ l₂)[j]? = ops[k + j]?) → ops.size = k + (l₁ ++ l₂).length →
    Region.noSelect ops = true → seqLexGo md ops l₁.length k listed = true →
    wpList P ops (Exit.then (fun a' w' => wpQuiet P ops (fun w'' => ∃ n, w'' = w'.drewN n) (fun a'' => ∀ w'', (∃ n, w'' = w'.drewN n) → Q .normal a'' w'') l₂ a') Q) l₁ a w → wpAny P md ops Q (l₁ ++ l₂).length listed a w
  | [], k, listed, a, w, hl, hsz, hs, hB, h => by
    have hB' : Region.lexFrom md ops (ops.size - k) k listed = true := hB
    rw [show ops.size - k = l₂.length by rw [hsz]; simp] at hB'
    exact wpAny_of_quiet (C := fun w'' => ∃ n, w'' = w.drewN n) (Q := fun a'' => ∀ w'', (∃ n, w'' = w.drewN n) → Q .normal a'' w'') (fun _ w' hw' h => h w' hw') _ _ _ _ ⟨0, rfl⟩ (wpAnyQ_lex (md := md) hs l₂ k listed a hl hB' h)
  | o :: l₁, k, listed, a, w, hl, hsz, hs, hB, h => by
    have h0 : ops[k]? = some o := by simpa using (hl 0).symm
    simp only [List.length_cons, seqLexGo, Bool.and_eq_true, decide_eq_true_eq] at hB
    refine ⟨fun h1 => (by rw [hB.1] at h1; cases h1), fun i hi => ?_⟩
    rw [hB.1] at hi
    have hik : i = k := by simpa using hi
    subst hik
    have hrec := fun a' w' => wpAny_of_seqQuiet l₁ (i + 1) (listed.setIfInBounds i true) a' w' (fun j => by have := hl (j + 1); simpa [Nat.add_assoc, Nat.add_comm 1 j] using this) (by rw [hsz]; simp; omega) hs hB.2
    unfold wpOp
    simp only [h0]
    unfold wpList at h
    split
    · rename_i hw
      rw [if_pos hw] at h
      exact h.imp (fun h => Oper.wp_mono hrec (wp_of_then h)) id
    · rename_i hw
      rw [if_neg hw] at h
      exact hrec _ _ h

/-- The first n operations in their one order, a call among them; then the others, which only read. -/
theorem wp_region_seq_quiet {id : Nat} {a : Act} {w : World} {l : List Oper} (n : Nat) (hm : P.follows .mixedOrders = true) (hB : seqLexB .any l.toArray n = true) (hn : n ≤ l.length)
    (h : ∀ K : Act → World → Prop, Hid (∀ a' w', wpQuiet P l.toArray (fun w'' => ∃ n, w'' = w'.drewN n) (fun a'' => ∀ w'', (∃ n, w'' = w'.drewN n) → Q .normal a'' w'') (l.drop n) a' → K a' w') → wpList P l.toArray (Exit.then K Q) (l.take n) a { w with drawn := w.drawn + 1 }) : (Code.region id l.toArray true).wp P Q a w := by
  simp only [seqLexB, Bool.and_eq_true] at hB
  refine wp_region_any hm ?_
  have := wpAny_of_seqQuiet (md := .any) (Q := Q) (l₂ := l.drop n) (l.take n) 0 (Array.replicate l.toArray.size false) a _ (fun j => by simp [List.take_append_drop]) (by simp [List.take_append_drop]) hB.1 (by rw [List.length_take, Nat.min_eq_left hn]; exact hB.2) (h _ fun _ _ h => h)
  rw [List.take_append_drop] at this
  exact this
end
end Go.Proofs.YtddooggkcdloeaaGreatDoor
