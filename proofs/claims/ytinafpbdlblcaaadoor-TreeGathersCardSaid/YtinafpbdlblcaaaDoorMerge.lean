/-
  Plain: what a stable merge comes to.
-/
import Derived.Test.YtinafpbdlblcaaaDoorOrd
namespace Go.Proofs.YtinafpbdlblcaaaDoor
open Go.RowKit
set_option linter.unusedVariables false
set_option linter.unusedSimpArgs false
set_option linter.unusedSectionVars false

section
variable {α : Type} (key : α → ByteArray)

theorem sortK_rise_self : ∀ (l : List α), RiseK key l → sortK key l = l := by
  refine snocInd ?_ ?_
  · intro _; rfl
  · intro l x ih h
    have hl : RiseK key l := (List.pairwise_append.1 h).1
    rw [sortK_snoc, ih hl, insK_at key x l l.length (Nat.le_refl _)]
    · simp
    · intro y hy
      rw [List.take_length] at hy
      exact (List.pairwise_append.1 h).2.2 y hy x (by simp)
    · simp

theorem insK_left (z : α) (S₂ : List α) (h : ∀ y ∈ S₂, ltB (key z) (key y) = true) : ∀ S₁ : List α, insK key z (S₁ ++ S₂) = insK key z S₁ ++ S₂
  | [] => by
    cases S₂ with
    | nil => rfl
    | cons y S =>
      show insK key z (y :: S) = z :: y :: S
      rw [insK, if_pos (h y (by simp))]
  | y :: S₁ => by
    rw [List.cons_append, insK, insK]
    split
    · rfl
    · rw [insK_left z S₂ h S₁]; rfl
theorem insK_right (z : α) (S₂ : List α) : ∀ S₁ : List α, (∀ x ∈ S₁, ltB (key z) (key x) = false) → insK key z (S₁ ++ S₂) = S₁ ++ insK key z S₂
  | [], _ => rfl
  | y :: S₁, h => by
    rw [List.cons_append, insK, if_neg (by rw [h y (by simp)]; exact Bool.false_ne_true), insK_right z S₂ S₁ fun x hx => h x (by simp [hx])]
    rfl

/-- Inserting one behind the other, from a row that stands. -/
def fromK (S l : List α) : List α := l.foldl (fun acc x => insK key x acc) S
theorem sortK_append (l m : List α) : sortK key (l ++ m) = fromK key (sortK key l) m := by
  unfold sortK fromK
  rw [List.foldl_append]
theorem fromK_left (S₂ : List α) : ∀ (l S₁ : List α), (∀ z ∈ l, ∀ y ∈ S₂, ltB (key z) (key y) = true) → fromK key (S₁ ++ S₂) l = fromK key S₁ l ++ S₂
  | [], S₁, _ => rfl
  | z :: l, S₁, h => by
    show fromK key (insK key z (S₁ ++ S₂)) l = fromK key (insK key z S₁) l ++ S₂
    rw [insK_left key z S₂ (h z (by simp)) S₁, fromK_left S₂ l _ fun z hz => h z (by simp [hz])]
theorem fromK_right (S₁ : List α) : ∀ (l S₂ : List α), (∀ z ∈ l, ∀ x ∈ S₁, ltB (key z) (key x) = false) → fromK key (S₁ ++ S₂) l = S₁ ++ fromK key S₂ l
  | [], S₂, _ => rfl
  | z :: l, S₂, h => by
    show fromK key (insK key z (S₁ ++ S₂)) l = S₁ ++ fromK key (insK key z S₂) l
    rw [insK_right key z S₂ S₁ (h z (by simp)), fromK_right S₁ l _ fun z hz => h z (by simp [hz])]

/-- **A merge parts.** -/
theorem mergeSplit (L₁ L₂ R₁ R₂ : List α) (hL : RiseK key (L₁ ++ L₂)) (hR : RiseK key (R₁ ++ R₂)) (h1 : ∀ x ∈ L₁, ∀ y ∈ R₂, ltB (key y) (key x) = false) (h2 : ∀ z ∈ R₁, ∀ y ∈ L₂, ltB (key z) (key y) = true) :
    sortK key ((L₁ ++ L₂) ++ (R₁ ++ R₂)) = sortK key (L₁ ++ R₁) ++ sortK key (L₂ ++ R₂) := by
  have hL1 : RiseK key L₁ := (List.pairwise_append.1 hL).1
  have hL2 : RiseK key L₂ := (List.pairwise_append.1 hL).2.1
  rw [sortK_append, sortK_rise_self key _ hL]
  have e : fromK key (L₁ ++ L₂) (R₁ ++ R₂) = fromK key (fromK key (L₁ ++ L₂) R₁) R₂ := by unfold fromK; rw [List.foldl_append]
  rw [e, fromK_left key L₂ R₁ L₁ h2]
  have e2 : fromK key L₁ R₁ = sortK key (L₁ ++ R₁) := by rw [sortK_append, sortK_rise_self key _ hL1]
  have e3 : fromK key L₂ R₂ = sortK key (L₂ ++ R₂) := by rw [sortK_append, sortK_rise_self key _ hL2]
  rw [e2, fromK_right key _ R₂ L₂, e3]
  intro z hz x hx
  rcases List.mem_append.1 ((sortK_perm key _).mem_iff.1 hx) with hx | hx
  · exact h1 x hx z hz
  · exact (List.pairwise_append.1 hR).2.2 x hx z hz

/-- One element ahead of a rising row. -/
theorem merge_one_left (x : α) (R₁ R₂ : List α) (hR : RiseK key (R₁ ++ R₂)) (h1 : ∀ y ∈ R₁, ltB (key y) (key x) = true) (h2 : ∀ y ∈ R₂, ltB (key y) (key x) = false) : sortK key (x :: (R₁ ++ R₂)) = R₁ ++ x :: R₂ := by
  have hR1 : RiseK key R₁ := (List.pairwise_append.1 hR).1
  have hR2 : RiseK key R₂ := (List.pairwise_append.1 hR).2.1
  have := mergeSplit key [] [x] R₁ R₂ (List.pairwise_singleton _ _) hR (by simp) (fun z hz y hy => by rw [List.mem_singleton.1 hy]; exact h1 z hz)
  rw [show ([] ++ [x]) ++ (R₁ ++ R₂) = x :: (R₁ ++ R₂) from rfl] at this
  rw [this, show ([] : List α) ++ R₁ = R₁ from rfl, sortK_rise_self key R₁ hR1, sortK_rise_self key ([x] ++ R₂) (List.pairwise_cons.2 ⟨h2, hR2⟩)]
  rfl
/-- One element behind a rising row. -/
theorem merge_one_right (y : α) (L₁ L₂ : List α) (hL : RiseK key (L₁ ++ L₂)) (h1 : ∀ x ∈ L₁, ltB (key y) (key x) = false) (h2 : ∀ x ∈ L₂, ltB (key y) (key x) = true) : sortK key ((L₁ ++ L₂) ++ [y]) = L₁ ++ y :: L₂ := by
  rw [sortK_snoc, sortK_rise_self key _ hL, insK_right key y L₂ L₁ h1]
  congr 1
  have := insK_left key y L₂ h2 []
  rw [List.nil_append] at this
  rw [this]; rfl

/-- Rising rows at two places. -/
theorem rise_at {l : List α} (h : RiseK key l) {i j : Nat} (hij : i ≤ j) (hj : j < l.length) : ltB (key l[j]) (key (l[i]'(by omega))) = false := by
  by_cases he : i = j
  · subst he; exact ltB_irrefl _
  · exact List.pairwise_iff_getElem.1 h i j (by omega) hj (by omega)
theorem lt_of_le_lt {a b c : ByteArray} (h : ltB b a = false) (k : ltB b c = true) : ltB a c = true := by
  cases hac : ltB a c with
  | true => rfl
  | false =>
    have := leB_trans hac h
    rw [this] at k; cases k
theorem lt_of_lt_le {a b c : ByteArray} (h : ltB a b = true) (k : ltB c b = false) : ltB a c = true := by
  cases hac : ltB a c with
  | true => rfl
  | false =>
    have := leB_trans k hac
    rw [this] at h; cases h
end

end Go.Proofs.YtinafpbdlblcaaaDoor
