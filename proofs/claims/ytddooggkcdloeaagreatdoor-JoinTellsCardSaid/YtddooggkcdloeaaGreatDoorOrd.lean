/-
  The order of texts; a list sorted by insertion, what is alike left as it stood. Plain Lean.
-/
import Derived.Test.YtddooggkcdloeaaGreatDoorData
namespace Go.Proofs.YtddooggkcdloeaaGreatDoor
set_option linter.unusedVariables false
set_option linter.unusedSimpArgs false

/-- Does the one text stand ahead of the other? -/
def ltB (a b : ByteArray) : Bool := Op.bytesLess a.toList b.toList

theorem bytesLess_eq' : ∀ (x y : List UInt8), Op.bytesLess x y = decide (x < y)
  | [], [] => by simp [Op.bytesLess]
  | [], b :: y => by simp [Op.bytesLess]
  | a :: x, [] => by simp [Op.bytesLess]
  | a :: x, b :: y => by
    rw [Op.bytesLess, bytesLess_eq' x y, Bool.eq_iff_iff]
    simp [List.cons_lt_cons_iff]

theorem toList_inj {a b : ByteArray} (h : a.toList = b.toList) : a = b := by
  rw [ByteArray.toList_eq, ByteArray.toList_eq] at h
  cases a with | mk a => cases b with | mk b => simpa using h
theorem toList_beq (a b : ByteArray) : (a.toList == b.toList) = decide (a = b) := by
  rw [Bool.eq_iff_iff]
  simp only [beq_iff_eq, decide_eq_true_eq]
  exact ⟨toList_inj, fun h => by rw [h]⟩

theorem ltB_iff {a b : ByteArray} : ltB a b = true ↔ a.toList < b.toList := by unfold ltB; rw [bytesLess_eq']; simp
theorem ltB_irrefl (a : ByteArray) : ltB a a = false := by
  cases h : ltB a a with
  | false => rfl
  | true => exact absurd (ltB_iff.1 h) (List.lt_irrefl _)
theorem ltB_trans {a b c : ByteArray} (h : ltB a b = true) (k : ltB b c = true) : ltB a c = true := ltB_iff.2 (List.lt_trans (ltB_iff.1 h) (ltB_iff.1 k))
theorem ltB_asymm {a b : ByteArray} (h : ltB a b = true) : ltB b a = false := by
  cases k : ltB b a with
  | false => rfl
  | true => exact absurd (ltB_trans h k) (by rw [ltB_irrefl]; simp)
theorem ltB_tri {a b : ByteArray} (h : ltB a b = false) (k : ltB b a = false) : a = b := by
  refine toList_inj ?_
  have h1 : ¬ a.toList < b.toList := fun e => by rw [ltB_iff.2 e] at h; cases h
  have h2 : ¬ b.toList < a.toList := fun e => by rw [ltB_iff.2 e] at k; cases k
  exact List.le_antisymm (List.not_lt.1 h2) (List.not_lt.1 h1)
/-- not-behind is transitive. -/
theorem leB_trans {a b c : ByteArray} (h : ltB b a = false) (k : ltB c b = false) : ltB c a = false := by
  cases e : ltB c a with
  | false => rfl
  | true =>
    cases f : ltB a b with
    | true => rw [ltB_trans e f] at k; cases k
    | false => rw [ltB_tri f h] at e; rw [e] at k; cases k

theorem snocInd {α : Type} {p : List α → Prop} (h0 : p []) (h1 : ∀ l x, p l → p (l ++ [x])) (l : List α) : p l := by
  have h : ∀ r : List α, p r.reverse := by
    intro r
    induction r with
    | nil => exact h0
    | cons x r ih => rw [List.reverse_cons]; exact h1 _ x ih
  have := h l.reverse
  rwa [List.reverse_reverse] at this

section
variable {α : Type} (key : α → ByteArray)

/-- x in its place, behind what is alike. -/
def insK (x : α) : List α → List α
  | [] => [x]
  | y :: ys => if ltB (key x) (key y) = true then x :: y :: ys else y :: insK x ys

/-- Sorted by insertion. -/
def sortK (l : List α) : List α := l.foldl (fun acc x => insK key x acc) []

/-- Rising, what is alike let in. -/
def RiseK (l : List α) : Prop := l.Pairwise fun a b => ltB (key b) (key a) = false

theorem insK_mem {x z : α} {l : List α} : z ∈ insK key x l ↔ z = x ∨ z ∈ l := by
  induction l with
  | nil => simp [insK]
  | cons y ys ih =>
    unfold insK
    split
    · simp
    · simp only [List.mem_cons, ih]
      constructor
      · rintro (h | h | h)
        · exact .inr (.inl h)
        · exact .inl h
        · exact .inr (.inr h)
      · rintro (h | h | h)
        · exact .inr (.inl h)
        · exact .inl h
        · exact .inr (.inr h)
theorem insK_length (x : α) (l : List α) : (insK key x l).length = l.length + 1 := by
  induction l with
  | nil => rfl
  | cons y ys ih =>
    unfold insK
    split
    · rfl
    · simp [ih]
theorem insK_perm (x : α) (l : List α) : (insK key x l).Perm (x :: l) := by
  induction l with
  | nil => exact List.Perm.refl _
  | cons y ys ih =>
    unfold insK
    split
    · exact List.Perm.refl _
    · exact (ih.cons y).trans (List.Perm.swap x y ys)
theorem insK_rise (x : α) {l : List α} (h : RiseK key l) : RiseK key (insK key x l) := by
  induction l with
  | nil => simp [insK, RiseK]
  | cons y ys ih =>
    unfold RiseK at h ⊢
    obtain ⟨h1, h2⟩ := List.pairwise_cons.1 h
    unfold insK
    split
    · rename_i hlt
      refine List.pairwise_cons.2 ⟨fun z hz => ?_, h⟩
      rcases List.mem_cons.1 hz with rfl | hz
      · exact ltB_asymm hlt
      · exact leB_trans (ltB_asymm hlt) (h1 z hz)
    · rename_i hlt
      refine List.pairwise_cons.2 ⟨fun z hz => ?_, ih h2⟩
      rcases (insK_mem key).1 hz with rfl | hz
      · simpa using hlt
      · exact h1 z hz
theorem sortK_snoc (l : List α) (x : α) : sortK key (l ++ [x]) = insK key x (sortK key l) := by simp [sortK, List.foldl_append]
theorem sortK_length (l : List α) : (sortK key l).length = l.length := by
  refine snocInd (p := fun l => (sortK key l).length = l.length) rfl (fun l x ih => ?_) l
  rw [sortK_snoc, insK_length, ih, List.length_append]; rfl
theorem sortK_perm (l : List α) : (sortK key l).Perm l := by
  refine snocInd (p := fun l => (sortK key l).Perm l) (List.Perm.refl _) (fun l x ih => ?_) l
  rw [sortK_snoc]
  exact (insK_perm key x _).trans ((ih.cons x).trans (List.perm_append_singleton x l).symm)
theorem sortK_rise (l : List α) : RiseK key (sortK key l) := by
  refine snocInd (p := fun l => RiseK key (sortK key l)) (by simp [sortK, RiseK]) (fun l x ih => ?_) l
  rw [sortK_snoc]; exact insK_rise key x ih

/-- Where the insertion stops: all ahead of j are not behind x, all from j on are. -/
theorem insK_at (x : α) (l : List α) (j : Nat) (hj : j ≤ l.length) (h1 : ∀ y ∈ l.take j, ltB (key x) (key y) = false) (h2 : ∀ y ∈ l.drop j, ltB (key x) (key y) = true) : insK key x l = l.take j ++ x :: l.drop j := by
  induction l generalizing j with
  | nil => simp [insK]
  | cons y ys ih =>
    cases j with
    | zero =>
      have := h2 y (by simp)
      simp [insK, this]
    | succ j =>
      have h0 := h1 y (by simp)
      unfold insK
      rw [if_neg (by rw [h0]; simp), ih j (by simpa using hj) (fun z hz => h1 z (by simp [hz])) (fun z hz => h2 z (by simpa using hz))]
      simp
/-- What stands ahead of what is not behind x, is not. -/
theorem rise_take (x : α) {l : List α} (h : RiseK key l) (j : Nat) (hj : j ≤ l.length) (hx : ∀ (h0 : 0 < j), ltB (key x) (key (l[j - 1]'(by omega))) = false) : ∀ y ∈ l.take j, ltB (key x) (key y) = false := by
  intro y hy
  obtain ⟨i, hi, rfl⟩ := List.mem_iff_getElem.1 hy
  rw [List.length_take] at hi
  rw [List.getElem_take]
  have h0 := hx (by omega)
  by_cases hij : i = j - 1
  · subst hij; exact h0
  · exact leB_trans (List.pairwise_iff_getElem.1 h i (j - 1) (by omega) (by omega) (by omega)) h0
end

end Go.Proofs.YtddooggkcdloeaaGreatDoor
