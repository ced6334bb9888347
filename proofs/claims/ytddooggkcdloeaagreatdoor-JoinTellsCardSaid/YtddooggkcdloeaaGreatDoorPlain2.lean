/-
  Plain: what was put is got; a tree with a file less.
-/
import Derived.Test.YtddooggkcdloeaaGreatDoorPlain1
namespace Go.Proofs.YtddooggkcdloeaaGreatDoor
open Go.RowKit
set_option linter.unusedVariables false
set_option linter.unusedSimpArgs false

theorem sortK_of_rise {α : Type} (key : α → ByteArray) : ∀ (l : List α), RiseK key l → sortK key l = l := by
  refine snocInd ?_ ?_
  · intro _; rfl
  · intro l x ih h
    have hl : RiseK key l := (List.pairwise_append.1 h).1
    rw [sortK_snoc, ih hl, insK_at key x l l.length (Nat.le_refl _)]
    · simp
    · intro y hy
      rw [List.take_length] at hy
      exact (List.pairwise_append.1 h).2.2 y hy x (by simp)
    · simp

theorem Tree.riseK {xs : List File} (h : Tree xs) : RiseK File.path xs := h.rise.imp fun hab => ltB_asymm hab
theorem find_insK {α : Type} (key : α → ByteArray) (P : α → Bool) (x : α) : ∀ (l : List α), (P x = false → (insK key x l).find? P = l.find? P) ∧ (P x = true → (∀ y ∈ l, P y = false) → (insK key x l).find? P = some x)
  | [] => by
    constructor
    · intro h; simp [insK, h]
    · intro h _; simp [insK, h]
  | y :: l => by
    obtain ⟨ih1, ih2⟩ := find_insK key P x l
    constructor
    · intro h
      rw [insK]
      split
      · rw [List.find?_cons, h]
      · rw [List.find?_cons, List.find?_cons, ih1 h]
    · intro h hl
      rw [insK]
      split
      · rw [List.find?_cons, h]
      · rw [List.find?_cons, hl y (by simp), ih2 h fun z hz => hl z (by simp [hz])]
theorem filter_insK {α : Type} (key : α → ByteArray) (P : α → Bool) (x : α) (h : P x = false) : ∀ (l : List α), (insK key x l).filter P = l.filter P
  | [] => by simp [insK, h]
  | y :: l => by
    rw [insK]
    split
    · rw [List.filter_cons, h]; rfl
    · rw [List.filter_cons, List.filter_cons, filter_insK key P x h l]

theorem dropF_mem {xs : List File} {p : ByteArray} {f : File} : f ∈ dropF xs p ↔ f ∈ xs ∧ f.path ≠ p := by
  unfold dropF
  rw [List.mem_filter]
  refine and_congr_right fun _ => ?_
  rw [toList_beq]
  simp
theorem dropF_dropF (xs : List File) (p : ByteArray) : dropF (dropF xs p) p = dropF xs p := by
  unfold dropF
  rw [List.filter_filter]
  simp
theorem Tree.drop {xs : List File} (h : Tree xs) (p : ByteArray) : Tree (dropF xs p) := h.sub (dropF_sub xs p)
theorem Tree.put_eq {xs : List File} (h : Tree xs) (p d : ByteArray) : putF xs p d = insK File.path ⟨p, d⟩ (dropF xs p) := by
  rw [putF_eq, sortK_of_rise _ _ (h.drop p).riseK]
theorem getF_put (xs : List File) (h : Tree xs) (p d : ByteArray) : getF (putF xs p d) p = some ⟨p, d⟩ := by
  rw [h.put_eq]
  refine (find_insK File.path _ ⟨p, d⟩ _).2 (by simp) fun y hy => ?_
  have := (dropF_mem.1 hy).2
  simp only [toList_beq]
  simp [this]
theorem getF_put_other (xs : List File) (h : Tree xs) (p d q : ByteArray) (hq : q ≠ p) : getF (putF xs p d) q = getF xs q := by
  rw [h.put_eq]
  have h1 := (find_insK File.path (fun f => f.path.toList == q.toList) ⟨p, d⟩ (dropF xs p)).1 (by simp only [toList_beq]; simp; exact fun e => hq e.symm)
  unfold getF
  rw [h1]
  unfold dropF
  rw [List.find?_filter]
  congr 1
  funext f
  simp only [toList_beq]
  by_cases hf : f.path = q
  · subst hf; simp [hq]
  · simp [hf]
theorem getF_mem {xs : List File} (h : Tree xs) {f : File} (hf : f ∈ xs) : getF xs f.path = some f := by
  unfold getF
  obtain ⟨s, t, rfl⟩ := List.append_of_mem hf
  rw [List.find?_append]
  have : s.find? (fun g => g.path.toList == f.path.toList) = none := by
    rw [List.find?_eq_none]
    intro g hg
    have hlt := (List.pairwise_append.1 h.rise).2.2 g hg f (by simp)
    rw [toList_beq]
    simp
    intro e
    rw [e, ltB_irrefl] at hlt
    cases hlt
  rw [this]
  simp
theorem getF_drop (xs : List File) (p : ByteArray) : getF (dropF xs p) p = none := by
  unfold getF
  rw [List.find?_eq_none]
  intro g hg
  rw [toList_beq]
  simp
  exact (dropF_mem.1 hg).2
theorem dropF_put (xs : List File) (h : Tree xs) (p d : ByteArray) : dropF (putF xs p d) p = dropF xs p := by
  rw [h.put_eq]
  have : dropF (insK File.path ⟨p, d⟩ (dropF xs p)) p = dropF (dropF xs p) p := filter_insK File.path _ _ (by simp) _
  rw [this, dropF_dropF]
/-- A file of a tree stands between what is less and what is more. -/
theorem Tree.split {xs : List File} (h : Tree xs) {f : File} (hf : f ∈ xs) : ∃ s t, xs = s ++ f :: t ∧ dropF xs f.path = s ++ t ∧ insK File.path f (s ++ t) = xs := by
  obtain ⟨s, t, rfl⟩ := List.append_of_mem hf
  have hr := List.pairwise_append.1 h.rise
  have hs : ∀ g ∈ s, ltB g.path f.path = true := fun g hg => hr.2.2 g hg f (by simp)
  have ht : ∀ g ∈ t, ltB f.path g.path = true := fun g hg => (List.pairwise_cons.1 hr.2.1).1 g hg
  refine ⟨s, t, rfl, ?_, ?_⟩
  · unfold dropF
    rw [List.filter_append, List.filter_cons]
    have h1 : s.filter (fun g => !(g.path.toList == f.path.toList)) = s := by
      rw [List.filter_eq_self]
      intro g hg
      have := hs g hg
      rw [toList_beq]
      simp
      intro e; rw [e, ltB_irrefl] at this; cases this
    have h2 : t.filter (fun g => !(g.path.toList == f.path.toList)) = t := by
      rw [List.filter_eq_self]
      intro g hg
      have := ht g hg
      rw [toList_beq]
      simp
      intro e; rw [e, ltB_irrefl] at this; cases this
    rw [h1, h2]
    simp
  · rw [insK_at File.path f (s ++ t) s.length (by simp)]
    · simp
    · intro y hy
      rw [List.take_left'] at hy
      · exact ltB_asymm (hs y hy)
      · rfl
    · intro y hy
      rw [List.drop_left'] at hy
      · exact ht y hy
      · rfl
theorem dropF_length {xs : List File} (h : Tree xs) {f : File} (hf : f ∈ xs) : (dropF xs f.path).length = xs.length - 1 := by
  obtain ⟨s, t, e, h1, _⟩ := h.split hf
  rw [h1, e]; simp
theorem put_back {xs : List File} (h : Tree xs) {f : File} (hf : f ∈ xs) : putF (dropF xs f.path) f.path f.data = xs := by
  obtain ⟨s, t, e, h1, h2⟩ := h.split hf
  rw [(h.drop f.path).put_eq, dropF_dropF, h1]
  exact h2

/-! ### awake -/
def bA : ByteArray := ⟨#[97]⟩
def bAB : ByteArray := ⟨#[97, 47, 98]⟩
def bAmB : ByteArray := ⟨#[97, 45, 98]⟩
def bA2B : ByteArray := ⟨#[97, 47, 47, 98]⟩
def bX : ByteArray := ⟨#[120]⟩
def b1 : ByteArray := ⟨#[49]⟩
def bNo : ByteArray := ⟨#[]⟩
theorem awake_may1 : mayB [⟨bA, bNo⟩, ⟨bAB, bNo⟩] = false := by
  cases h : mayB [⟨bA, bNo⟩, ⟨bAB, bNo⟩] with
  | false => rfl
  | true =>
    have := ((mayB_iff _).1 h).apart
    rw [List.pairwise_cons] at this
    have := this.1 ⟨bAB, bNo⟩ (by simp)
    rw [underB_eq] at this
    exact absurd this (by decide +kernel)
theorem awake_pathAB : pathB bAB = true := by rw [pathB_eq]; decide +kernel
theorem awake_pathA : pathB bA = true := by rw [pathB_eq]; decide +kernel
theorem awake_pathAmB : pathB bAmB = true := by rw [pathB_eq]; decide +kernel
theorem awake_pathA2B : pathB bA2B = false := by rw [pathB_eq]; decide +kernel
theorem awake_may2 : mayB [⟨bA, bNo⟩, ⟨bAmB, bNo⟩] = true := by
  rw [mayB_iff]
  refine ⟨by decide, fun f hf => ?_, ?_, ?_⟩
  · rcases List.mem_cons.1 hf with rfl | hf
    · exact ⟨awake_pathA, by decide⟩
    · rw [List.mem_singleton.1 hf]; exact ⟨awake_pathAmB, by decide⟩
  · simp only [List.pairwise_cons, List.mem_singleton, forall_eq, List.not_mem_nil, false_implies, implies_true, List.Pairwise.nil, and_true]
    rw [ltB_iff]; decide +kernel
  · simp only [List.pairwise_cons, List.mem_singleton, forall_eq, List.not_mem_nil, false_implies, implies_true, List.Pairwise.nil, and_true]
    rw [underB_eq]; decide +kernel
theorem awake_put : putF [] bX b1 = [⟨bX, b1⟩] := rfl

end Go.Proofs.YtddooggkcdloeaaGreatDoor
