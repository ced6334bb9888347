/-
  Texts that rise: put in one by one.
-/
import Derived.Test.YtddooggkcdloeaaGreatDoorGrow
import Derived.Test.YtddooggkcdloeaaGreatDoorPaths
namespace Go.Proofs.YtddooggkcdloeaaGreatDoor
open Go.RowKit
set_option linter.unusedVariables false
set_option linter.unusedSimpArgs false
attribute [local go_sem] Oper.semAt_some

/-- A text put into rising ones, where it is none of them. -/
def addT (acc : List ByteArray) (x : ByteArray) : List ByteArray := if (acc.any fun y => y.toList == x.toList) = true then acc else insK id x acc
def riseT (l : List ByteArray) : List ByteArray := l.foldl addT []
theorem riseT_snoc (l : List ByteArray) (x : ByteArray) : riseT (l ++ [x]) = addT (riseT l) x := by simp [riseT, List.foldl_append]
abbrev StrictT (l : List ByteArray) : Prop := l.Pairwise fun a b => ltB a b = true
theorem any_mem {acc : List ByteArray} {x : ByteArray} : (acc.any fun y => y.toList == x.toList) = true ↔ x ∈ acc := by
  rw [List.any_eq_true]
  exact ⟨fun ⟨y, hy, h⟩ => by rw [← toList_inj (beq_iff_eq.1 h)]; exact hy, fun h => ⟨x, h, by simp⟩⟩
theorem addT_mem {acc : List ByteArray} {x y : ByteArray} : y ∈ addT acc x ↔ y = x ∨ y ∈ acc := by
  unfold addT
  split
  · rename_i hx
    exact ⟨.inr, fun h => by rcases h with rfl | h; exact any_mem.1 hx; exact h⟩
  · exact insK_mem id
theorem addT_strict {acc : List ByteArray} (x : ByteArray) (h : StrictT acc) : StrictT (addT acc x) := by
  unfold addT
  split
  · exact h
  · rename_i hx
    rw [any_mem] at hx
    induction acc with
    | nil => simp [insK]
    | cons a acc ih =>
      have ha := List.pairwise_cons.1 h
      rw [insK]
      split
      · rename_i hlt
        refine List.pairwise_cons.2 ⟨fun y hy => ?_, h⟩
        rcases List.mem_cons.1 hy with rfl | hy
        · exact hlt
        · exact ltB_trans hlt (ha.1 y hy)
      · rename_i hlt
        have hne : x ≠ a := by rintro rfl; exact hx (by simp)
        have hax : ltB a x = true := by
          cases h' : ltB a x with
          | true => rfl
          | false => exact absurd (ltB_tri (by simpa using hlt) h') hne
        refine List.pairwise_cons.2 ⟨fun y hy => ?_, ih ha.2 (fun hm => hx (by simp [hm]))⟩
        rcases (insK_mem id).1 hy with rfl | hy
        · exact hax
        · exact ha.1 y hy
theorem riseT_strict (l : List ByteArray) : StrictT (riseT l) := by
  refine snocInd (p := fun l => StrictT (riseT l)) .nil (fun l x ih => ?_) l
  rw [riseT_snoc]; exact addT_strict x ih
theorem riseT_mem (l : List ByteArray) (y : ByteArray) : y ∈ riseT l ↔ y ∈ l := by
  refine snocInd (p := fun l => y ∈ riseT l ↔ y ∈ l) (by simp [riseT]) (fun l x ih => ?_) l
  rw [riseT_snoc, addT_mem, ih]; simp [or_comm]
theorem riseT_length (l : List ByteArray) : (riseT l).length ≤ l.length := by
  refine snocInd (p := fun l => (riseT l).length ≤ l.length) (by simp [riseT]) (fun l x ih => ?_) l
  rw [riseT_snoc]
  unfold addT
  split
  · simp; omega
  · rw [insK_length]; simp; omega
theorem StrictT.riseK {l : List ByteArray} (h : StrictT l) : RiseK id l := h.imp fun hab => ltB_asymm hab
/-- Where it goes. -/
theorem addT_at {acc : List ByteArray} {x : ByteArray} (h : StrictT acc) (j : Nat) (hj : j ≤ acc.length) (h1 : ∀ y ∈ acc.take j, ltB x y = false) (h2 : ∀ y ∈ acc.drop j, ltB x y = true) (hx : x ∉ acc) : addT acc x = acc.take j ++ x :: acc.drop j := by
  unfold addT
  rw [if_neg (fun h => hx (any_mem.1 h))]
  exact insK_at id x acc j hj h1 h2
theorem not_mem_of {acc : List ByteArray} {x : ByteArray} (j : Nat) (h1 : ∀ y ∈ acc.take j, ltB y x = true) (h2 : ∀ y ∈ acc.drop j, ltB x y = true) : x ∉ acc := by
  intro hm
  rw [← List.take_append_drop j acc] at hm
  rcases List.mem_append.1 hm with hm | hm
  · have := h1 x hm; rw [ltB_irrefl] at this; cases this
  · have := h2 x hm; rw [ltB_irrefl] at this; cases this
theorem put_sizesT (ss : List ByteArray) (f : ByteArray) (j : Nat) (h : ss.length ≤ 200000) :
    (([] : List ByteArray).length + (ss.take j).length) * 16 ≤ 140737488355328 ∧ ([] : List ByteArray).length + (ss.take j).length ≤ maxLen ∧ (([] ++ ss.take j).length + [f].length) * 16 ≤ 140737488355328 ∧ ([] ++ ss.take j).length + [f].length ≤ maxLen ∧
    ((([] ++ ss.take j) ++ [f]).length + (ss.drop j).length) * 16 ≤ 140737488355328 ∧ (([] ++ ss.take j) ++ [f]).length + (ss.drop j).length ≤ maxLen := by
  unfold maxLen
  simp only [List.nil_append, List.length_append, List.length_take, List.length_drop, List.length_cons, List.length_nil]
  omega
theorem StrictT.take_lt {l : List ByteArray} (h : StrictT l) {s : Nat} (hs : s < l.length) {x : ByteArray} (hx : ltB l[s] x = true) : ∀ y ∈ l.take (s + 1), ltB y x = true := by
  intro y hy
  obtain ⟨i, hi, rfl⟩ := List.mem_iff_getElem.1 hy
  rw [List.length_take] at hi
  rw [List.getElem_take]
  by_cases e : i = s
  · subst e; exact hx
  · exact ltB_trans (List.pairwise_iff_getElem.1 h i s (by omega) hs (by omega)) hx


def flatP (xss : List (List File)) : List ByteArray := xss.flatten.map File.path
theorem flatP_take (xss : List (List File)) (k : Nat) (hk : k < xss.length) : flatP (xss.take (k + 1)) = flatP (xss.take k) ++ xss[k].map File.path := by
  unfold flatP
  rw [take_snoc xss hk, List.flatten_append, List.map_append]; simp
theorem flatP_len (xss : List (List File)) : (flatP xss).length = sumL xss := by unfold flatP sumL; rw [List.length_map]

end Go.Proofs.YtddooggkcdloeaaGreatDoor
