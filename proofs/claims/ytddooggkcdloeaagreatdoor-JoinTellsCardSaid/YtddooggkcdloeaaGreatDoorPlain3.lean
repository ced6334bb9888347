/-
  Plain: a file under another one.
-/
import Derived.Test.YtddooggkcdloeaaGreatDoorPlain2
namespace Go.Proofs.YtddooggkcdloeaaGreatDoor
open Go.RowKit
set_option linter.unusedVariables false
set_option linter.unusedSimpArgs false
set_option linter.unusedSectionVars false
set_option linter.unnecessarySimpa false

theorem toList_app (a b : ByteArray) : (a ++ b).toList = a.toList ++ b.toList := by
  rw [Lib.toList_data, Lib.toList_data, Lib.toList_data]; simp
theorem lt_app : ∀ (l m : List UInt8) (x : UInt8), l < l ++ x :: m
  | [], m, x => List.nil_lt_cons x m
  | a :: l, m, x => by
    rw [List.cons_append, List.cons_lt_cons_iff]
    exact .inr ⟨rfl, lt_app l m x⟩
theorem prefix_app : ∀ (l m : List UInt8) (y : UInt8), Lib.hasPrefix (l ++ y :: m) (l ++ [y]) = true
  | [], m, y => by simp [Lib.hasPrefix]
  | a :: l, m, y => by
    have := prefix_app l m y
    unfold Lib.hasPrefix at this ⊢
    simpa using this
theorem prefix_no : ∀ (l m : List UInt8) (x y : UInt8), x ≠ y → Lib.hasPrefix (l ++ x :: m) (l ++ [y]) = false
  | [], m, x, y, h => by
    unfold Lib.hasPrefix
    show (y == x && [].isPrefixOf m) = false
    rw [beq_eq_false_iff_ne.2 (Ne.symm h)]; rfl
  | a :: l, m, x, y, h => by
    have := prefix_no l m x y h
    unfold Lib.hasPrefix at this ⊢
    simpa using this

/-- What TreeUnder builds. -/
def undB (p q : ByteArray) (s : ByteArray) : ByteArray := (p ++ s) ++ q
theorem undB_list (p q s : ByteArray) : (undB p q s).toList = p.toList ++ (s.toList ++ q.toList) := by
  unfold undB; rw [toList_app, toList_app, List.append_assoc]
def dashB : ByteArray := ⟨#[45]⟩
def slash2B : ByteArray := ⟨#[47, 47]⟩
def blankB : ByteArray := ⟨#[32]⟩
theorem slashB_list : slashB.toList = [47] := by decide +kernel
theorem dashB_list : dashB.toList = [45] := by decide +kernel
theorem slash2B_list : slash2B.toList = [47, 47] := by decide +kernel
theorem blankB_list : blankB.toList = [32] := by decide +kernel
theorem size_list (p : ByteArray) : p.toList.length = p.size := by rw [Lib.toList_data]; rfl

structure IsPath (p : ByteArray) : Prop where
  small : p.toList.length ≤ 20
  ok : p.toList.any oddB = false
  whole : gapC 47 true p.toList = false
theorem isPath_of {p : ByteArray} (hs : p.size ≤ 20) (h : pathB p = true) : IsPath p := by
  rw [pathB_eq] at h
  unfold pathL at h
  simp only [Bool.and_eq_true, Bool.not_eq_true'] at h
  exact ⟨by rw [size_list]; exact hs, h.1.2, h.2⟩
theorem pathB_of {p : ByteArray} (hs : p.toList.length ≤ 60) (h1 : p.toList.any oddB = false) (h2 : gapC 47 true p.toList = false) : pathB p = true := by
  rw [pathB_eq]
  unfold pathL
  rw [decide_eq_true hs, h1, h2]; rfl
theorem pathB_gap {p : ByteArray} (h2 : gapC 47 true p.toList = true) : pathB p = false := by
  rw [pathB_eq]
  unfold pathL
  rw [h2]; simp
theorem pathB_odd {p : ByteArray} (h1 : p.toList.any oddB = true) : pathB p = false := by
  rw [pathB_eq]
  unfold pathL
  rw [h1]; simp

section
variable {p q : ByteArray} (hp : IsPath p) (hq : IsPath q)
include hp hq
theorem under_path : pathB (undB p q slashB) = true := by
  have h := undB_list p q slashB
  rw [slashB_list] at h
  refine pathB_of ?_ ?_ ?_ <;> rw [h]
  · have := hp.small; have := hq.small; simp; omega
  · rw [List.any_append, List.any_append, hp.ok, hq.ok]; decide
  · show gapC 47 true (p.toList ++ 47 :: q.toList) = false
    rw [gapC_append_cons, hp.whole, hq.whole]; rfl
theorem dash_path : pathB (undB p q dashB) = true := by
  have h := undB_list p q dashB
  rw [dashB_list] at h
  refine pathB_of ?_ ?_ ?_ <;> rw [h]
  · have := hp.small; have := hq.small; simp; omega
  · rw [List.any_append, List.any_append, hp.ok, hq.ok]; decide
  · exact gapC_append_other 47 45 (by decide) p.toList q.toList true hp.whole hq.whole
theorem two_path : pathB (undB p q slash2B) = false := by
  refine pathB_gap ?_
  rw [undB_list, slash2B_list]
  show gapC 47 true (p.toList ++ 47 :: ([47] ++ q.toList)) = true
  rw [gapC_append_cons]
  show (gapC 47 true p.toList || gapC 47 true (47 :: q.toList)) = true
  rw [gapC]; simp
omit hq in
theorem ahead_path : pathB (slashB ++ p) = false := by
  refine pathB_gap ?_
  rw [toList_app, slashB_list]
  show gapC 47 true (47 :: p.toList) = true
  rw [gapC]; simp
omit hq in
theorem behind_path : pathB (p ++ slashB) = false := by
  refine pathB_gap ?_
  rw [toList_app, slashB_list]
  show gapC 47 true (p.toList ++ 47 :: []) = true
  rw [gapC_append_cons]
  simp [gapC]
omit hp hq in
theorem blank_path (p : ByteArray) : pathB (p ++ blankB) = false := by
  refine pathB_odd ?_
  rw [toList_app, blankB_list, List.any_append]
  simp [oddB]
omit hp hq in
theorem lt_und (p q s : ByteArray) (x : UInt8) (l : List UInt8) (hs : s.toList = x :: l) : ltB p (undB p q s) = true := by
  rw [ltB_iff, undB_list, hs]
  exact lt_app _ _ _
omit hp hq in
theorem put_two (p q s d : ByteArray) (x : UInt8) (l : List UInt8) (hs : s.toList = x :: l) : putF [⟨p, d⟩] (undB p q s) d = [⟨p, d⟩, ⟨undB p q s, d⟩] := by
  have hlt := lt_und p q s x l hs
  have hne : (p.toList == (undB p q s).toList) = false := by
    rw [toList_beq]
    simp
    intro e
    rw [← e, ltB_irrefl] at hlt
    cases hlt
  have hd : dropF [⟨p, d⟩] (undB p q s) = [⟨p, d⟩] := by unfold dropF; simp [hne]
  rw [putF_eq, hd]
  have h2 : ltB (undB p q s) p = false := ltB_asymm hlt
  simp [sortK, insK, h2]

variable (d : ByteArray) (hd : d.size ≤ 400)
omit hp hq in
theorem under_may : mayB [⟨p, d⟩, ⟨undB p q slashB, d⟩] = false := by
  cases h : mayB [⟨p, d⟩, ⟨undB p q slashB, d⟩] with
  | false => rfl
  | true =>
    have := ((mayB_iff _).1 h).apart
    rw [List.pairwise_cons] at this
    have := this.1 ⟨undB p q slashB, d⟩ (by simp)
    rw [underB_eq, undB_list, slashB_list] at this
    rw [show p.toList ++ ([47] ++ q.toList) = p.toList ++ 47 :: q.toList from rfl, prefix_app] at this
    cases this
include hd
theorem dash_may (hp' : pathB p = true) : mayB [⟨p, d⟩, ⟨undB p q dashB, d⟩] = true := by
  rw [mayB_iff]
  refine ⟨by simp, fun f hf => ?_, ?_, ?_⟩
  · rcases List.mem_cons.1 hf with rfl | hf
    · exact ⟨hp', hd⟩
    · rw [List.mem_singleton.1 hf]; exact ⟨dash_path hp hq, hd⟩
  · simp only [List.pairwise_cons, List.mem_singleton, forall_eq, List.not_mem_nil, false_implies, implies_true, List.Pairwise.nil, and_true]
    exact lt_und p q dashB 45 [] dashB_list
  · simp only [List.pairwise_cons, List.mem_singleton, forall_eq, List.not_mem_nil, false_implies, implies_true, List.Pairwise.nil, and_true]
    rw [underB_eq, undB_list, dashB_list]
    exact prefix_no _ _ _ _ (by decide)
theorem drop_may : mayB (dropF [⟨p, d⟩, ⟨undB p q slashB, d⟩] p) = true := by
  have hlt := lt_und p q slashB 47 [] slashB_list
  have hne : ((undB p q slashB).toList == p.toList) = false := by
    rw [toList_beq]
    simp
    intro e
    rw [e, ltB_irrefl] at hlt
    cases hlt
  have hdr : dropF [⟨p, d⟩, ⟨undB p q slashB, d⟩] p = [⟨undB p q slashB, d⟩] := by unfold dropF; simp [hne]
  rw [hdr, mayB_iff]
  refine ⟨by simp, fun f hf => ?_, List.pairwise_singleton _ _, List.pairwise_singleton _ _⟩
  rw [List.mem_singleton.1 hf]; exact ⟨under_path hp hq, hd⟩
omit hp hq hd
theorem under_get : (getF [⟨p, d⟩, ⟨undB p q slashB, d⟩] (undB p q slashB)).isSome = true := by
  unfold getF
  rw [List.find?_isSome]
  exact ⟨⟨undB p q slashB, d⟩, by simp, by simp⟩
theorem blank_may (p : ByteArray) : mayB [⟨p ++ blankB, ⟨#[]⟩⟩] = false := by
  cases h : mayB [⟨p ++ blankB, ⟨#[]⟩⟩] with
  | false => rfl
  | true =>
    have := (((mayB_iff _).1 h).each _ (List.mem_singleton.2 rfl)).1
    rw [blank_path] at this
    cases this
end

end Go.Proofs.YtddooggkcdloeaaGreatDoor
