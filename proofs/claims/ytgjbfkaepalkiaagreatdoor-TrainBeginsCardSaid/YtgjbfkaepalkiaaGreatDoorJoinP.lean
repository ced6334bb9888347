/-
  Plain: a file under another one. Plain: what join.Of and join.Virtual answer; one file and one under it.
-/
import Derived.Test.YtgjbfkaepalkiaaGreatDoorPlain2
import Derived.Test.YtgjbfkaepalkiaaGreatDoorJoin1
import Derived.Test.YtgjbfkaepalkiaaGreatDoorSameX
namespace Go.Proofs.YtgjbfkaepalkiaaGreatDoor
open Go.RowKit
set_option linter.unusedVariables false
set_option linter.unusedSimpArgs false
set_option linter.unusedSectionVars false
set_option linter.unnecessarySimpa false

theorem toList_app (a b : ByteArray) : (a ++ b).toList = a.toList ++ b.toList := by
  rw [Lib.toList_data, Lib.toList_data, Lib.toList_data]; simp
theorem lt_app : ∀ (l m : List UInt8) (x : UInt8), l < l ++ x :: m
  | [], m, x => List.nil_lt_cons x m
  | a :: l, m, x => by
    rw [List.cons_append, List.cons_lt_cons_iff]
    exact .inr ⟨rfl, lt_app l m x⟩
theorem prefix_app : ∀ (l m : List UInt8) (y : UInt8), Lib.hasPrefix (l ++ y :: m) (l ++ [y]) = true
  | [], m, y => by simp [Lib.hasPrefix]
  | a :: l, m, y => by
    have := prefix_app l m y
    unfold Lib.hasPrefix at this ⊢
    simpa using this
theorem prefix_no : ∀ (l m : List UInt8) (x y : UInt8), x ≠ y → Lib.hasPrefix (l ++ x :: m) (l ++ [y]) = false
  | [], m, x, y, h => by
    unfold Lib.hasPrefix
    show (y == x && [].isPrefixOf m) = false
    rw [beq_eq_false_iff_ne.2 (Ne.symm h)]; rfl
  | a :: l, m, x, y, h => by
    have := prefix_no l m x y h
    unfold Lib.hasPrefix at this ⊢
    simpa using this

/-- What TreeUnder builds. -/
def undB (p q : ByteArray) (s : ByteArray) : ByteArray := (p ++ s) ++ q
theorem undB_list (p q s : ByteArray) : (undB p q s).toList = p.toList ++ (s.toList ++ q.toList) := by
  unfold undB; rw [toList_app, toList_app, List.append_assoc]
def dashB : ByteArray := ⟨#[45]⟩
def slash2B : ByteArray := ⟨#[47, 47]⟩
def blankB : ByteArray := ⟨#[32]⟩
theorem slashB_list : slashB.toList = [47] := by decide +kernel
theorem dashB_list : dashB.toList = [45] := by decide +kernel
theorem slash2B_list : slash2B.toList = [47, 47] := by decide +kernel
theorem blankB_list : blankB.toList = [32] := by decide +kernel
theorem size_list (p : ByteArray) : p.toList.length = p.size := by rw [Lib.toList_data]; rfl

structure IsPath (p : ByteArray) : Prop where
  small : p.toList.length ≤ 20
  ok : p.toList.any oddB = false
  whole : gapC 47 true p.toList = false
theorem isPath_of {p : ByteArray} (hs : p.size ≤ 20) (h : pathB p = true) : IsPath p := by
  rw [pathB_eq] at h
  unfold pathL at h
  simp only [Bool.and_eq_true, Bool.not_eq_true'] at h
  exact ⟨by rw [size_list]; exact hs, h.1.2, h.2⟩
theorem pathB_of {p : ByteArray} (hs : p.toList.length ≤ 60) (h1 : p.toList.any oddB = false) (h2 : gapC 47 true p.toList = false) : pathB p = true := by
  rw [pathB_eq]
  unfold pathL
  rw [decide_eq_true hs, h1, h2]; rfl
theorem pathB_gap {p : ByteArray} (h2 : gapC 47 true p.toList = true) : pathB p = false := by
  rw [pathB_eq]
  unfold pathL
  rw [h2]; simp
theorem pathB_odd {p : ByteArray} (h1 : p.toList.any oddB = true) : pathB p = false := by
  rw [pathB_eq]
  unfold pathL
  rw [h1]; simp

section
variable {p q : ByteArray} (hp : IsPath p) (hq : IsPath q)
include hp hq
theorem under_path : pathB (undB p q slashB) = true := by
  have h := undB_list p q slashB
  rw [slashB_list] at h
  refine pathB_of ?_ ?_ ?_ <;> rw [h]
  · have := hp.small; have := hq.small; simp; omega
  · rw [List.any_append, List.any_append, hp.ok, hq.ok]; decide
  · show gapC 47 true (p.toList ++ 47 :: q.toList) = false
    rw [gapC_append_cons, hp.whole, hq.whole]; rfl
theorem dash_path : pathB (undB p q dashB) = true := by
  have h := undB_list p q dashB
  rw [dashB_list] at h
  refine pathB_of ?_ ?_ ?_ <;> rw [h]
  · have := hp.small; have := hq.small; simp; omega
  · rw [List.any_append, List.any_append, hp.ok, hq.ok]; decide
  · exact gapC_append_other 47 45 (by decide) p.toList q.toList true hp.whole hq.whole
theorem two_path : pathB (undB p q slash2B) = false := by
  refine pathB_gap ?_
  rw [undB_list, slash2B_list]
  show gapC 47 true (p.toList ++ 47 :: ([47] ++ q.toList)) = true
  rw [gapC_append_cons]
  show (gapC 47 true p.toList || gapC 47 true (47 :: q.toList)) = true
  rw [gapC]; simp
omit hq in
theorem ahead_path : pathB (slashB ++ p) = false := by
  refine pathB_gap ?_
  rw [toList_app, slashB_list]
  show gapC 47 true (47 :: p.toList) = true
  rw [gapC]; simp
omit hq in
theorem behind_path : pathB (p ++ slashB) = false := by
  refine pathB_gap ?_
  rw [toList_app, slashB_list]
  show gapC 47 true (p.toList ++ 47 :: []) = true
  rw [gapC_append_cons]
  simp [gapC]
omit hp hq in
theorem blank_path (p : ByteArray) : pathB (p ++ blankB) = false := by
  refine pathB_odd ?_
  rw [toList_app, blankB_list, List.any_append]
  simp [oddB]
omit hp hq in
theorem lt_und (p q s : ByteArray) (x : UInt8) (l : List UInt8) (hs : s.toList = x :: l) : ltB p (undB p q s) = true := by
  rw [ltB_iff, undB_list, hs]
  exact lt_app _ _ _
omit hp hq in
theorem put_two (p q s d : ByteArray) (x : UInt8) (l : List UInt8) (hs : s.toList = x :: l) : putF [⟨p, d⟩] (undB p q s) d = [⟨p, d⟩, ⟨undB p q s, d⟩] := by
  have hlt := lt_und p q s x l hs
  have hne : (p.toList == (undB p q s).toList) = false := by
    rw [toList_beq]
    simp
    intro e
    rw [← e, ltB_irrefl] at hlt
    cases hlt
  have hd : dropF [⟨p, d⟩] (undB p q s) = [⟨p, d⟩] := by unfold dropF; simp [hne]
  rw [putF_eq, hd]
  have h2 : ltB (undB p q s) p = false := ltB_asymm hlt
  simp [sortK, insK, h2]

variable (d : ByteArray) (hd : d.size ≤ 400)
omit hp hq in
theorem under_may : mayB [⟨p, d⟩, ⟨undB p q slashB, d⟩] = false := by
  cases h : mayB [⟨p, d⟩, ⟨undB p q slashB, d⟩] with
  | false => rfl
  | true =>
    have := ((mayB_iff _).1 h).apart
    rw [List.pairwise_cons] at this
    have := this.1 ⟨undB p q slashB, d⟩ (by simp)
    rw [underB_eq, undB_list, slashB_list] at this
    rw [show p.toList ++ ([47] ++ q.toList) = p.toList ++ 47 :: q.toList from rfl, prefix_app] at this
    cases this
include hd
theorem dash_may (hp' : pathB p = true) : mayB [⟨p, d⟩, ⟨undB p q dashB, d⟩] = true := by
  rw [mayB_iff]
  refine ⟨by simp, fun f hf => ?_, ?_, ?_⟩
  · rcases List.mem_cons.1 hf with rfl | hf
    · exact ⟨hp', hd⟩
    · rw [List.mem_singleton.1 hf]; exact ⟨dash_path hp hq, hd⟩
  · simp only [List.pairwise_cons, List.mem_singleton, forall_eq, List.not_mem_nil, false_implies, implies_true, List.Pairwise.nil, and_true]
    exact lt_und p q dashB 45 [] dashB_list
  · simp only [List.pairwise_cons, List.mem_singleton, forall_eq, List.not_mem_nil, false_implies, implies_true, List.Pairwise.nil, and_true]
    rw [underB_eq, undB_list, dashB_list]
    exact prefix_no _ _ _ _ (by decide)
theorem drop_may : mayB (dropF [⟨p, d⟩, ⟨undB p q slashB, d⟩] p) = true := by
  have hlt := lt_und p q slashB 47 [] slashB_list
  have hne : ((undB p q slashB).toList == p.toList) = false := by
    rw [toList_beq]
    simp
    intro e
    rw [e, ltB_irrefl] at hlt
    cases hlt
  have hdr : dropF [⟨p, d⟩, ⟨undB p q slashB, d⟩] p = [⟨undB p q slashB, d⟩] := by unfold dropF; simp [hne]
  rw [hdr, mayB_iff]
  refine ⟨by simp, fun f hf => ?_, List.pairwise_singleton _ _, List.pairwise_singleton _ _⟩
  rw [List.mem_singleton.1 hf]; exact ⟨under_path hp hq, hd⟩
omit hp hq hd
theorem under_get : (getF [⟨p, d⟩, ⟨undB p q slashB, d⟩] (undB p q slashB)).isSome = true := by
  unfold getF
  rw [List.find?_isSome]
  exact ⟨⟨undB p q slashB, d⟩, by simp, by simp⟩
theorem blank_may (p : ByteArray) : mayB [⟨p ++ blankB, ⟨#[]⟩⟩] = false := by
  cases h : mayB [⟨p ++ blankB, ⟨#[]⟩⟩] with
  | false => rfl
  | true =>
    have := (((mayB_iff _).1 h).each _ (List.mem_singleton.2 rfl)).1
    rw [blank_path] at this
    cases this
end

end Go.Proofs.YtgjbfkaepalkiaaGreatDoor

namespace Go.Proofs.YtgjbfkaepalkiaaGreatDoor
open Go.RowKit
set_option linter.unusedVariables false
set_option linter.unusedSimpArgs false

def stepG (m : Mrg) (oth : Fl → Fl) (o a b : List File) (s : List File × List ByteArray) (p : ByteArray) : List File × List ByteArray :=
  let r := joinF m (atF o p) (atF a p) (atF b p)
  let f := if r.2 = true then r.1 else oth (atF o p)
  (s.1 ++ (if f.is = true then [⟨p, f.data⟩] else []), s.2 ++ (if r.2 = true then [] else [p]))
def gathL (m : Mrg) (oth : Fl → Fl) (o a b : List File) (ps : List ByteArray) : List File × List ByteArray := ps.foldl (stepG m oth o a b) ([], [])
def gathF (m : Mrg) (oth : Fl → Fl) (o a b : List File) : List File × List ByteArray := gathL m oth o a b (riseT (flatP [o, a, b]))
theorem gathL_snoc (m : Mrg) (oth : Fl → Fl) (o a b : List File) (ps : List ByteArray) (p : ByteArray) : gathL m oth o a b (ps ++ [p]) = stepG m oth o a b (gathL m oth o a b ps) p := by simp [gathL, List.foldl_append]
def bQ : ByteArray := ⟨#[63]⟩
def bStar : ByteArray := ⟨#[42]⟩
def noFl : Fl := ⟨false, ⟨#[]⟩⟩
def may3 (o a b : List File) : Bool := mayB o && (mayB a && mayB b)
def badF' (g : List File × List ByteArray) : List ByteArray := (g.2 ++ underF g.1) ++ (if 12 < g.1.length then [bStar] else [])
def joinOf (m : Mrg) (o a b : List File) : List File × List ByteArray :=
  if may3 o a b = true then
    let g := gathF m (fun _ => noFl) o a b
    if 0 < (badF' g).length then ([], riseT (badF' g)) else (g.1, [])
  else ([], [bQ])
def virtOf (m : Mrg) (o a b : List File) : List File :=
  if may3 o a b = true then
    let g := gathF m id o a b
    ((underF g.1).foldl dropF g.1).take 12
  else []

/-! ### One file, and one under it -/
section
variable {p q : ByteArray} (hp : IsPath p) (hq : IsPath q) (d e : ByteArray) (hd : d.size ≤ 400) (he : e.size ≤ 400)
theorem one_may {p : ByteArray} (hpp : pathB p = true) {d : ByteArray} (hd : d.size ≤ 400) : mayB [⟨p, d⟩] = true := by
  rw [mayB_iff]
  refine ⟨by simp, fun f hf => ?_, List.pairwise_singleton _ _, List.pairwise_singleton _ _⟩
  rw [List.mem_singleton.1 hf]; exact ⟨hpp, hd⟩
theorem nil_may : mayB [] = true := rfl
theorem und_ne (p q : ByteArray) : p ≠ undB p q slashB := by
  intro e
  have hlt := lt_und p q slashB 47 [] slashB_list
  rw [← e, ltB_irrefl] at hlt
  cases hlt
theorem at_nil (x : ByteArray) : atF [] x = noFl := rfl
theorem at_one (p d : ByteArray) : atF [⟨p, d⟩] p = ⟨true, d⟩ := by simp [atF, getF, getD]
theorem at_other {p x : ByteArray} (h : p ≠ x) (d : ByteArray) : atF [⟨p, d⟩] x = noFl := by
  have : (p.toList == x.toList) = false := by rw [toList_beq]; exact decide_eq_false h
  simp [atF, getF, getD, this, noFl]
theorem join_left (m : Mrg) (a : Fl) : joinF m noFl a noFl = (a, true) := by
  unfold joinF
  rw [if_pos (by rw [(flB_iff noFl noFl).2 rfl]; simp)]
theorem join_right (m : Mrg) (o b : Fl) : joinF m o o b = (b, true) := by
  unfold joinF
  by_cases h : (flB o b || flB b o) = true
  · rw [if_pos h]
    rw [Bool.or_eq_true, flB_iff, flB_iff] at h
    rcases h with h | h
    · rw [h]
    · rw [h]
  · rw [if_neg h, if_pos ((flB_iff o o).2 rfl)]
theorem paths_two (p q d e : ByteArray) (o : List File) (ho : o = [] ∨ o = [⟨p, d⟩]) : riseT (flatP [o, [⟨p, d⟩], [⟨undB p q slashB, e⟩]]) = [p, undB p q slashB] := by
  refine strict_unique (riseT_strict _) ?_ fun y => ?_
  · simp only [List.pairwise_cons, List.mem_singleton, forall_eq, List.not_mem_nil, false_implies, implies_true, List.Pairwise.nil, and_true]
    exact lt_und p q slashB 47 [] slashB_list
  · rw [riseT_mem]
    unfold flatP
    rcases ho with rfl | rfl <;> simp
theorem gath_two (m : Mrg) (oth : Fl → Fl) (p q d e : ByteArray) : gathF m oth [] [⟨p, d⟩] [⟨undB p q slashB, e⟩] = ([⟨p, d⟩, ⟨undB p q slashB, e⟩], []) := by
  unfold gathF
  rw [paths_two p q d e [] (.inl rfl)]
  simp only [gathL, List.foldl_cons, List.foldl_nil, stepG]
  rw [at_nil, at_one, at_other (und_ne p q).symm, at_nil, at_other (und_ne p q), at_one, join_left, join_right]
  rfl
theorem gath_same (m : Mrg) (oth : Fl → Fl) (p q d e : ByteArray) : gathF m oth [⟨p, d⟩] [⟨p, d⟩] [⟨undB p q slashB, e⟩] = ([⟨undB p q slashB, e⟩], []) := by
  unfold gathF
  rw [paths_two p q d e _ (.inr rfl)]
  simp only [gathL, List.foldl_cons, List.foldl_nil, stepG]
  rw [at_one, at_other (und_ne p q).symm, at_other (und_ne p q), at_one, join_right, join_right]
  rfl
theorem under_short {x y : ByteArray} (h : x.toList.length ≤ y.toList.length) : underB x y = false := by
  cases hu : underB x y with
  | false => rfl
  | true =>
    rw [underB_eq] at hu
    unfold Lib.hasPrefix at hu
    have := (List.isPrefixOf_iff_prefix.1 hu).length_le
    simp at this
    omega
theorem under_two (p q d e : ByteArray) : underF [⟨p, d⟩, ⟨undB p q slashB, e⟩] = [undB p q slashB] := by
  have h1 : underB p p = false := under_short (Nat.le_refl _)
  have h2 : underB p (undB p q slashB) = false := under_short (by rw [undB_list]; simp)
  have h3 : underB (undB p q slashB) p = true := by
    rw [underB_eq, undB_list, slashB_list]
    exact prefix_app _ _ _
  unfold underF
  simp [h1, h2, h3]
theorem under_one (p d : ByteArray) : underF [⟨p, d⟩] = [] := by
  have h1 : underB p p = false := under_short (Nat.le_refl _)
  unfold underF
  simp [h1]
include hp hq hd he
theorem may_two (hpp : pathB p = true) (o : List File) (ho : o = [] ∨ o = [⟨p, d⟩]) : may3 o [⟨p, d⟩] [⟨undB p q slashB, e⟩] = true := by
  unfold may3
  rw [one_may hpp hd, one_may (under_path hp hq) he]
  rcases ho with rfl | rfl
  · rfl
  · rw [one_may hpp hd]; rfl
theorem join_two (m : Mrg) (hpp : pathB p = true) : joinOf m [] [⟨p, d⟩] [⟨undB p q slashB, e⟩] = ([], [undB p q slashB]) := by
  unfold joinOf
  rw [if_pos (may_two hp hq d e hd he hpp [] (.inl rfl)), gath_two]
  show (if 0 < (badF' ([⟨p, d⟩, ⟨undB p q slashB, e⟩], [])).length then (([] : List File), riseT (badF' ([⟨p, d⟩, ⟨undB p q slashB, e⟩], []))) else _) = _
  have : badF' (([⟨p, d⟩, ⟨undB p q slashB, e⟩], []) : List File × List ByteArray) = [undB p q slashB] := by
    unfold badF'
    rw [under_two]; rfl
  rw [this]
  rfl
theorem join_same (m : Mrg) (hpp : pathB p = true) : joinOf m [⟨p, d⟩] [⟨p, d⟩] [⟨undB p q slashB, e⟩] = ([⟨undB p q slashB, e⟩], []) := by
  unfold joinOf
  rw [if_pos (may_two hp hq d e hd he hpp _ (.inr rfl)), gath_same]
  show (if 0 < (badF' ([⟨undB p q slashB, e⟩], [])).length then _ else (([⟨undB p q slashB, e⟩] : List File), ([] : List ByteArray))) = _
  have : badF' (([⟨undB p q slashB, e⟩], []) : List File × List ByteArray) = [] := by
    unfold badF'
    rw [under_one]; rfl
  rw [this]
  rfl
theorem virt_two (m : Mrg) (hpp : pathB p = true) : virtOf m [] [⟨p, d⟩] [⟨undB p q slashB, e⟩] = [⟨p, d⟩] := by
  unfold virtOf
  rw [if_pos (may_two hp hq d e hd he hpp [] (.inl rfl)), gath_two]
  show ((underF [⟨p, d⟩, ⟨undB p q slashB, e⟩]).foldl dropF [⟨p, d⟩, ⟨undB p q slashB, e⟩]).take 12 = _
  rw [under_two]
  show (dropF [⟨p, d⟩, ⟨undB p q slashB, e⟩] (undB p q slashB)).take 12 = _
  have h1 : (p.toList == (undB p q slashB).toList) = false := by rw [toList_beq]; exact decide_eq_false (und_ne p q)
  have : dropF [⟨p, d⟩, ⟨undB p q slashB, e⟩] (undB p q slashB) = [⟨p, d⟩] := by unfold dropF; simp [h1]
  rw [this]; rfl
end

end Go.Proofs.YtgjbfkaepalkiaaGreatDoor
