/-
  Plain: what join.Of and join.Virtual answer; one file and one under it.
-/
import Derived.Test.YtddooggkcdloeaaGreatDoorJoin0
import Derived.Test.YtddooggkcdloeaaGreatDoorPlainT
import Derived.Test.YtddooggkcdloeaaGreatDoorPlain3
namespace Go.Proofs.YtddooggkcdloeaaGreatDoor
open Go.RowKit
set_option linter.unusedVariables false
set_option linter.unusedSimpArgs false

def stepG (m : Mrg) (oth : Fl → Fl) (o a b : List File) (s : List File × List ByteArray) (p : ByteArray) : List File × List ByteArray :=
  let r := joinF m (atF o p) (atF a p) (atF b p)
  let f := if r.2 = true then r.1 else oth (atF o p)
  (s.1 ++ (if f.is = true then [⟨p, f.data⟩] else []), s.2 ++ (if r.2 = true then [] else [p]))
def gathL (m : Mrg) (oth : Fl → Fl) (o a b : List File) (ps : List ByteArray) : List File × List ByteArray := ps.foldl (stepG m oth o a b) ([], [])
def gathF (m : Mrg) (oth : Fl → Fl) (o a b : List File) : List File × List ByteArray := gathL m oth o a b (riseT (flatP [o, a, b]))
theorem gathL_snoc (m : Mrg) (oth : Fl → Fl) (o a b : List File) (ps : List ByteArray) (p : ByteArray) : gathL m oth o a b (ps ++ [p]) = stepG m oth o a b (gathL m oth o a b ps) p := by simp [gathL, List.foldl_append]
def bQ : ByteArray := ⟨#[63]⟩
def bStar : ByteArray := ⟨#[42]⟩
def noFl : Fl := ⟨false, ⟨#[]⟩⟩
def may3 (o a b : List File) : Bool := mayB o && (mayB a && mayB b)
def badF' (g : List File × List ByteArray) : List ByteArray := (g.2 ++ underF g.1) ++ (if 12 < g.1.length then [bStar] else [])
def joinOf (m : Mrg) (o a b : List File) : List File × List ByteArray :=
  if may3 o a b = true then
    let g := gathF m (fun _ => noFl) o a b
    if 0 < (badF' g).length then ([], riseT (badF' g)) else (g.1, [])
  else ([], [bQ])
def virtOf (m : Mrg) (o a b : List File) : List File :=
  if may3 o a b = true then
    let g := gathF m id o a b
    ((underF g.1).foldl dropF g.1).take 12
  else []

/-! ### One file, and one under it -/
section
variable {p q : ByteArray} (hp : IsPath p) (hq : IsPath q) (d e : ByteArray) (hd : d.size ≤ 400) (he : e.size ≤ 400)
theorem one_may {p : ByteArray} (hpp : pathB p = true) {d : ByteArray} (hd : d.size ≤ 400) : mayB [⟨p, d⟩] = true := by
  rw [mayB_iff]
  refine ⟨by simp, fun f hf => ?_, List.pairwise_singleton _ _, List.pairwise_singleton _ _⟩
  rw [List.mem_singleton.1 hf]; exact ⟨hpp, hd⟩
theorem nil_may : mayB [] = true := rfl
theorem und_ne (p q : ByteArray) : p ≠ undB p q slashB := by
  intro e
  have hlt := lt_und p q slashB 47 [] slashB_list
  rw [← e, ltB_irrefl] at hlt
  cases hlt
theorem at_nil (x : ByteArray) : atF [] x = noFl := rfl
theorem at_one (p d : ByteArray) : atF [⟨p, d⟩] p = ⟨true, d⟩ := by simp [atF, getF, getD]
theorem at_other {p x : ByteArray} (h : p ≠ x) (d : ByteArray) : atF [⟨p, d⟩] x = noFl := by
  have : (p.toList == x.toList) = false := by rw [toList_beq]; exact decide_eq_false h
  simp [atF, getF, getD, this, noFl]
theorem join_left (m : Mrg) (a : Fl) : joinF m noFl a noFl = (a, true) := by
  unfold joinF
  rw [if_pos (by rw [(flB_iff noFl noFl).2 rfl]; simp)]
theorem join_right (m : Mrg) (o b : Fl) : joinF m o o b = (b, true) := by
  unfold joinF
  by_cases h : (flB o b || flB b o) = true
  · rw [if_pos h]
    rw [Bool.or_eq_true, flB_iff, flB_iff] at h
    rcases h with h | h
    · rw [h]
    · rw [h]
  · rw [if_neg h, if_pos ((flB_iff o o).2 rfl)]
theorem paths_two (p q d e : ByteArray) (o : List File) (ho : o = [] ∨ o = [⟨p, d⟩]) : riseT (flatP [o, [⟨p, d⟩], [⟨undB p q slashB, e⟩]]) = [p, undB p q slashB] := by
  refine strict_unique (riseT_strict _) ?_ fun y => ?_
  · simp only [List.pairwise_cons, List.mem_singleton, forall_eq, List.not_mem_nil, false_implies, implies_true, List.Pairwise.nil, and_true]
    exact lt_und p q slashB 47 [] slashB_list
  · rw [riseT_mem]
    unfold flatP
    rcases ho with rfl | rfl <;> simp
theorem gath_two (m : Mrg) (oth : Fl → Fl) (p q d e : ByteArray) : gathF m oth [] [⟨p, d⟩] [⟨undB p q slashB, e⟩] = ([⟨p, d⟩, ⟨undB p q slashB, e⟩], []) := by
  unfold gathF
  rw [paths_two p q d e [] (.inl rfl)]
  simp only [gathL, List.foldl_cons, List.foldl_nil, stepG]
  rw [at_nil, at_one, at_other (und_ne p q).symm, at_nil, at_other (und_ne p q), at_one, join_left, join_right]
  rfl
theorem gath_same (m : Mrg) (oth : Fl → Fl) (p q d e : ByteArray) : gathF m oth [⟨p, d⟩] [⟨p, d⟩] [⟨undB p q slashB, e⟩] = ([⟨undB p q slashB, e⟩], []) := by
  unfold gathF
  rw [paths_two p q d e _ (.inr rfl)]
  simp only [gathL, List.foldl_cons, List.foldl_nil, stepG]
  rw [at_one, at_other (und_ne p q).symm, at_other (und_ne p q), at_one, join_right, join_right]
  rfl
theorem under_short {x y : ByteArray} (h : x.toList.length ≤ y.toList.length) : underB x y = false := by
  cases hu : underB x y with
  | false => rfl
  | true =>
    rw [underB_eq] at hu
    unfold Lib.hasPrefix at hu
    have := (List.isPrefixOf_iff_prefix.1 hu).length_le
    simp at this
    omega
theorem under_two (p q d e : ByteArray) : underF [⟨p, d⟩, ⟨undB p q slashB, e⟩] = [undB p q slashB] := by
  have h1 : underB p p = false := under_short (Nat.le_refl _)
  have h2 : underB p (undB p q slashB) = false := under_short (by rw [undB_list]; simp)
  have h3 : underB (undB p q slashB) p = true := by
    rw [underB_eq, undB_list, slashB_list]
    exact prefix_app _ _ _
  unfold underF
  simp [h1, h2, h3]
theorem under_one (p d : ByteArray) : underF [⟨p, d⟩] = [] := by
  have h1 : underB p p = false := under_short (Nat.le_refl _)
  unfold underF
  simp [h1]
include hp hq hd he
theorem may_two (hpp : pathB p = true) (o : List File) (ho : o = [] ∨ o = [⟨p, d⟩]) : may3 o [⟨p, d⟩] [⟨undB p q slashB, e⟩] = true := by
  unfold may3
  rw [one_may hpp hd, one_may (under_path hp hq) he]
  rcases ho with rfl | rfl
  · rfl
  · rw [one_may hpp hd]; rfl
theorem join_two (m : Mrg) (hpp : pathB p = true) : joinOf m [] [⟨p, d⟩] [⟨undB p q slashB, e⟩] = ([], [undB p q slashB]) := by
  unfold joinOf
  rw [if_pos (may_two hp hq d e hd he hpp [] (.inl rfl)), gath_two]
  show (if 0 < (badF' ([⟨p, d⟩, ⟨undB p q slashB, e⟩], [])).length then (([] : List File), riseT (badF' ([⟨p, d⟩, ⟨undB p q slashB, e⟩], []))) else _) = _
  have : badF' (([⟨p, d⟩, ⟨undB p q slashB, e⟩], []) : List File × List ByteArray) = [undB p q slashB] := by
    unfold badF'
    rw [under_two]; rfl
  rw [this]
  rfl
theorem join_same (m : Mrg) (hpp : pathB p = true) : joinOf m [⟨p, d⟩] [⟨p, d⟩] [⟨undB p q slashB, e⟩] = ([⟨undB p q slashB, e⟩], []) := by
  unfold joinOf
  rw [if_pos (may_two hp hq d e hd he hpp _ (.inr rfl)), gath_same]
  show (if 0 < (badF' ([⟨undB p q slashB, e⟩], [])).length then _ else (([⟨undB p q slashB, e⟩] : List File), ([] : List ByteArray))) = _
  have : badF' (([⟨undB p q slashB, e⟩], []) : List File × List ByteArray) = [] := by
    unfold badF'
    rw [under_one]; rfl
  rw [this]
  rfl
theorem virt_two (m : Mrg) (hpp : pathB p = true) : virtOf m [] [⟨p, d⟩] [⟨undB p q slashB, e⟩] = [⟨p, d⟩] := by
  unfold virtOf
  rw [if_pos (may_two hp hq d e hd he hpp [] (.inl rfl)), gath_two]
  show ((underF [⟨p, d⟩, ⟨undB p q slashB, e⟩]).foldl dropF [⟨p, d⟩, ⟨undB p q slashB, e⟩]).take 12 = _
  rw [under_two]
  show (dropF [⟨p, d⟩, ⟨undB p q slashB, e⟩] (undB p q slashB)).take 12 = _
  have h1 : (p.toList == (undB p q slashB).toList) = false := by rw [toList_beq]; exact decide_eq_false (und_ne p q)
  have : dropF [⟨p, d⟩, ⟨undB p q slashB, e⟩] (undB p q slashB) = [⟨p, d⟩] := by unfold dropF; simp [h1]
  rw [this]; rfl
end

end Go.Proofs.YtddooggkcdloeaaGreatDoor
