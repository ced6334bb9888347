/-
  Plain: what join.Of answers at one path alone. cortegelaw9.JoinEach.
-/
import Derived.Test.YtddooggkcdloeaaGreatDoorSides9P
import Derived.Test.YtddooggkcdloeaaGreatDoorLaw9
namespace Go.Proofs.YtddooggkcdloeaaGreatDoor
open Go.RowKit
set_option linter.unusedVariables false
set_option linter.unusedSimpArgs false

/-- A tree's file at a path, alone. -/
def aloneF (t : List File) (p : ByteArray) : List File := if (atF t p).is = true then [⟨p, (atF t p).data⟩] else []
theorem aloneF_small (t : List File) (p : ByteArray) : (aloneF t p).length ≤ 1 := by unfold aloneF; split <;> simp
theorem atF_alone (t : List File) (p : ByteArray) : atF (aloneF t p) p = atF t p := by
  unfold aloneF
  cases h : (atF t p).is with
  | true =>
    rw [if_pos rfl, at_one]
    generalize atF t p = x at h
    cases x
    dsimp only at h
    rw [h]
  | false =>
    rw [if_neg (by simp), at_nil]
    unfold atF at h ⊢
    dsimp only at h
    rw [h, getD_none h]
    rfl
theorem aloneF_paths (t : List File) (p q : ByteArray) : q ∈ (aloneF t p).map File.path ↔ q = p ∧ p ∈ t.map File.path := by
  have e : (atF t p).is = true ↔ p ∈ t.map File.path := getF_isSome
  unfold aloneF
  split
  · rename_i h
    rw [List.map_cons, List.map_nil, List.mem_singleton]
    exact ⟨fun hq => ⟨hq, e.1 h⟩, fun hq => hq.1⟩
  · rename_i h
    exact ⟨fun hq => (nomatch hq), fun hq => absurd (e.2 hq.2) h⟩
theorem aloneF_may {t : List File} (h : mayB t = true) (p : ByteArray) : mayB (aloneF t p) = true := by
  unfold aloneF
  split
  · rename_i hi
    refine one_may ?_ (atF_data h p)
    obtain ⟨g, hg, e⟩ := List.mem_map.1 (getF_isSome.1 (show (getF t p).isSome = true from hi))
    rw [← e]
    exact (((mayB_iff t).1 h).each g hg).1
  · exact nil_may

/-- What comes of trees with one path alone. -/
theorem alone_join {o a b : List File} (hm : may3 o a b = true) {p : ByteArray} (hp : p ∈ riseT (flatP [o, a, b])) :
    joinOf textM (aloneF o p) (aloneF a p) (aloneF b p) = if (joinF textM (atF o p) (atF a p) (atF b p)).2 = true then ((if (joinF textM (atF o p) (atF a p) (atF b p)).1.is = true then [⟨p, (joinF textM (atF o p) (atF a p) (atF b p)).1.data⟩] else []), []) else ([], [p]) := by
  obtain ⟨m1, m2, m3⟩ := (may3_iff _ _ _).1 hm
  have hm' : may3 (aloneF o p) (aloneF a p) (aloneF b p) = true := (may3_iff _ _ _).2 ⟨aloneF_may m1 p, aloneF_may m2 p, aloneF_may m3 p⟩
  have hps : riseT (flatP [aloneF o p, aloneF a p, aloneF b p]) = [p] := by
    refine strict_unique (riseT_strict _) (List.pairwise_singleton _ _) fun y => ?_
    rw [mem_flatP3, aloneF_paths, aloneF_paths, aloneF_paths, List.mem_singleton]
    rw [mem_flatP3] at hp
    constructor
    · rintro (h | h | h) <;> exact h.1
    · rintro rfl
      rcases hp with h | h | h
      · exact .inl ⟨rfl, h⟩
      · exact .inr (.inl ⟨rfl, h⟩)
      · exact .inr (.inr ⟨rfl, h⟩)
  have hg : gathF textM (fun _ => noFl) (aloneF o p) (aloneF a p) (aloneF b p) = if (joinF textM (atF o p) (atF a p) (atF b p)).2 = true then ((if (joinF textM (atF o p) (atF a p) (atF b p)).1.is = true then [⟨p, (joinF textM (atF o p) (atF a p) (atF b p)).1.data⟩] else []), []) else ([], [p]) := by
    unfold gathF
    rw [hps]
    show stepG textM (fun _ => noFl) (aloneF o p) (aloneF a p) (aloneF b p) ([], []) p = _
    unfold stepG
    rw [atF_alone, atF_alone, atF_alone]
    by_cases h : (joinF textM (atF o p) (atF a p) (atF b p)).2 = true
    · simp only [h, if_true, List.nil_append]
    · simp only [h, List.nil_append]
      rfl
  rw [joinOf_true hm', hg]
  by_cases h : (joinF textM (atF o p) (atF a p) (atF b p)).2 = true
  · rw [if_pos h]
    have hb : badF' ((if (joinF textM (atF o p) (atF a p) (atF b p)).1.is = true then [⟨p, (joinF textM (atF o p) (atF a p) (atF b p)).1.data⟩] else [] : List File), []) = [] := by
      unfold badF'
      split
      · rw [under_one]; rfl
      · rfl
    rw [hb]
    rfl
  · rw [if_neg h]
    rfl

/-- What came of the first k paths. -/
def cameK (o a b : List File) (k : Nat) : List File × List ByteArray := gathL textM (fun _ => noFl) o a b ((riseT (flatP [o, a, b])).take k)
theorem cameK_zero (o a b : List File) : cameK o a b 0 = ([], []) := rfl
theorem cameK_all {o a b : List File} {ps : List ByteArray} (hps : riseT (flatP [o, a, b]) = ps) {n : Nat} (h : ps.length = n) : cameK o a b n = gathF textM (fun _ => noFl) o a b := by
  subst hps
  unfold cameK gathF
  rw [List.take_of_length_le (by omega)]
/-- A round: the path conflicts, or comes to a file at most. -/
theorem cameK_step {o a b : List File} (hm : may3 o a b = true) {ps : List ByteArray} (hps : riseT (flatP [o, a, b]) = ps) {k : Nat} (hk : k < ps.length) :
    (joinOf textM (aloneF o ps[k]) (aloneF a ps[k]) (aloneF b ps[k]) = ([], [ps[k]]) ∧ (cameK o a b (k + 1)).1 = (cameK o a b k).1 ∧ (cameK o a b (k + 1)).2 ≠ [] ∧ hasB (joinOf textM o a b).2 ps[k] = true) ∨
    (∃ x, joinOf textM (aloneF o ps[k]) (aloneF a ps[k]) (aloneF b ps[k]) = (x, []) ∧ x.length ≤ 1 ∧ (cameK o a b (k + 1)).1 = (cameK o a b k).1 ++ x ∧ (cameK o a b (k + 1)).2 = (cameK o a b k).2) := by
  subst hps
  have hmem := List.getElem_mem hk
  have hs : cameK o a b (k + 1) = stepG textM (fun _ => noFl) o a b (cameK o a b k) (riseT (flatP [o, a, b]))[k] := by
    unfold cameK
    rw [take_snoc _ hk, gathL_snoc]
  have hj := alone_join hm hmem
  generalize (riseT (flatP [o, a, b]))[k] = p at hmem hs hj
  rw [hs]
  by_cases h : (joinF textM (atF o p) (atF a p) (atF b p)).2 = true
  · right
    rw [if_pos h] at hj
    refine ⟨_, hj, ?_, ?_, ?_⟩
    · split <;> simp
    · unfold stepG
      simp only [h, if_true]
    · unfold stepG
      simp only [h, if_true, List.append_nil]
  · left
    rw [if_neg h] at hj
    refine ⟨hj, ?_, ?_, ?_⟩
    · unfold stepG
      simp only [h]
      show _ ++ [] = _
      rw [List.append_nil]
    · unfold stepG
      simp only [h]
      simp
    · rw [hasB_iff]
      have hin : p ∈ badF' (gathF textM (fun _ => noFl) o a b) := by
        unfold badF'
        refine List.mem_append_left _ (List.mem_append_left _ ?_)
        unfold gathF
        rw [gathL_two]
        exact ⟨hmem, by simpa using h⟩
      rw [joinOf_true hm, if_pos (List.length_pos_of_mem hin)]
      exact (riseT_mem _ _).2 hin
/-- Behind all paths. -/
theorem each_end {o a b : List File} (hm : may3 o a b = true) :
    ((joinOf textM o a b).2 = [] ∧ (gathF textM (fun _ => noFl) o a b).2 = [] ∧ (gathF textM (fun _ => noFl) o a b).1 = (joinOf textM o a b).1) ∨
    ((joinOf textM o a b).2 ≠ [] ∧ (joinOf textM o a b).1 = [] ∧ ((gathF textM (fun _ => noFl) o a b).2 = [] → mayB (gathF textM (fun _ => noFl) o a b).1 = false)) := by
  rcases joinOf_cases hm with ⟨h1, h2⟩ | ⟨h1, h2⟩
  · refine .inr ⟨h1, h2, fun hg => ?_⟩
    cases hb : mayB (gathF textM (fun _ => noFl) o a b).1 with
    | false => rfl
    | true =>
      exfalso
      apply h1
      have ht := (mayB_iff _).1 hb
      rw [joinOf_true hm]
      have : badF' (gathF textM (fun _ => noFl) o a b) = [] := by
        unfold badF'
        rw [hg, tree_under ht, if_neg (by have := ht.few; omega)]
        rfl
      rw [this]
      rfl
  · obtain ⟨b1, _, _⟩ := badF_nil h2
    rw [h1]
    exact .inl ⟨rfl, b1, rfl⟩
theorem cameK_len (o a b : List File) (k : Nat) (h1 : o.length ≤ 1000) (h2 : a.length ≤ 1000) (h3 : b.length ≤ 1000) : (cameK o a b k).1.length ≤ 3000 := by
  have h := (gathL_len textM (fun _ => noFl) o a b ((riseT (flatP [o, a, b])).take k)).1
  have hr := riseT_length (flatP [o, a, b])
  have hf : (flatP [o, a, b]).length = o.length + (a.length + b.length) := by unfold flatP; simp
  rw [List.length_take] at h
  unfold cameK
  omega

end Go.Proofs.YtddooggkcdloeaaGreatDoor
