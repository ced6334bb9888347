/-
  Plain: how a pile of numbers tells a commit and all it came of, the youngest first.
-/
import Derived.Test.YtgjbfkaepalkiaaGreatDoorRef10
namespace Go.Proofs.YtgjbfkaepalkiaaGreatDoor
set_option linter.unusedVariables false
set_option linter.unusedSimpArgs false

/-- What is told is pre, last comes last (0: none), the pile is l. -/
structure AhInv (cs : List Cm) (n : Int) (pre : List Int) (last : Int) (l : List Int) : Prop where
  b : ∃ B : Nat, ((last = 0 ∧ (B : Int) = n ∧ pre = []) ∨ last = (B : Int) + 1) ∧ (∀ x ∈ l, 1 ≤ x ∧ (x ≤ B ∨ x = last)) ∧ l.length + 3 * B ≤ 1 + 3 * n.toNat ∧ (B : Int) ≤ n ∧
    aheadF cs n = pre ++ goA cs B (fun x => decide (x ∈ l))
  sorted : l.Pairwise (· ≥ ·)
/-- How far down. -/
def ahB (n last : Int) : Nat := if last = 0 then n.toNat else (last - 1).toNat
theorem ahB_of {n last : Int} {B : Nat} {p : Prop} (h : (last = 0 ∧ (B : Int) = n ∧ p) ∨ last = (B : Int) + 1) : ahB n last = B := by
  unfold ahB
  rcases h with ⟨h1, h2, _⟩ | h
  · rw [if_pos h1]; omega
  · rw [if_neg (by omega)]; omega
section
variable {cs : List Cm} {n last c : Int} {pre l r : List Int}
theorem AhInv.start (hn : (getC cs n).isSome = true) : AhInv cs n [] 0 [n] := by
  have h := (getC_isSome cs n).1 hn
  refine ⟨⟨n.toNat, .inl ⟨rfl, by omega, rfl⟩, fun x hx => ?_, by simp, by omega, ?_⟩, List.pairwise_singleton _ _⟩
  · rw [List.mem_singleton] at hx; subst hx; exact ⟨h.1, .inl (by omega)⟩
  · unfold aheadF
    rw [if_pos hn, List.nil_append]
    exact goA_congr fun x h1 h2 => by simp
theorem AhInv.len (h : AhInv cs n pre last l) : l.length ≤ 1 + 3 * n.toNat := by
  obtain ⟨⟨B, h1, h2, h3, h4, h5⟩, h6⟩ := h
  omega
theorem AhInv.done (h : AhInv cs n pre last []) : aheadF cs n = pre := by
  obtain ⟨⟨B, h1, h2, h3, h4, h5⟩, h6⟩ := h
  rw [h5, goA_none fun x _ _ => by simp, List.append_nil]
/-- One that was told just now. -/
theorem AhInv.again (h : AhInv cs n pre last (last :: r)) : AhInv cs n pre last r := by
  obtain ⟨⟨B, h1, h2, h3, h4, h5⟩, h6⟩ := h
  refine ⟨⟨B, h1, fun x hx => h2 x (List.mem_cons_of_mem _ hx), by rw [List.length_cons] at h3; omega, h4, ?_⟩, (List.pairwise_cons.1 h6).2⟩
  rw [h5]
  congr 1
  refine goA_congr fun x hx1 hx2 => ?_
  have hl := h2 last (List.mem_cons_self ..)
  have : x ≠ last := by
    rcases h1 with ⟨h1, _⟩ | h1
    · omega
    · omega
  simp [this]
theorem AhInv.told (h : AhInv cs n pre last (c :: r)) (hc : c ≠ last) : (pre ++ [c]) <+: aheadF cs n ∧ 1 ≤ c ∧ c ≤ n := by
  obtain ⟨⟨B, h1, h2, h3, h4, h5⟩, h6⟩ := h
  have hcb := h2 c (List.mem_cons_self ..)
  have hcB : c ≤ B := by rcases hcb.2 with h | h; exact h; exact absurd h hc
  obtain ⟨k, hk⟩ : ∃ k : Nat, c = (k : Int) + 1 := ⟨(c - 1).toNat, by omega⟩
  subst hk
  have hf := goA_first (cs := cs) (c := k) (k := B) (mk := fun x => decide (x ∈ ((k : Int) + 1) :: r)) (by omega) (by simp) fun x hx1 hx2 => by
    refine decide_eq_false fun hx => ?_
    rcases List.mem_cons.1 hx with hx | hx
    · omega
    · have : (k : Int) + 1 ≥ x := (List.pairwise_cons.1 h6).1 x hx
      omega
  rw [hf] at h5
  refine ⟨?_, by omega, by omega⟩
  rw [h5]
  exact ⟨goA cs k _, by rw [List.append_assoc]; rfl⟩
/-- One that is told now; behind it its parents are put. -/
theorem AhInv.step (hG : GoodR cs) (h : AhInv cs n pre last (c :: r)) (hc : c ≠ last) {l' : List Int} (hs : l'.Pairwise (· ≥ ·)) (hm : ∀ y, y ∈ l' ↔ y ∈ parentsC cs c ∨ y ∈ r) (hl : l'.length = r.length + (parentsC cs c).length) :
    AhInv cs n (pre ++ [c]) c l' ∧ 3 * ahB n c + l'.length < 3 * ahB n last + (c :: r).length := by
  obtain ⟨⟨B, h1, h2, h3, h4, h5⟩, h6⟩ := h
  have hcb := h2 c (List.mem_cons_self ..)
  have hcB : c ≤ B := by rcases hcb.2 with h | h; exact h; exact absurd h hc
  have hB := ahB_of h1
  obtain ⟨k, hk⟩ : ∃ k : Nat, c = (k : Int) + 1 := ⟨(c - 1).toNat, by omega⟩
  subst hk
  have hf := goA_first (cs := cs) (c := k) (k := B) (mk := fun x => decide (x ∈ ((k : Int) + 1) :: r)) (by omega) (by simp) fun x hx1 hx2 => by
    refine decide_eq_false fun hx => ?_
    rcases List.mem_cons.1 hx with hx | hx
    · omega
    · have : (k : Int) + 1 ≥ x := (List.pairwise_cons.1 h6).1 x hx
      omega
  have hp2 := parents_two hG ((k : Int) + 1)
  rw [List.length_cons] at h3 ⊢
  have hB2 : ahB n ((k : Int) + 1) = k := by unfold ahB; rw [if_neg (by omega)]; omega
  refine ⟨⟨⟨k, .inr rfl, fun x hx => ?_, by omega, by omega, ?_⟩, hs⟩, by omega⟩
  · rcases (hm x).1 hx with hx | hx
    · have := parents_lt hG hx; omega
    · have h7 := h2 x (List.mem_cons_of_mem _ hx)
      have h8 : (k : Int) + 1 ≥ x := (List.pairwise_cons.1 h6).1 x hx
      omega
  · rw [h5, hf, List.append_assoc]
    congr 1
    show _ :: _ = _ :: _
    congr 1
    refine goA_congr fun x hx1 hx2 => ?_
    have hne : x ≠ (k : Int) + 1 := by omega
    have := hm x
    by_cases ha : x ∈ parentsC cs ((k : Int) + 1) <;> by_cases hb : x ∈ r <;> simp [ha, hb, this, hne]
theorem AhInv.again_lt : 3 * ahB n last + r.length < 3 * ahB n last + (last :: r).length := by rw [List.length_cons]; omega
end

end Go.Proofs.YtgjbfkaepalkiaaGreatDoor
