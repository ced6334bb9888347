/-
  Plain: sorted and compacted, or put in one by one: the same texts.
-/
import Derived.Test.YtddooggkcdloeaaGreatDoorRise
namespace Go.Proofs.YtddooggkcdloeaaGreatDoor
open Go.RowKit
set_option linter.unusedVariables false
set_option linter.unusedSimpArgs false

theorem strict_unique : ∀ {l m : List ByteArray}, StrictT l → StrictT m → (∀ y, y ∈ l ↔ y ∈ m) → l = m
  | [], [], _, _, _ => rfl
  | [], b :: m, _, _, h => by have := (h b).2 (by simp); simp at this
  | a :: l, [], _, _, h => by have := (h a).1 (by simp); simp at this
  | a :: l, b :: m, hl, hm, h => by
    have ha := List.pairwise_cons.1 hl
    have hb := List.pairwise_cons.1 hm
    have hab : a = b := by
      rcases List.mem_cons.1 ((h a).1 (by simp)) with e | e
      · exact e
      · rcases List.mem_cons.1 ((h b).2 (by simp)) with e' | e'
        · exact e'.symm
        · have h1 := ha.1 b e'
          have h2 := hb.1 a e
          rw [ltB_asymm h1] at h2; cases h2
    subst hab
    congr 1
    refine strict_unique ha.2 hb.2 fun y => ?_
    constructor
    · intro hy
      rcases List.mem_cons.1 ((h y).1 (by simp [hy])) with e | e
      · subst e; have := ha.1 _ hy; rw [ltB_irrefl] at this; cases this
      · exact e
    · intro hy
      rcases List.mem_cons.1 ((h y).2 (by simp [hy])) with e | e
      · subst e; have := hb.1 _ hy; rw [ltB_irrefl] at this; cases this
      · exact e

theorem ltB_bl {a b : ByteArray} : ltB a b = true ↔ bl a < bl b := by
  rw [ltB_iff, Lib.toList_data, Lib.toList_data]

/-- Of rising texts those that are no repetition. -/
theorem compactUpTo_facts (d : Array (List UInt8)) (hd : ∀ i j, i ≤ j → j < d.size → d[i]! ≤ d[j]!) : ∀ m, m ≤ d.size →
    (Lib.compactUpTo d m).Pairwise (· < ·) ∧ (∀ y, y ∈ Lib.compactUpTo d m ↔ ∃ i, i < m ∧ d[i]! = y) := by
  intro m
  induction m with
  | zero => intro _; exact ⟨by simp [Lib.compactUpTo], fun y => by simp [Lib.compactUpTo]⟩
  | succ m ih =>
    intro hm
    obtain ⟨h1, h2⟩ := ih (by omega)
    rw [Lib.compactUpTo_succ]
    by_cases hk : Lib.keeps d m = true
    · rw [if_pos hk]
      refine ⟨List.pairwise_append.2 ⟨h1, List.pairwise_singleton _ _, fun x hx y hy => ?_⟩, fun y => ?_⟩
      · rw [List.mem_singleton.1 hy]
        obtain ⟨i, hi, rfl⟩ := (h2 x).1 hx
        have hne : d[m]! ≠ d[m - 1]! := by
          unfold Lib.keeps at hk
          rcases of_decide_eq_true hk with h | h
          · omega
          · exact h
        have h3 : d[i]! ≤ d[m - 1]! := hd i (m - 1) (by omega) (by omega)
        have h4 : d[m - 1]! ≤ d[m]! := hd (m - 1) m (by omega) (by omega)
        have h5 : d[m - 1]! < d[m]! := by
          rcases List.le_iff_lt_or_eq.1 h4 with h | h
          · exact h
          · exact absurd h.symm hne
        exact List.lt_of_le_of_lt h3 h5
      · rw [List.mem_append, h2, List.mem_singleton]
        constructor
        · rintro (⟨i, hi, rfl⟩ | rfl)
          · exact ⟨i, by omega, rfl⟩
          · exact ⟨m, by omega, rfl⟩
        · rintro ⟨i, hi, rfl⟩
          by_cases e : i = m
          · subst e; exact .inr rfl
          · exact .inl ⟨i, by omega, rfl⟩
    · rw [if_neg hk, List.append_nil]
      refine ⟨h1, fun y => ?_⟩
      rw [h2]
      have he : m ≠ 0 ∧ d[m]! = d[m - 1]! := by
        unfold Lib.keeps at hk
        simp only [decide_eq_true_eq, not_or, Decidable.not_not, ne_eq] at hk
        exact hk
      constructor
      · rintro ⟨i, hi, rfl⟩; exact ⟨i, by omega, rfl⟩
      · rintro ⟨i, hi, rfl⟩
        by_cases e : i = m
        · subst e; exact ⟨i - 1, by omega, he.2.symm⟩
        · exact ⟨i, by omega, rfl⟩

theorem compact_sorted (zs : List (List UInt8)) (h : zs.Pairwise (· ≤ ·)) : (Lib.compact zs).Pairwise (· < ·) ∧ ∀ y, y ∈ Lib.compact zs ↔ y ∈ zs := by
  have := compactUpTo_facts zs.toArray (by
    intro i j hij hj
    simp only [List.size_toArray] at hj
    rw [getElem!_pos _ i (by simpa using Nat.lt_of_le_of_lt hij hj), getElem!_pos _ j (by simpa using hj)]
    by_cases e : i = j
    · subst e; exact List.le_refl _
    · exact List.pairwise_iff_getElem.1 h i j (by omega) hj (by omega)) zs.length (by simp)
  refine ⟨this.1, fun y => (this.2 y).trans ?_⟩
  constructor
  · rintro ⟨i, hi, rfl⟩
    rw [getElem!_pos _ i (by simpa using hi)]
    simp
  · intro hy
    obtain ⟨i, hi, rfl⟩ := List.mem_iff_getElem.1 hy
    exact ⟨i, hi, by rw [getElem!_pos _ i (by simpa using hi)]; simp⟩

theorem paths_rise (l : List ByteArray) : compactT (sortT l) = riseT l := by
  have hs : ((l.map bl).mergeSort fun x y => decide (x ≤ y)).Pairwise (· ≤ ·) := by
    have := List.pairwise_mergeSort (le := fun x y : List UInt8 => decide (x ≤ y)) (fun a b c h1 h2 => decide_eq_true (List.le_trans (of_decide_eq_true h1) (of_decide_eq_true h2))) (fun a b => by
      rcases List.le_total a b with h | h
      · simp [h]
      · simp [h]) (l.map bl)
    exact this.imp fun h => of_decide_eq_true h
  obtain ⟨h1, h2⟩ := compact_sorted _ hs
  rw [← sortT_bl] at h1 h2
  refine strict_unique ?_ (riseT_strict l) fun y => ?_
  · unfold compactT
    refine List.pairwise_map.2 (h1.imp fun {a b} hab => ?_)
    rw [ltB_bl, bl_lb, bl_lb]; exact hab
  · rw [riseT_mem]
    unfold compactT
    rw [List.mem_map]
    constructor
    · rintro ⟨z, hz, rfl⟩
      have := (h2 z).1 hz
      rw [sortT_bl, List.mem_mergeSort, List.mem_map] at this
      obtain ⟨b, hb, rfl⟩ := this
      rw [lb_bl]; exact hb
    · intro hy
      refine ⟨bl y, (h2 _).2 ?_, lb_bl y⟩
      rw [sortT_bl, List.mem_mergeSort]
      exact List.mem_map_of_mem hy
theorem pathsF_rise (xss : List (List File)) : pathsF xss = riseT (flatP xss) := paths_rise _

end Go.Proofs.YtddooggkcdloeaaGreatDoor
