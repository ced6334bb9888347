/-
  slices.Sort, slices.Compact at texts of one's own.
-/
import Derived.Test.YtddooggkcdloeaaGreatDoorConcat
import Derived.Test.YtddooggkcdloeaaGreatDoorShelf
import Derived.Sort.OwnSorted
namespace Go.Proofs.YtddooggkcdloeaaGreatDoor
open Go.RowKit
set_option linter.unusedVariables false
set_option linter.unusedSimpArgs false
attribute [local go_sem] Oper.semAt_some

abbrev bl (b : ByteArray) : List UInt8 := b.data.toList
abbrev lb (l : List UInt8) : ByteArray := ⟨l.toArray⟩
theorem lb_bl (b : ByteArray) : lb (bl b) = b := by cases b; simp [lb, bl]
theorem bl_lb (l : List UInt8) : bl (lb l) = l := by simp [lb, bl]
theorem flat_ES (xs : List ByteArray) : ES.flat xs = (xs.map bl).map encStr := by
  unfold El.flat
  induction xs with
  | nil => rfl
  | cons x xs ih =>
    rw [List.flatMap_cons, ih]
    show [Value.string x] ++ _ = encStr (bl x) :: _
    simp [encStr]

def sortT (xs : List ByteArray) : List ByteArray := ((xs.map bl).mergeSort fun x y => decide (x ≤ y)).map lb
def compactT (xs : List ByteArray) : List ByteArray := (Lib.compact (xs.map bl)).map lb
theorem sortT_bl (xs : List ByteArray) : (sortT xs).map bl = (xs.map bl).mergeSort fun x y => decide (x ≤ y) := by
  unfold sortT
  rw [List.map_map]
  conv => rhs; rw [← List.map_id ((xs.map bl).mergeSort fun x y => decide (x ≤ y))]
  exact List.map_congr_left fun x _ => bl_lb x
theorem compactT_bl (xs : List ByteArray) : (compactT xs).map bl = Lib.compact (xs.map bl) := by
  unfold compactT
  rw [List.map_map]
  conv => rhs; rw [← List.map_id (Lib.compact (xs.map bl))]
  exact List.map_congr_left fun x _ => bl_lb x
theorem sortT_length (xs : List ByteArray) : (sortT xs).length = xs.length := by
  have := congrArg List.length (sortT_bl xs)
  simpa using this

/-- slices.Sort at texts. -/
theorem sortS_calls (v : Value) (xs : List ByteArray) (w : World) (hO : Own ES 9 w v xs) (hb : xs.length ≤ 1000000) :
    Calls Tryz.prog 34 #[v] w fun e w' => (∃ r, e = .returned r) ∧ Own ES 9 w' v (sortT xs) ∧ Kp (fun k => v.ownBlock ≠ some k) w w' := by
  have hO2 := hO
  rcases hO.2 with ⟨rfl, hn⟩ | ⟨g, cap, cur, rfl, hbase, hg, h1, h2, h3, h4⟩
  · have hx : xs = [] := List.eq_nil_of_length_eq_zero hn
    subst hx
    refine (Tryz.slices_Sort_string_none none 0 w).mono ?_
    rintro e w' ⟨rfl, rfl⟩
    refine ⟨⟨_, rfl⟩, ?_, Kp.refl _ _⟩
    have : sortT [] = [] := List.eq_nil_of_length_eq_zero (by rw [sortT_length]; rfl)
    rw [this]; exact hO
  · have hlen : (xs.map bl).length = xs.length := List.length_map ..
    have hH : Sort.Holds encStr w g 0 (xs.map bl).toArray := holds_of_block hg (by rw [hlen, ← flat_ES]; simpa [ES] using h4)
    have hS := Tryz.slices_Sort_string g 0 cap (xs.map bl) w hH (Array.getElem?_eq_some_iff.1 hg).1 (by rw [hlen]; omega)
    rw [hlen] at hS
    refine hS.mono ?_
    rintro e w' ⟨rfl, n, os, rfl⟩
    refine ⟨⟨_, rfl⟩, ?_, (Kp.refl _ w).grown (grownBy_sorted _) fun k hk => .inr (by cases hk; simp [Value.ownBlock])⟩
    have := ownsRow_sorted (n := n) (os := os) (ss := xs.map bl) (ts := (xs.map bl).mergeSort fun x y => decide (x ≤ y)) (by simp) hbase hg (by rw [hlen]; exact h1) h2 (by simpa [ES] using h3)
    rw [hlen] at this
    unfold Own
    rw [flat_ES, sortT_bl, sortT_length]
    exact this

theorem compactT_length_le (xs : List ByteArray) : (compactT xs).length ≤ xs.length := by
  have := congrArg List.length (compactT_bl xs)
  rw [List.length_map] at this
  rw [this]
  unfold Lib.compact Lib.compactUpTo
  rw [List.length_map]
  refine Nat.le_trans (List.length_filter_le _ _) ?_
  simp

/-- slices.Compact at texts. -/
theorem compactS_calls (v : Value) (xs : List ByteArray) (n0 : Nat) (w : World) (hN : New ES 9 n0 w v xs) (hb : xs.length ≤ 1000000) :
    Calls Tryz.prog 35 #[v] w fun e w' => ∃ u, e = .returned u ∧ New ES 9 n0 w' u (compactT xs) ∧ Kp (fun k => v.ownBlock ≠ some k) w w' := by
  obtain ⟨hO, hn0⟩ := hN
  have hO2 := hO
  rcases hO.2 with ⟨rfl, hn⟩ | ⟨g, cap, cur, rfl, hbase, hg, h1, h2, h3, h4⟩
  · have hx : xs = [] := List.eq_nil_of_length_eq_zero hn
    subst hx
    refine (Tryz.slices_Compact_string_empty none 0 w).mono ?_
    rintro e w' ⟨rfl, rfl⟩
    refine ⟨_, rfl, ?_, Kp.refl _ _⟩
    have : compactT [] = [] := List.eq_nil_of_length_eq_zero (by have := compactT_length_le []; simpa using this)
    rw [this]; exact New.nil _ _ _
  · have hlen : (xs.map bl).length = xs.length := List.length_map ..
    have hH : Sort.Holds encStr w g 0 (xs.map bl).toArray := holds_of_block hg (by rw [hlen, ← flat_ES]; simpa [ES] using h4)
    have hC := Tryz.slices_Compact_string g 0 cap (xs.map bl) w hH (by rw [hlen]; omega) (by rw [hlen]; exact h1)
    rw [hlen] at hC
    have hcl := compactT_length_le xs
    have hcb := congrArg List.length (compactT_bl xs)
    rw [List.length_map] at hcb
    rw [← hcb] at hC
    refine hC.mono ?_
    rintro e w' ⟨rfl, q, rfl⟩
    have hts : (Lib.compact (xs.map bl) ++ List.replicate ((xs.map bl).length - (Lib.compact (xs.map bl)).length) []).length = (xs.map bl).length := by
      rw [List.length_append, List.length_replicate, ← hcb, hlen]; omega
    have hrow := ownsRow_sorted (n := q) (os := #[]) (ss := xs.map bl) hts hbase hg (by rw [hlen]; exact h1) h2 (by simpa [ES] using h3)
    have hgr := grownBy_sorted (w := w) (g := g) (n := q) (os := #[]) (Lib.compact (xs.map bl) ++ List.replicate ((xs.map bl).length - (Lib.compact (xs.map bl)).length) []).toArray
    rw [Sort.grow_empty, hlen, ← hcb] at hrow hgr
    refine ⟨_, rfl, ⟨?_, fun g' hg' => hn0 g' (by simpa [Value.ownBlock] using hg')⟩, (Kp.refl _ w).grown hgr fun k hk => .inr (by cases hk; simp [Value.ownBlock])⟩
    rcases hrow.2 with ⟨h0, _⟩ | ⟨g', cap', cur', hv, hb', hg', hn', hc', hs', ht'⟩
    · cases h0
    · injection hv with hv hv' hv''
      injection hv with hv
      injection hv with hv
      subst hv hv''
      refine ⟨ES.flat_length _, .inr ⟨g, cap, cur', rfl, hb', hg', by omega, hc', by simpa [ES] using hs', ?_⟩⟩
      have h5 := congrArg (List.take ((compactT xs).length)) ht'
      rw [List.take_take, List.map_append, Nat.mul_one] at h5
      show List.take ((compactT xs).length * 1) cur'.toList = ES.flat (compactT xs)
      rw [flat_ES, compactT_bl, Nat.mul_one]
      rw [Nat.min_eq_left (by omega)] at h5
      rw [h5, List.take_left' (by rw [List.length_map, hcb])]

end Go.Proofs.YtddooggkcdloeaaGreatDoor
