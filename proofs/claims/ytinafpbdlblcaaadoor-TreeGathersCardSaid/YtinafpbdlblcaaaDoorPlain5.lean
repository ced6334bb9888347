/-
  Plain: how many paths were changed; how many paths there are.
-/
import Derived.Test.YtinafpbdlblcaaaDoorPlain4
namespace Go.Proofs.YtinafpbdlblcaaaDoor
open Go.RowKit
set_option linter.unusedVariables false
set_option linter.unusedSimpArgs false

theorem paths_left (a b : List File) (ha : StrF a) : a.map File.path = (riseT (flatP [a, b])).filter fun p => (getF a p).isSome :=
  strict_unique ha.paths ((riseT_strict _).sublist List.filter_sublist) fun y => by
    rw [List.mem_filter, mem_flatP2, getF_isSome]
    exact ⟨fun h => ⟨.inl h, h⟩, fun h => h.2⟩
theorem paths_right (a b : List File) (hb : StrF b) : b.map File.path = (riseT (flatP [a, b])).filter fun p => (getF b p).isSome :=
  strict_unique hb.paths ((riseT_strict _).sublist List.filter_sublist) fun y => by
    rw [List.mem_filter, mem_flatP2, getF_isSome]
    exact ⟨fun h => ⟨.inr h, h⟩, fun h => h.2⟩
theorem count_left (a b : List File) (ha : StrF a) (Q : ByteArray → Bool) : a.countP (fun f => Q f.path) = (riseT (flatP [a, b])).countP fun p => Q p && (getF a p).isSome := by
  rw [← List.countP_filter, ← paths_left a b ha, List.countP_map]; rfl
theorem count_right (a b : List File) (hb : StrF b) (Q : ByteArray → Bool) : b.countP (fun f => Q f.path) = (riseT (flatP [a, b])).countP fun p => Q p && (getF b p).isSome := by
  rw [← List.countP_filter, ← paths_right a b hb, List.countP_map]; rfl
theorem count_ofF (a b : List File) (Q : Ch → Bool) : (ofF a b).countP Q = (riseT (flatP [a, b])).countP fun p => Q (chg a b p) && diffB (chg a b p) := by
  unfold ofF ofL
  rw [List.countP_filter, List.countP_map]; rfl
theorem length_ofF (a b : List File) : (ofF a b).length = (riseT (flatP [a, b])).countP fun p => diffB (chg a b p) := by
  unfold ofF ofL
  rw [← List.countP_eq_length_filter, List.countP_map]; rfl

def sameQ (b : List File) (f : File) : Bool := (getF b f.path).isSome && ((getD b f.path).toList == f.data.toList)
def goneQ (b : List File) (f : File) : Bool := !(getF b f.path).isSome
def leftC (c : Ch) : Bool := c.was && !c.is
def putC (c : Ch) : Bool := c.is && !c.was

theorem left_count (a b : List File) (ha : StrF a) : a.countP (goneQ b) = (ofF a b).countP leftC := by
  rw [show goneQ b = fun f : File => (fun p => !(getF b p).isSome) f.path from rfl, count_left a b ha (fun p => !(getF b p).isSome), count_ofF]
  refine List.countP_congr fun p _ => ?_
  show ((!(getF b p).isSome) && (getF a p).isSome) = true ↔ (leftC (chg a b p) && diffB (chg a b p)) = true
  unfold leftC diffB chg
  dsimp only
  cases (getF a p).isSome <;> cases (getF b p).isSome <;> simp
theorem put_count (a b : List File) (hb : StrF b) : b.countP (goneQ a) = (ofF a b).countP putC := by
  rw [show goneQ a = fun f : File => (fun p => !(getF a p).isSome) f.path from rfl, count_right a b hb (fun p => !(getF a p).isSome), count_ofF]
  refine List.countP_congr fun p _ => ?_
  show ((!(getF a p).isSome) && (getF b p).isSome) = true ↔ (putC (chg a b p) && diffB (chg a b p)) = true
  unfold putC diffB chg
  dsimp only
  cases (getF a p).isSome <;> cases (getF b p).isSome <;> simp
theorem same_count (a b : List File) (ha : StrF a) : (ofF a b).length + a.countP (sameQ b) = (riseT (flatP [a, b])).length := by
  have h1 : a.countP (sameQ b) = a.countP fun f => (fun p => (getF b p).isSome && ((getD b p).toList == (getD a p).toList)) f.path := by
    refine List.countP_congr fun f hf => ?_
    have hd : getD a f.path = f.data := by unfold getD; rw [ha.get hf]; rfl
    show _ ↔ ((getF b f.path).isSome && ((getD b f.path).toList == (getD a f.path).toList)) = true
    rw [hd]; rfl
  rw [h1, count_left a b ha (fun p => (getF b p).isSome && ((getD b p).toList == (getD a p).toList)), length_ofF, List.length_eq_countP_add_countP (fun p => diffB (chg a b p))]
  congr 1
  refine List.countP_congr fun p hp => ?_
  rw [mem_flatP2, ← getF_isSome, ← getF_isSome] at hp
  have hbe : ((getD b p).toList == (getD a p).toList) = ((getD a p).toList == (getD b p).toList) := Bool.beq_comm
  show ((getF b p).isSome && ((getD b p).toList == (getD a p).toList) && (getF a p).isSome) = true ↔ _
  unfold diffB chg
  dsimp only
  rw [hbe]
  revert hp
  cases (getF a p).isSome <;> cases (getF b p).isSome <;> cases ((getD a p).toList == (getD b p).toList) <;> simp
theorem ofF_each {a b : List File} {c : Ch} (h : c ∈ ofF a b) : (c.was = true ∨ c.is = true) ∧ (c.was = false → c.old = ⟨#[]⟩) ∧ (c.is = false → c.new = ⟨#[]⟩) := by
  obtain ⟨h1, h2, h3, h4⟩ := ofF_fits h
  have hm := (ofF_mem h).2.2
  rw [mem_flatP2, ← getF_isSome, ← getF_isSome, h1, h3] at hm
  refine ⟨hm, fun e => ?_, fun e => ?_⟩
  · rw [← h2]; exact getD_none (h1.trans e)
  · rw [← h4]; exact getD_none (h3.trans e)
theorem ofF_nil_left (a : List File) (ha : StrF a) : (ofF [] a).length = a.length := by
  have hp : a.map File.path = riseT (flatP [[], a]) := strict_unique ha.paths (riseT_strict _) fun y => by rw [mem_flatP2]; simp
  have hl : (riseT (flatP [[], a])).length = a.length := by rw [← hp, List.length_map]
  rw [length_ofF, ← hl]
  refine List.countP_eq_length.2 fun p hm => ?_
  rw [← hp, ← getF_isSome] at hm
  unfold diffB chg
  dsimp only
  rw [hm]; rfl
theorem ofF_nil_right (a : List File) (ha : StrF a) : (ofF a []).length = a.length := by
  rw [ofF_turn [] a, List.length_map, ofF_nil_left a ha]

/-! ### Paths -/
theorem paths_count (t u : List File) (ht : StrF t) (hu : StrF u) : (riseT (flatP [t, u])).length = t.length + u.countP (goneQ t) := by
  rw [show goneQ t = fun f : File => (fun p => !(getF t p).isSome) f.path from rfl, count_right t u hu (fun p => !(getF t p).isSome), List.length_eq_countP_add_countP (fun p => (getF t p).isSome)]
  have h1 : (riseT (flatP [t, u])).countP (fun p => (getF t p).isSome) = t.length := by
    rw [List.countP_eq_length_filter, ← paths_left t u ht, List.length_map]
  rw [h1]
  congr 1
  refine List.countP_congr fun p hp => ?_
  rw [mem_flatP2, ← getF_isSome, ← getF_isSome] at hp
  revert hp
  cases (getF t p).isSome <;> cases (getF u p).isSome <;> simp
theorem paths_three (t u : List File) : riseT (flatP [u, t, t]) = riseT (flatP [t, u]) := strict_unique (riseT_strict _) (riseT_strict _) fun y => by
  rw [mem_flatP2, mem_flatP3]
  constructor
  · rintro (h | h | h)
    · exact .inr h
    · exact .inl h
    · exact .inl h
  · rintro (h | h)
    · exact .inr (.inl h)
    · exact .inl h

end Go.Proofs.YtinafpbdlblcaaaDoor
