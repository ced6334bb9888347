/-
  Plain: changes that stand apart. cortegelaw9.JoinApart.
-/
import Derived.Test.YtddooggkcdloeaaGreatDoorSides9P
import Derived.Test.YtddooggkcdloeaaGreatDoorLaw9
namespace Go.Proofs.YtddooggkcdloeaaGreatDoor
open Go.RowKit
set_option linter.unusedVariables false
set_option linter.unusedSimpArgs false

/-- Files, a byte ahead of each path. -/
def preF (c : ByteArray) (t : List File) : List File := t.map fun f => ⟨c ++ f.path, f.data⟩
/-- Files put in, one by one. -/
def putL (t l : List File) : List File := l.foldl (fun t f => putF t f.path f.data) t
theorem putL_snoc (t l : List File) (f : File) : putL t (l ++ [f]) = putF (putL t l) f.path f.data := by simp [putL, List.foldl_append]
theorem putL_cons (t l : List File) (f : File) : putL t (f :: l) = putL (putF t f.path f.data) l := rfl
theorem putF_len (xs : List File) (p d : ByteArray) : (putF xs p d).length ≤ xs.length + 1 := by
  unfold putF
  rw [sortK_length, List.length_append, List.length_singleton]
  have := List.length_filter_le (fun f : File => !(f.path.toList == p.toList)) xs
  omega
theorem putF_mem {xs : List File} {p d : ByteArray} {f : File} (h : f ∈ putF xs p d) : f ∈ xs ∨ f = ⟨p, d⟩ := by
  unfold putF at h
  rw [(sortK_perm _ _).mem_iff, List.mem_append, List.mem_singleton] at h
  exact h.imp (fun h => (List.mem_filter.1 h).1) id
theorem putL_len : ∀ (l t : List File), (putL t l).length ≤ t.length + l.length
  | [], t => Nat.le_refl _
  | f :: l, t => by
    rw [putL_cons, List.length_cons]
    have h1 := putL_len l (putF t f.path f.data)
    have h2 := putF_len t f.path f.data
    omega
theorem putL_mem {f : File} : ∀ (l t : List File), f ∈ putL t l → f ∈ t ∨ f ∈ l
  | [], t => fun h => .inl h
  | g :: l, t => fun h => by
    rw [putL_cons] at h
    rcases putL_mem l _ h with h | h
    · rcases putF_mem h with h | h
      · exact .inl h
      · exact .inr (by rw [h]; exact List.mem_cons_self)
    · exact .inr (List.mem_cons_of_mem _ h)
theorem putL_str : ∀ (l t : List File), StrF t → StrF (putL t l)
  | [], t => fun h => h
  | g :: l, t => fun h => putL_str l _ (h.put _ _)
theorem getF_cons (f : File) (l : List File) (p : ByteArray) : getF (f :: l) p = if f.path = p then some f else getF l p := by
  unfold getF
  rw [List.find?_cons]
  by_cases h : f.path = p
  · rw [if_pos h, h]
    simp
  · have : (f.path.toList == p.toList) = false := by rw [toList_beq]; exact decide_eq_false h
    rw [this, if_neg h]
theorem getF_putL : ∀ (l t : List File), StrF t → (l.Pairwise fun a b => a.path ≠ b.path) → ∀ p, getF (putL t l) p = match getF l p with | some f => some f | none => getF t p
  | [], t, _, _, p => rfl
  | f :: l, t, ht, hl, p => by
    rw [List.pairwise_cons] at hl
    rw [putL_cons, getF_putL l _ (ht.put _ _) hl.2 p, getF_cons, ht.getF_put]
    by_cases h : f.path = p
    · rw [if_pos h, if_pos h.symm]
      have : getF l p = none := getF_none.2 fun g hg e => hl.1 g hg (h.trans e.symm)
      rw [this]
    · rw [if_neg h, if_neg fun e => h e.symm]

/-- The first byte. -/
def HeadB (x : UInt8) (p : ByteArray) : Prop := p.toList.head? = some x
theorem preF_head {c : ByteArray} {x : UInt8} (hc : c.toList = [x]) (t : List File) : ∀ f ∈ preF c t, HeadB x f.path := by
  intro f hf
  unfold preF at hf
  obtain ⟨g, _, rfl⟩ := List.mem_map.1 hf
  unfold HeadB
  dsimp only
  rw [toList_app, hc]
  rfl
theorem HeadB.one {x y : UInt8} {p : ByteArray} (h : HeadB x p) (k : HeadB y p) : x = y := by
  unfold HeadB at h k
  rw [h] at k
  injection k
theorem preF_apart {c : ByteArray} {t : List File} (h : StrF t) : (preF c t).Pairwise fun a b => a.path ≠ b.path := by
  unfold preF
  rw [List.pairwise_map]
  refine h.imp fun {a b} hab e => ?_
  have e' := congrArg ByteArray.toList e
  dsimp only at e'
  rw [toList_app, toList_app] at e'
  rw [toList_inj (List.append_cancel_left e'), ltB_irrefl] at hab
  cases hab
theorem under_head {x y : ByteArray} {c : UInt8} (h : underB y x = true) (hx : HeadB c x) : HeadB c y := by
  rw [underB_eq] at h
  unfold Lib.hasPrefix at h
  obtain ⟨t, ht⟩ := List.isPrefixOf_iff_prefix.1 h
  unfold HeadB at hx ⊢
  rw [← ht]
  cases hl : x.toList with
  | nil => rw [hl] at hx; cases hx
  | cons a r => rw [hl] at hx; exact hx
theorem tree_none {xs : List File} (h : Tree xs) {f g : File} (hf : f ∈ xs) (hg : g ∈ xs) : underB f.path g.path = false :=
  under_none (by rw [tree_under h]; exact fun h => nomatch h) hf hg
theorem atF_get {xs ys : List File} {p : ByteArray} (h : getF xs p = getF ys p) : atF xs p = atF ys p := by
  unfold atF getD
  rw [h]
theorem atF_none {xs : List File} {p : ByteArray} (h : getF xs p = none) : atF xs p = noFl := by
  unfold atF getD
  rw [h]
  rfl

def oB : ByteArray := ⟨#[111]⟩
def aB : ByteArray := ⟨#[97]⟩
def bB' : ByteArray := ⟨#[98]⟩
theorem oB_list : oB.toList = [111] := by decide +kernel
theorem aB_list : aB.toList = [97] := by decide +kernel
theorem bB_list : bB'.toList = [98] := by decide +kernel

section
variable {O A B : List File}
theorem apart_join (hA : StrF A) (hB : StrF B) (m1 : mayB (preF oB O) = true) (m2 : mayB (putL (preF oB O) (preF aB A)) = true) (m3 : mayB (putL (preF oB O) (preF bB' B)) = true) (hn : A.length + B.length + O.length ≤ 12) :
    joinOf textM (preF oB O) (putL (preF oB O) (preF aB A)) (putL (preF oB O) (preF bB' B)) = (putL (putL (preF oB O) (preF aB A)) (preF bB' B), []) := by
  have hO := preF_head oB_list O
  have hA' := preF_head aB_list A
  have hB' := preF_head bB_list B
  have pA := preF_apart (c := aB) hA
  have pB := preF_apart (c := bB') hB
  have lO : (preF oB O).length = O.length := by unfold preF; rw [List.length_map]
  have lA : (preF aB A).length = A.length := by unfold preF; rw [List.length_map]
  have lB : (preF bB' B).length = B.length := by unfold preF; rw [List.length_map]
  generalize preF oB O = base at *
  generalize preF aB A = PA at *
  generalize preF bB' B = PB at *
  have T1 := (mayB_iff _).1 m1
  have T2 := (mayB_iff _).1 m2
  have T3 := (mayB_iff _).1 m3
  have s1 : StrF base := T1.rise
  have s2 : StrF (putL base PA) := T2.rise
  have gx := getF_putL PA base s1 pA
  have gy := getF_putL PB base s1 pB
  have gb := getF_putL PB (putL base PA) s2 pB
  have sb := putL_str PB _ s2
  have inx : ∀ f ∈ putL (putL base PA) PB, ¬ HeadB 98 f.path → f ∈ putL base PA := fun f hf hh => by
    rcases putL_mem PB _ hf with h | h
    · exact h
    · exact absurd (hB' f h) hh
  have iny : ∀ f ∈ putL (putL base PA) PB, HeadB 98 f.path → f ∈ putL base PB := fun f hf hh => by
    have h1 := sb.get hf
    rw [gb] at h1
    refine T3.rise |> fun s3 : StrF (putL base PB) => s3.get_iff.2 ?_
    rw [gy]
    cases hg : getF PB f.path with
    | some g => rw [hg] at h1; exact h1
    | none =>
      rw [hg] at h1
      dsimp only at h1 ⊢
      rcases putL_mem PA base (getF_path h1).1 with h | h
      · exact absurd ((hO f h).one hh) (by decide)
      · exact absurd ((hA' f h).one hh) (by decide)
  have hhead : ∀ f ∈ putL (putL base PA) PB, ∃ x, HeadB x f.path := fun f hf => by
    rcases putL_mem PB _ hf with h | h
    · rcases putL_mem PA _ h with h | h
      · exact ⟨_, hO f h⟩
      · exact ⟨_, hA' f h⟩
    · exact ⟨_, hB' f h⟩
  have hin : ∀ f ∈ putL (putL base PA) PB, f ∈ putL base PA ∨ f ∈ putL base PB := fun f hf => by
    by_cases h : HeadB 98 f.path
    · exact .inr (iny f hf h)
    · exact .inl (inx f hf h)
  refine joinOf_is ((may3_iff _ _ _).2 ⟨m1, m2, m3⟩) ⟨?_, ?_, sb, ?_⟩ ?_ ?_
  · have h1 := putL_len PB (putL base PA)
    have h2 := putL_len PA base
    omega
  · intro f hf
    rcases hin f hf with h | h
    · exact T2.each f h
    · exact T3.each f h
  · refine List.pairwise_iff_getElem.2 fun i j hi hj _ => ?_
    have hf := List.getElem_mem hi
    have hg := List.getElem_mem hj
    generalize (putL (putL base PA) PB)[i] = f at hf
    generalize (putL (putL base PA) PB)[j] = g at hg
    cases hu : underB g.path f.path with
    | false => rfl
    | true =>
      obtain ⟨x, hx⟩ := hhead f hf
      have hx' := under_head hu hx
      by_cases h : x = 98
      · subst h
        have := tree_none T3 (iny g hg hx') (iny f hf hx)
        rw [hu] at this; cases this
      · have := tree_none T2 (inx g hg fun h' => h (hx'.one h')) (inx f hf fun h' => h (hx.one h'))
        rw [hu] at this; cases this
  · intro f hf
    rw [mem_flatP3]
    rcases hin f hf with h | h
    · exact .inr (.inl (List.mem_map_of_mem h))
    · exact .inr (.inr (List.mem_map_of_mem h))
  · intro p
    have qx := gx p
    have qy := gy p
    have qb := gb p
    cases hga : getF PA p with
    | some f =>
      obtain ⟨f1, f2⟩ := getF_path hga
      have hp := hA' f f1
      rw [f2] at hp
      have n1 : getF base p = none := getF_none.2 fun g hg e => by
        have := hO g hg
        rw [e] at this
        exact absurd (this.one hp) (by decide)
      have n2 : getF PB p = none := getF_none.2 fun g hg e => by
        have := hB' g hg
        rw [e] at this
        exact absurd (this.one hp) (by decide)
      rw [n2] at qy qb
      dsimp only at qy qb
      rw [n1] at qy
      rw [atF_none n1, atF_none qy, atF_get qb, join_left]
    | none =>
      rw [hga] at qx
      dsimp only at qx
      rw [atF_get qx, join_right]
      congr 1
      refine atF_get ?_
      rw [qy, qb]
      cases getF PB p with
      | some _ => rfl
      | none => exact qx.symm
end

end Go.Proofs.YtddooggkcdloeaaGreatDoor
