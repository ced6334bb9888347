/-
  Plain: rising rows of files. Plain: what join.Of and join.Virtual answer, whichever change is which.
-/
import Derived.Test.YtgjbfkaepalkiaaGreatDoorPlain2
import Derived.Test.YtgjbfkaepalkiaaGreatDoorSameX
import Derived.Test.YtgjbfkaepalkiaaGreatDoorSwapM
namespace Go.Proofs.YtgjbfkaepalkiaaGreatDoor
open Go.RowKit
set_option linter.unusedVariables false
set_option linter.unusedSimpArgs false

/-- Files that rise by their paths. -/
abbrev StrF (xs : List File) : Prop := xs.Pairwise fun a b => ltB a.path b.path = true
theorem StrF.riseK {xs : List File} (h : StrF xs) : RiseK File.path xs := h.imp fun hab => ltB_asymm hab
theorem StrF.drop {xs : List File} (h : StrF xs) (p : ByteArray) : StrF (dropF xs p) := h.sublist (dropF_sub xs p)
theorem StrF.put_eq {xs : List File} (h : StrF xs) (p d : ByteArray) : putF xs p d = insK File.path ⟨p, d⟩ (dropF xs p) := by
  rw [putF_eq, sortK_of_rise _ _ (h.drop p).riseK]
theorem StrF.paths {xs : List File} (h : StrF xs) : StrictT (xs.map File.path) := List.pairwise_map.2 h
theorem StrF.apart {xs : List File} (h : StrF xs) {f g : File} (hf : f ∈ xs) (hg : g ∈ xs) (e : f.path = g.path) : f = g := by
  obtain ⟨s, t, rfl⟩ := List.append_of_mem hf
  have h1 := List.pairwise_append.1 h
  have h2 := List.pairwise_cons.1 h1.2.1
  rcases List.mem_append.1 hg with hg | hg
  · have := h1.2.2 g hg f (by simp)
    rw [e, ltB_irrefl] at this; cases this
  · rcases List.mem_cons.1 hg with hg | hg
    · exact hg.symm
    · have := h2.1 g hg
      rw [e, ltB_irrefl] at this; cases this
theorem StrF.insK {xs : List File} (h : StrF xs) (f : File) (hf : ∀ g ∈ xs, g.path ≠ f.path) : StrF (insK File.path f xs) := by
  have h1 : RiseK File.path (Go.Proofs.YtgjbfkaepalkiaaGreatDoor.insK File.path f xs) := insK_rise File.path f h.riseK
  have hne : (Go.Proofs.YtgjbfkaepalkiaaGreatDoor.insK File.path f xs).Pairwise fun a b => a.path ≠ b.path := by
    refine (insK_perm File.path f xs).symm.pairwise ?_ fun {a b} hab e => hab e.symm
    refine List.pairwise_cons.2 ⟨fun g hg e => hf g hg e.symm, h.imp fun {a b} hab e => ?_⟩
    rw [e, ltB_irrefl] at hab; cases hab
  refine (h1.and hne).imp fun {a b} hab => ?_
  cases k : ltB a.path b.path with
  | true => rfl
  | false => exact absurd (ltB_tri k hab.1) hab.2
theorem StrF.put {xs : List File} (h : StrF xs) (p d : ByteArray) : StrF (putF xs p d) := by
  rw [h.put_eq]
  exact (h.drop p).insK _ fun g hg => (dropF_mem.1 hg).2
theorem StrF.put_mem {xs : List File} (h : StrF xs) {p d : ByteArray} {f : File} : f ∈ putF xs p d ↔ f = ⟨p, d⟩ ∨ (f ∈ xs ∧ f.path ≠ p) := by
  rw [h.put_eq, insK_mem, dropF_mem]
theorem getF_path {xs : List File} {p : ByteArray} {f : File} (h : getF xs p = some f) : f ∈ xs ∧ f.path = p := by
  unfold getF at h
  refine ⟨List.mem_of_find?_eq_some h, ?_⟩
  have := List.find?_some h
  exact toList_inj (beq_iff_eq.1 this)
theorem StrF.get {xs : List File} (h : StrF xs) {f : File} (hf : f ∈ xs) : getF xs f.path = some f := by
  cases hg : getF xs f.path with
  | none =>
    unfold getF at hg
    rw [List.find?_eq_none] at hg
    exact absurd (by simp) (hg f hf)
  | some g =>
    obtain ⟨h1, h2⟩ := getF_path hg
    rw [h.apart h1 hf h2]
theorem StrF.get_iff {xs : List File} (h : StrF xs) {f : File} : f ∈ xs ↔ getF xs f.path = some f := ⟨h.get, fun e => (getF_path e).1⟩
theorem getF_none {xs : List File} {p : ByteArray} : getF xs p = none ↔ ∀ f ∈ xs, f.path ≠ p := by
  unfold getF
  rw [List.find?_eq_none]
  constructor
  · intro h f hf e; exact h f hf (by rw [e]; simp)
  · intro h f hf e; exact h f hf (toList_inj (beq_iff_eq.1 e))
theorem getF_isSome {xs : List File} {p : ByteArray} : (getF xs p).isSome = true ↔ p ∈ xs.map File.path := by
  cases h : getF xs p with
  | none =>
    have := getF_none.1 h
    simp only [Option.isSome_none, Bool.false_eq_true, false_iff, List.mem_map, not_exists, not_and]
    exact this
  | some f =>
    obtain ⟨h1, h2⟩ := getF_path h
    simp only [Option.isSome_some, true_iff, List.mem_map]
    exact ⟨f, h1, h2⟩
theorem StrF.ext {xs ys : List File} (h : StrF xs) (k : StrF ys) (e : ∀ f, f ∈ xs ↔ f ∈ ys) : xs = ys := by
  have hp : xs.map File.path = ys.map File.path := strict_unique h.paths k.paths fun y => by
    simp only [List.mem_map]
    exact ⟨fun ⟨f, hf, hy⟩ => ⟨f, (e f).1 hf, hy⟩, fun ⟨f, hf, hy⟩ => ⟨f, (e f).2 hf, hy⟩⟩
  have hl : xs.length = ys.length := by have := congrArg List.length hp; simpa using this
  refine List.ext_getElem hl fun i h1 h2 => ?_
  have hpi : xs[i].path = ys[i].path := by
    have := List.getElem_of_eq hp (i := i) (by simpa using h1)
    simpa using this
  exact k.apart ((e _).1 (List.getElem_mem h1)) (List.getElem_mem h2) hpi
theorem StrF.ext_get {xs ys : List File} (h : StrF xs) (k : StrF ys) (e : ∀ p, getF xs p = getF ys p) : xs = ys :=
  h.ext k fun f => by rw [h.get_iff, k.get_iff, e]
theorem StrF.getF_put {xs : List File} (h : StrF xs) (p d q : ByteArray) : getF (putF xs p d) q = if q = p then some ⟨p, d⟩ else getF xs q := by
  by_cases hq : q = p
  · rw [if_pos hq, hq]
    exact (h.put p d).get (f := ⟨p, d⟩) (h.put_mem.2 (.inl rfl))
  · rw [if_neg hq]
    cases hg : getF xs q with
    | none =>
      rw [getF_none] at hg ⊢
      intro f hf e
      rcases h.put_mem.1 hf with rfl | hf
      · exact hq e.symm
      · exact hg f hf.1 e
    | some f =>
      obtain ⟨h1, h2⟩ := getF_path hg
      subst h2
      exact (h.put p d).get (h.put_mem.2 (.inr ⟨h1, hq⟩))
theorem StrF.getF_drop {xs : List File} (h : StrF xs) (p q : ByteArray) : getF (dropF xs p) q = if q = p then none else getF xs q := by
  by_cases hq : q = p
  · rw [if_pos hq, hq, Go.Proofs.YtgjbfkaepalkiaaGreatDoor.getF_drop]
  · rw [if_neg hq]
    cases hg : getF xs q with
    | none =>
      rw [getF_none] at hg ⊢
      intro f hf e
      exact hg f (dropF_mem.1 hf).1 e
    | some f =>
      obtain ⟨h1, h2⟩ := getF_path hg
      subst h2
      exact (h.drop p).get (dropF_mem.2 ⟨h1, hq⟩)
theorem getF_eq (xs : List File) (p : ByteArray) : getF xs p = if (getF xs p).isSome then some ⟨p, getD xs p⟩ else none := by
  cases h : getF xs p with
  | none => rfl
  | some f =>
    obtain ⟨_, h2⟩ := getF_path h
    unfold getD
    rw [h, ← h2]; rfl
theorem getF_congr {xs ys : List File} {p : ByteArray} (h1 : (getF xs p).isSome = (getF ys p).isSome) (h2 : getD xs p = getD ys p) : getF xs p = getF ys p := by
  rw [getF_eq xs, getF_eq ys, h1, h2]
theorem getD_none {xs : List File} {p : ByteArray} (h : (getF xs p).isSome = false) : getD xs p = ⟨#[]⟩ := by
  unfold getD
  cases hg : getF xs p with
  | none => rfl
  | some f => rw [hg] at h; cases h
theorem mem_flatP2 (a b : List File) (p : ByteArray) : p ∈ riseT (flatP [a, b]) ↔ p ∈ a.map File.path ∨ p ∈ b.map File.path := by
  rw [riseT_mem]
  unfold flatP
  simp
theorem mem_flatP3 (a b c : List File) (p : ByteArray) : p ∈ riseT (flatP [a, b, c]) ↔ p ∈ a.map File.path ∨ p ∈ b.map File.path ∨ p ∈ c.map File.path := by
  rw [riseT_mem]
  unfold flatP
  simp

end Go.Proofs.YtgjbfkaepalkiaaGreatDoor

namespace Go.Proofs.YtgjbfkaepalkiaaGreatDoor
open Go.RowKit
set_option linter.unusedVariables false
set_option linter.unusedSimpArgs false

theorem flB_ne {x y : Fl} (h : ¬ x = y) : flB x y = false := Bool.eq_false_iff.2 fun e => h ((flB_iff _ _).1 e)
theorem flB_eq (x : Fl) : flB x x = true := (flB_iff _ _).2 rfl
theorem joinF_swap (o a b : Fl) : joinF textM o b a = joinF textM o a b := by
  by_cases h1 : a = b
  · rw [h1]
  · have n1 := flB_ne h1
    have n1' : flB b a = false := flB_ne fun e => h1 e.symm
    unfold joinF
    by_cases h2 : b = o
    · have n3 : flB a o = false := flB_ne fun e => h1 (e.trans h2.symm)
      rw [n1, n1', n3, (flB_iff b o).2 h2]
      simp
    · have n2 := flB_ne h2
      rw [n1, n1', n2]
      by_cases h3 : a = o
      · rw [(flB_iff a o).2 h3]
        simp
      · rw [flB_ne h3, textM_swap, Bool.or_comm (!b.is)]
        rfl
theorem flat_swap (o a b : List File) : riseT (flatP [o, b, a]) = riseT (flatP [o, a, b]) := by
  refine strict_unique (riseT_strict _) (riseT_strict _) fun y => ?_
  rw [mem_flatP3, mem_flatP3]
  constructor
  · rintro (h | h | h)
    · exact .inl h
    · exact .inr (.inr h)
    · exact .inr (.inl h)
  · rintro (h | h | h)
    · exact .inl h
    · exact .inr (.inr h)
    · exact .inr (.inl h)
theorem gathF_swap (oth : Fl → Fl) (o a b : List File) : gathF textM oth o b a = gathF textM oth o a b := by
  unfold gathF
  rw [flat_swap]
  have : stepG textM oth o b a = stepG textM oth o a b := by
    funext s p
    unfold stepG
    rw [joinF_swap]
  unfold gathL
  rw [this]
theorem may3_swap (o a b : List File) : may3 o b a = may3 o a b := by
  unfold may3
  rw [Bool.and_comm (mayB b)]
theorem joinOf_swap (o a b : List File) : joinOf textM o b a = joinOf textM o a b := by
  unfold joinOf
  rw [may3_swap, gathF_swap]
theorem virtOf_swap (o a b : List File) : virtOf textM o b a = virtOf textM o a b := by
  unfold virtOf
  rw [may3_swap, gathF_swap]

/-- What becomes of a path. -/
def resF (m : Mrg) (oth : Fl → Fl) (o a b : List File) (p : ByteArray) : Fl := if (joinF m (atF o p) (atF a p) (atF b p)).2 = true then (joinF m (atF o p) (atF a p) (atF b p)).1 else oth (atF o p)
theorem stepG_eq (m : Mrg) (oth : Fl → Fl) (o a b : List File) (s : List File × List ByteArray) (p : ByteArray) : stepG m oth o a b s p = (s.1 ++ (if (resF m oth o a b p).is = true then [⟨p, (resF m oth o a b p).data⟩] else []), s.2 ++ (if (joinF m (atF o p) (atF a p) (atF b p)).2 = true then [] else [p])) := rfl
theorem gathL_mem (m : Mrg) (oth : Fl → Fl) (o a b : List File) (ps : List ByteArray) (f : File) : f ∈ (gathL m oth o a b ps).1 ↔ f.path ∈ ps ∧ (resF m oth o a b f.path).is = true ∧ f.data = (resF m oth o a b f.path).data := by
  refine snocInd (p := fun ps => f ∈ (gathL m oth o a b ps).1 ↔ f.path ∈ ps ∧ (resF m oth o a b f.path).is = true ∧ f.data = (resF m oth o a b f.path).data) ?_ (fun l x ih => ?_) ps
  · constructor
    · intro h; cases h
    · rintro ⟨h, _⟩; cases h
  · rw [gathL_snoc, stepG_eq]
    simp only [List.mem_append, ih, List.mem_singleton]
    constructor
    · rintro (h | h)
      · exact ⟨.inl h.1, h.2⟩
      · split at h
        · rename_i hi
          rw [List.mem_singleton.1 h]
          exact ⟨.inr rfl, hi, rfl⟩
        · cases h
    · rintro ⟨h | h, h2, h3⟩
      · exact .inl ⟨h, h2, h3⟩
      · right
        subst h
        rw [if_pos h2, List.mem_singleton]
        cases f
        dsimp only at h3 ⊢
        rw [h3]
theorem gathL_two (m : Mrg) (oth : Fl → Fl) (o a b : List File) (ps : List ByteArray) (p : ByteArray) : p ∈ (gathL m oth o a b ps).2 ↔ p ∈ ps ∧ (joinF m (atF o p) (atF a p) (atF b p)).2 = false := by
  refine snocInd (p := fun ps => p ∈ (gathL m oth o a b ps).2 ↔ p ∈ ps ∧ (joinF m (atF o p) (atF a p) (atF b p)).2 = false) ?_ (fun l x ih => ?_) ps
  · constructor
    · intro h; cases h
    · rintro ⟨h, _⟩; cases h
  · rw [gathL_snoc, stepG_eq]
    simp only [List.mem_append, ih, List.mem_singleton]
    constructor
    · rintro (h | h)
      · exact ⟨.inl h.1, h.2⟩
      · split at h
        · cases h
        · rename_i hi
          rw [List.mem_singleton.1 h]
          exact ⟨.inr rfl, by simpa using hi⟩
    · rintro ⟨h | h, h2⟩
      · exact .inl ⟨h, h2⟩
      · right
        subst h
        rw [if_neg (by rw [h2]; decide)]
        exact List.mem_singleton.2 rfl
theorem gathL_sub (m : Mrg) (oth : Fl → Fl) (o a b : List File) (ps : List ByteArray) : ((gathL m oth o a b ps).1.map File.path).Sublist ps := by
  refine snocInd (p := fun ps => ((gathL m oth o a b ps).1.map File.path).Sublist ps) (List.Sublist.refl _) (fun l x ih => ?_) ps
  rw [gathL_snoc, stepG_eq]
  dsimp only
  rw [List.map_append]
  refine List.Sublist.append ih ?_
  split
  · exact List.Sublist.refl _
  · exact List.nil_sublist _
theorem gathF_str (m : Mrg) (oth : Fl → Fl) (o a b : List File) : StrF (gathF m oth o a b).1 := by
  have h : StrictT ((gathF m oth o a b).1.map File.path) := (riseT_strict _).sublist (gathL_sub m oth o a b _)
  exact List.pairwise_map.1 h

theorem under_lt {x y : ByteArray} (h : underB x y = true) : ltB y x = true := by
  rw [underB_eq] at h
  unfold Lib.hasPrefix at h
  obtain ⟨t, ht⟩ := List.isPrefixOf_iff_prefix.1 h
  rw [ltB_iff, ← ht, List.append_assoc]
  exact lt_app _ _ _
theorem tree_under {xs : List File} (h : Tree xs) : underF xs = [] := by
  unfold underF
  rw [List.map_eq_nil_iff, List.filter_eq_nil_iff]
  intro f hf hany
  obtain ⟨g, hg, hu⟩ := List.any_eq_true.1 hany
  obtain ⟨i, hi, e1⟩ := List.getElem_of_mem hf
  obtain ⟨j, hj, e2⟩ := List.getElem_of_mem hg
  rcases Nat.lt_trichotomy i j with hlt | rfl | hgt
  · have h1 := List.pairwise_iff_getElem.1 h.rise i j hi hj hlt
    rw [e1, e2] at h1
    have h2 := under_lt hu
    rw [ltB_asymm h1] at h2; cases h2
  · rw [e1] at e2; subst e2
    have h2 := under_lt hu
    rw [ltB_irrefl] at h2; cases h2
  · have h1 := List.pairwise_iff_getElem.1 h.apart j i hj hi hgt
    rw [e1, e2] at h1
    rw [h1] at hu; cases hu
theorem atF_mem {c : List File} (hc : StrF c) (f : File) : ((atF c f.path).is = true ∧ f.data = (atF c f.path).data) ↔ f ∈ c := by
  unfold atF
  dsimp only
  constructor
  · rintro ⟨h1, h2⟩
    have := getF_eq c f.path
    rw [if_pos h1, ← h2] at this
    exact (getF_path this).1
  · intro h
    have := hc.get h
    unfold getD
    rw [this]
    exact ⟨rfl, rfl⟩
/-- Where every path comes to what a tree has there, that tree comes of it. -/
theorem joinOf_is {o a b c : List File} (hm : may3 o a b = true) (hc : Tree c) (hp : ∀ f ∈ c, f.path ∈ riseT (flatP [o, a, b])) (h : ∀ p, joinF textM (atF o p) (atF a p) (atF b p) = (atF c p, true)) : joinOf textM o a b = (c, []) := by
  have e1 : (gathF textM (fun _ => noFl) o a b).1 = c := by
    refine StrF.ext (gathF_str _ _ _ _ _) hc.rise fun f => ?_
    unfold gathF
    rw [gathL_mem]
    have : resF textM (fun _ => noFl) o a b f.path = atF c f.path := by unfold resF; rw [h]; rfl
    rw [this, atF_mem hc.rise]
    exact ⟨fun h => h.2, fun h => ⟨hp f h, h⟩⟩
  have e2 : (gathF textM (fun _ => noFl) o a b).2 = [] := by
    refine List.eq_nil_iff_forall_not_mem.2 fun p hp => ?_
    unfold gathF at hp
    rw [gathL_two, h] at hp
    cases hp.2
  rw [joinOf_true hm]
  have e3 : badF' (gathF textM (fun _ => noFl) o a b) = [] := by
    unfold badF'
    rw [e1, e2, tree_under hc, if_neg (by have := hc.few; omega)]
    rfl
  rw [e3, e1]
  rfl
theorem join_left' (o a : Fl) : joinF textM o a a = (a, true) := by
  unfold joinF
  rw [flB_eq]
  simp
theorem joinOf_same {o a : List File} (ho : mayB o = true) (ha : mayB a = true) : joinOf textM o a a = (a, []) :=
  joinOf_is ((may3_iff _ _ _).2 ⟨ho, ha, ha⟩) ((mayB_iff _).1 ha) (fun f hf => (mem_flatP3 _ _ _ _).2 (.inr (.inl (List.mem_map_of_mem hf)))) fun p => join_left' _ _
theorem joinOf_right {o b : List File} (ho : mayB o = true) (hb : mayB b = true) : joinOf textM o o b = (b, []) :=
  joinOf_is ((may3_iff _ _ _).2 ⟨ho, ho, hb⟩) ((mayB_iff _).1 hb) (fun f hf => (mem_flatP3 _ _ _ _).2 (.inr (.inr (List.mem_map_of_mem hf)))) fun p => join_right _ _ _

theorem textM_size {o a b d : ByteArray} (h : textM o a b = some d) (h2 : a.size ≤ 400) (h3 : b.size ≤ 400) : d.size ≤ 400 := by
  unfold textM at h
  split at h
  · injection h with h; rw [← h]; exact h2
  · split at h
    · injection h with h; rw [← h]; exact h3
    · split at h
      · cases h
      · split at h
        · cases h
        · split at h
          · injection h with h; rw [← h]; assumption
          · cases h
theorem joinF_size {o a b : Fl} (h2 : a.data.size ≤ 400) (h3 : b.data.size ≤ 400) : (joinF textM o a b).1.data.size ≤ 400 := by
  unfold joinF
  split
  · exact h2
  · split
    · exact h3
    · split
      · exact Nat.zero_le _
      · dsimp only
        cases h : textM o.data a.data b.data with
        | none => exact Nat.zero_le _
        | some d => exact textM_size h h2 h3
theorem resF_size {oth : Fl → Fl} {o a b : List File} (hm : may3 o a b = true) (ho : ∀ x : Fl, x.data.size ≤ 400 → (oth x).data.size ≤ 400) (p : ByteArray) : (resF textM oth o a b p).data.size ≤ 400 := by
  obtain ⟨m1, m2, m3⟩ := (may3_iff _ _ _).1 hm
  unfold resF
  split
  · exact joinF_size (atF_data m2 p) (atF_data m3 p)
  · exact ho _ (atF_data m1 p)
theorem gathF_each {oth : Fl → Fl} {o a b : List File} (hm : may3 o a b = true) (ho : ∀ x : Fl, x.data.size ≤ 400 → (oth x).data.size ≤ 400) : ∀ f ∈ (gathF textM oth o a b).1, pathB f.path = true ∧ f.data.size ≤ 400 := by
  intro f hf
  unfold gathF at hf
  rw [gathL_mem] at hf
  obtain ⟨m1, m2, m3⟩ := (may3_iff _ _ _).1 hm
  refine ⟨?_, by rw [hf.2.2]; exact resF_size hm ho _⟩
  have key : ∀ xs : List File, mayB xs = true → f.path ∈ xs.map File.path → pathB f.path = true := fun xs hx hp => by
    obtain ⟨g, hg, e⟩ := List.mem_map.1 hp
    rw [← e]
    exact (((mayB_iff xs).1 hx).each g hg).1
  rcases (mem_flatP3 _ _ _ _).1 hf.1 with h | h | h
  · exact key _ m1 h
  · exact key _ m2 h
  · exact key _ m3 h
theorem under_none {t : List File} {f g : File} (h : f.path ∉ underF t) (hf : f ∈ t) (hg : g ∈ t) : underB f.path g.path = false := by
  cases hu : underB f.path g.path with
  | false => rfl
  | true =>
    refine absurd ?_ h
    unfold underF
    exact List.mem_map.2 ⟨f, List.mem_filter.2 ⟨hf, List.any_eq_true.2 ⟨g, hg, hu⟩⟩, rfl⟩
theorem badF_nil {g : List File × List ByteArray} (h : badF' g = []) : g.2 = [] ∧ underF g.1 = [] ∧ g.1.length ≤ 12 := by
  unfold badF' at h
  rw [List.append_eq_nil_iff, List.append_eq_nil_iff] at h
  refine ⟨h.1.1, h.1.2, ?_⟩
  by_cases hl : 12 < g.1.length
  · rw [if_pos hl] at h; cases h.2
  · omega
/-- join.Of answers a tree, or conflicts. -/
theorem joinOf_cases {o a b : List File} (hm : may3 o a b = true) : ((joinOf textM o a b).2 ≠ [] ∧ (joinOf textM o a b).1 = []) ∨ (joinOf textM o a b = ((gathF textM (fun _ => noFl) o a b).1, []) ∧ badF' (gathF textM (fun _ => noFl) o a b) = []) := by
  rw [joinOf_true hm]
  by_cases h : 0 < (badF' (gathF textM (fun _ => noFl) o a b)).length
  · rw [if_pos h]
    refine .inl ⟨fun e => ?_, rfl⟩
    obtain ⟨x, hx⟩ := List.exists_mem_of_length_pos h
    have := (riseT_mem _ _).2 hx
    dsimp only at e
    rw [e] at this
    cases this
  · rw [if_neg h]
    exact .inr ⟨rfl, List.eq_nil_of_length_eq_zero (by omega)⟩
theorem joinOf_tree {o a b : List File} (hm : may3 o a b = true) (h : (joinOf textM o a b).2 = []) : mayB (joinOf textM o a b).1 = true := by
  rcases joinOf_cases hm with ⟨h1, _⟩ | ⟨h1, h2⟩
  · exact absurd h h1
  · obtain ⟨_, b2, b3⟩ := badF_nil h2
    rw [h1, mayB_iff]
    refine ⟨b3, gathF_each hm fun _ _ => Nat.zero_le _, gathF_str _ _ _ _ _, ?_⟩
    refine List.pairwise_iff_getElem.2 fun i j hi hj _ => ?_
    exact under_none (by rw [b2]; exact fun h => nomatch h) (List.getElem_mem hj) (List.getElem_mem hi)
theorem foldl_drop_sub (us : List ByteArray) : ∀ t : List File, (us.foldl dropF t).Sublist t := by
  induction us with
  | nil => exact fun t => List.Sublist.refl _
  | cons u us ih => exact fun t => (ih _).trans (dropF_sub t u)
theorem drop_not {t : List File} {p : ByteArray} {f : File} (h : f ∈ dropF t p) : f.path ≠ p := by
  unfold dropF at h
  have := (List.mem_filter.1 h).2
  intro e
  rw [e] at this
  simp at this
theorem foldl_drop_not (us : List ByteArray) : ∀ t : List File, ∀ f ∈ us.foldl dropF t, f.path ∉ us := by
  induction us with
  | nil => exact fun t f _ h => nomatch h
  | cons u us ih =>
    intro t f hf h
    rcases List.mem_cons.1 h with e | h
    · exact drop_not ((foldl_drop_sub us _).subset hf) e
    · exact ih _ f hf h
theorem virtOf_tree (o a b : List File) : mayB (virtOf textM o a b) = true := by
  unfold virtOf
  split
  · rename_i hm
    dsimp only
    have he := gathF_each (oth := id) hm fun _ h => h
    have hs := gathF_str textM id o a b
    generalize (gathF textM id o a b).1 = g at he hs
    have hsub : (((underF g).foldl dropF g).take 12).Sublist g := (List.take_sublist _ _).trans (foldl_drop_sub _ _)
    rw [mayB_iff]
    refine ⟨by rw [List.length_take]; omega, fun f hf => he f (hsub.subset hf), hs.sublist hsub, ?_⟩
    refine List.pairwise_iff_getElem.2 fun i j hi hj _ => ?_
    have hfj := List.getElem_mem hj
    exact under_none (foldl_drop_not _ _ _ ((List.take_sublist _ _).subset hfj)) (hsub.subset hfj) (hsub.subset (List.getElem_mem hi))
  · rfl
theorem virtOf_of {o a b : List File} (hm : may3 o a b = true) (h : (joinOf textM o a b).2 = []) : virtOf textM o a b = (joinOf textM o a b).1 := by
  rcases joinOf_cases hm with ⟨h1, _⟩ | ⟨h1, h2⟩
  · exact absurd h h1
  · obtain ⟨b1, b2, b3⟩ := badF_nil h2
    have e : (gathF textM id o a b).1 = (gathF textM (fun _ => noFl) o a b).1 := by
      refine StrF.ext (gathF_str _ _ _ _ _) (gathF_str _ _ _ _ _) fun f => ?_
      unfold gathF
      rw [gathL_mem, gathL_mem]
      refine and_congr_right fun hp => ?_
      have : (joinF textM (atF o f.path) (atF a f.path) (atF b f.path)).2 = true := by
        cases q : (joinF textM (atF o f.path) (atF a f.path) (atF b f.path)).2 with
        | true => rfl
        | false =>
          have := (gathL_two textM (fun _ => noFl) o a b _ f.path).2 ⟨hp, q⟩
          unfold gathF at b1
          rw [b1] at this
          cases this
      unfold resF
      rw [if_pos this, if_pos this]
    rw [virtOf_true hm, h1, e, b2]
    show ((gathF textM (fun _ => noFl) o a b).1).take 12 = _
    exact List.take_of_length_le b3

end Go.Proofs.YtgjbfkaepalkiaaGreatDoor
