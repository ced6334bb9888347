/-
  Plain: rising rows of files.
-/
import Derived.Test.YtddooggkcdloeaaGreatDoorPlain2
import Derived.Test.YtddooggkcdloeaaGreatDoorPlainT
namespace Go.Proofs.YtddooggkcdloeaaGreatDoor
open Go.RowKit
set_option linter.unusedVariables false
set_option linter.unusedSimpArgs false

/-- Files that rise by their paths. -/
abbrev StrF (xs : List File) : Prop := xs.Pairwise fun a b => ltB a.path b.path = true
theorem StrF.riseK {xs : List File} (h : StrF xs) : RiseK File.path xs := h.imp fun hab => ltB_asymm hab
theorem StrF.drop {xs : List File} (h : StrF xs) (p : ByteArray) : StrF (dropF xs p) := h.sublist (dropF_sub xs p)
theorem StrF.put_eq {xs : List File} (h : StrF xs) (p d : ByteArray) : putF xs p d = insK File.path ⟨p, d⟩ (dropF xs p) := by
  rw [putF_eq, sortK_of_rise _ _ (h.drop p).riseK]
theorem StrF.paths {xs : List File} (h : StrF xs) : StrictT (xs.map File.path) := List.pairwise_map.2 h
theorem StrF.apart {xs : List File} (h : StrF xs) {f g : File} (hf : f ∈ xs) (hg : g ∈ xs) (e : f.path = g.path) : f = g := by
  obtain ⟨s, t, rfl⟩ := List.append_of_mem hf
  have h1 := List.pairwise_append.1 h
  have h2 := List.pairwise_cons.1 h1.2.1
  rcases List.mem_append.1 hg with hg | hg
  · have := h1.2.2 g hg f (by simp)
    rw [e, ltB_irrefl] at this; cases this
  · rcases List.mem_cons.1 hg with hg | hg
    · exact hg.symm
    · have := h2.1 g hg
      rw [e, ltB_irrefl] at this; cases this
theorem StrF.insK {xs : List File} (h : StrF xs) (f : File) (hf : ∀ g ∈ xs, g.path ≠ f.path) : StrF (insK File.path f xs) := by
  have h1 : RiseK File.path (Go.Proofs.YtddooggkcdloeaaGreatDoor.insK File.path f xs) := insK_rise File.path f h.riseK
  have hne : (Go.Proofs.YtddooggkcdloeaaGreatDoor.insK File.path f xs).Pairwise fun a b => a.path ≠ b.path := by
    refine (insK_perm File.path f xs).symm.pairwise ?_ fun {a b} hab e => hab e.symm
    refine List.pairwise_cons.2 ⟨fun g hg e => hf g hg e.symm, h.imp fun {a b} hab e => ?_⟩
    rw [e, ltB_irrefl] at hab; cases hab
  refine (h1.and hne).imp fun {a b} hab => ?_
  cases k : ltB a.path b.path with
  | true => rfl
  | false => exact absurd (ltB_tri k hab.1) hab.2
theorem StrF.put {xs : List File} (h : StrF xs) (p d : ByteArray) : StrF (putF xs p d) := by
  rw [h.put_eq]
  exact (h.drop p).insK _ fun g hg => (dropF_mem.1 hg).2
theorem StrF.put_mem {xs : List File} (h : StrF xs) {p d : ByteArray} {f : File} : f ∈ putF xs p d ↔ f = ⟨p, d⟩ ∨ (f ∈ xs ∧ f.path ≠ p) := by
  rw [h.put_eq, insK_mem, dropF_mem]
theorem getF_path {xs : List File} {p : ByteArray} {f : File} (h : getF xs p = some f) : f ∈ xs ∧ f.path = p := by
  unfold getF at h
  refine ⟨List.mem_of_find?_eq_some h, ?_⟩
  have := List.find?_some h
  exact toList_inj (beq_iff_eq.1 this)
theorem StrF.get {xs : List File} (h : StrF xs) {f : File} (hf : f ∈ xs) : getF xs f.path = some f := by
  cases hg : getF xs f.path with
  | none =>
    unfold getF at hg
    rw [List.find?_eq_none] at hg
    exact absurd (by simp) (hg f hf)
  | some g =>
    obtain ⟨h1, h2⟩ := getF_path hg
    rw [h.apart h1 hf h2]
theorem StrF.get_iff {xs : List File} (h : StrF xs) {f : File} : f ∈ xs ↔ getF xs f.path = some f := ⟨h.get, fun e => (getF_path e).1⟩
theorem getF_none {xs : List File} {p : ByteArray} : getF xs p = none ↔ ∀ f ∈ xs, f.path ≠ p := by
  unfold getF
  rw [List.find?_eq_none]
  constructor
  · intro h f hf e; exact h f hf (by rw [e]; simp)
  · intro h f hf e; exact h f hf (toList_inj (beq_iff_eq.1 e))
theorem getF_isSome {xs : List File} {p : ByteArray} : (getF xs p).isSome = true ↔ p ∈ xs.map File.path := by
  cases h : getF xs p with
  | none =>
    have := getF_none.1 h
    simp only [Option.isSome_none, Bool.false_eq_true, false_iff, List.mem_map, not_exists, not_and]
    exact this
  | some f =>
    obtain ⟨h1, h2⟩ := getF_path h
    simp only [Option.isSome_some, true_iff, List.mem_map]
    exact ⟨f, h1, h2⟩
theorem StrF.ext {xs ys : List File} (h : StrF xs) (k : StrF ys) (e : ∀ f, f ∈ xs ↔ f ∈ ys) : xs = ys := by
  have hp : xs.map File.path = ys.map File.path := strict_unique h.paths k.paths fun y => by
    simp only [List.mem_map]
    exact ⟨fun ⟨f, hf, hy⟩ => ⟨f, (e f).1 hf, hy⟩, fun ⟨f, hf, hy⟩ => ⟨f, (e f).2 hf, hy⟩⟩
  have hl : xs.length = ys.length := by have := congrArg List.length hp; simpa using this
  refine List.ext_getElem hl fun i h1 h2 => ?_
  have hpi : xs[i].path = ys[i].path := by
    have := List.getElem_of_eq hp (i := i) (by simpa using h1)
    simpa using this
  exact k.apart ((e _).1 (List.getElem_mem h1)) (List.getElem_mem h2) hpi
theorem StrF.ext_get {xs ys : List File} (h : StrF xs) (k : StrF ys) (e : ∀ p, getF xs p = getF ys p) : xs = ys :=
  h.ext k fun f => by rw [h.get_iff, k.get_iff, e]
theorem StrF.getF_put {xs : List File} (h : StrF xs) (p d q : ByteArray) : getF (putF xs p d) q = if q = p then some ⟨p, d⟩ else getF xs q := by
  by_cases hq : q = p
  · rw [if_pos hq, hq]
    exact (h.put p d).get (f := ⟨p, d⟩) (h.put_mem.2 (.inl rfl))
  · rw [if_neg hq]
    cases hg : getF xs q with
    | none =>
      rw [getF_none] at hg ⊢
      intro f hf e
      rcases h.put_mem.1 hf with rfl | hf
      · exact hq e.symm
      · exact hg f hf.1 e
    | some f =>
      obtain ⟨h1, h2⟩ := getF_path hg
      subst h2
      exact (h.put p d).get (h.put_mem.2 (.inr ⟨h1, hq⟩))
theorem StrF.getF_drop {xs : List File} (h : StrF xs) (p q : ByteArray) : getF (dropF xs p) q = if q = p then none else getF xs q := by
  by_cases hq : q = p
  · rw [if_pos hq, hq, Go.Proofs.YtddooggkcdloeaaGreatDoor.getF_drop]
  · rw [if_neg hq]
    cases hg : getF xs q with
    | none =>
      rw [getF_none] at hg ⊢
      intro f hf e
      exact hg f (dropF_mem.1 hf).1 e
    | some f =>
      obtain ⟨h1, h2⟩ := getF_path hg
      subst h2
      exact (h.drop p).get (dropF_mem.2 ⟨h1, hq⟩)
theorem getF_eq (xs : List File) (p : ByteArray) : getF xs p = if (getF xs p).isSome then some ⟨p, getD xs p⟩ else none := by
  cases h : getF xs p with
  | none => rfl
  | some f =>
    obtain ⟨_, h2⟩ := getF_path h
    unfold getD
    rw [h, ← h2]; rfl
theorem getF_congr {xs ys : List File} {p : ByteArray} (h1 : (getF xs p).isSome = (getF ys p).isSome) (h2 : getD xs p = getD ys p) : getF xs p = getF ys p := by
  rw [getF_eq xs, getF_eq ys, h1, h2]
theorem getD_none {xs : List File} {p : ByteArray} (h : (getF xs p).isSome = false) : getD xs p = ⟨#[]⟩ := by
  unfold getD
  cases hg : getF xs p with
  | none => rfl
  | some f => rw [hg] at h; cases h
theorem mem_flatP2 (a b : List File) (p : ByteArray) : p ∈ riseT (flatP [a, b]) ↔ p ∈ a.map File.path ∨ p ∈ b.map File.path := by
  rw [riseT_mem]
  unfold flatP
  simp
theorem mem_flatP3 (a b c : List File) (p : ByteArray) : p ∈ riseT (flatP [a, b, c]) ↔ p ∈ a.map File.path ∨ p ∈ b.map File.path ∨ p ∈ c.map File.path := by
  rw [riseT_mem]
  unfold flatP
  simp

end Go.Proofs.YtddooggkcdloeaaGreatDoor
