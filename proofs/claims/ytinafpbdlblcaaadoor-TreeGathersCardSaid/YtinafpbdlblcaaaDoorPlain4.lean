/-
  Plain: rising rows of files; what changes make of them.
-/
import Derived.Test.YtinafpbdlblcaaaDoorPlain2
import Derived.Test.YtinafpbdlblcaaaDoorAwake8
namespace Go.Proofs.YtinafpbdlblcaaaDoor
open Go.RowKit
set_option linter.unusedVariables false
set_option linter.unusedSimpArgs false

/-- Files that rise by their paths. -/
abbrev StrF (xs : List File) : Prop := xs.Pairwise fun a b => ltB a.path b.path = true
theorem StrF.riseK {xs : List File} (h : StrF xs) : RiseK File.path xs := h.imp fun hab => ltB_asymm hab
theorem StrF.drop {xs : List File} (h : StrF xs) (p : ByteArray) : StrF (dropF xs p) := h.sublist (dropF_sub xs p)
theorem StrF.put_eq {xs : List File} (h : StrF xs) (p d : ByteArray) : putF xs p d = insK File.path ⟨p, d⟩ (dropF xs p) := by
  rw [putF_eq, sortK_of_rise _ _ (h.drop p).riseK]
theorem StrF.paths {xs : List File} (h : StrF xs) : StrictT (xs.map File.path) := List.pairwise_map.2 h
theorem StrF.apart {xs : List File} (h : StrF xs) {f g : File} (hf : f ∈ xs) (hg : g ∈ xs) (e : f.path = g.path) : f = g := by
  obtain ⟨s, t, rfl⟩ := List.append_of_mem hf
  have h1 := List.pairwise_append.1 h
  have h2 := List.pairwise_cons.1 h1.2.1
  rcases List.mem_append.1 hg with hg | hg
  · have := h1.2.2 g hg f (by simp)
    rw [e, ltB_irrefl] at this; cases this
  · rcases List.mem_cons.1 hg with hg | hg
    · exact hg.symm
    · have := h2.1 g hg
      rw [e, ltB_irrefl] at this; cases this
theorem StrF.insK {xs : List File} (h : StrF xs) (f : File) (hf : ∀ g ∈ xs, g.path ≠ f.path) : StrF (insK File.path f xs) := by
  have h1 : RiseK File.path (Go.Proofs.YtinafpbdlblcaaaDoor.insK File.path f xs) := insK_rise File.path f h.riseK
  have hne : (Go.Proofs.YtinafpbdlblcaaaDoor.insK File.path f xs).Pairwise fun a b => a.path ≠ b.path := by
    refine (insK_perm File.path f xs).symm.pairwise ?_ fun {a b} hab e => hab e.symm
    refine List.pairwise_cons.2 ⟨fun g hg e => hf g hg e.symm, h.imp fun {a b} hab e => ?_⟩
    rw [e, ltB_irrefl] at hab; cases hab
  refine (h1.and hne).imp fun {a b} hab => ?_
  cases k : ltB a.path b.path with
  | true => rfl
  | false => exact absurd (ltB_tri k hab.1) hab.2
theorem StrF.put {xs : List File} (h : StrF xs) (p d : ByteArray) : StrF (putF xs p d) := by
  rw [h.put_eq]
  exact (h.drop p).insK _ fun g hg => (dropF_mem.1 hg).2
theorem StrF.put_mem {xs : List File} (h : StrF xs) {p d : ByteArray} {f : File} : f ∈ putF xs p d ↔ f = ⟨p, d⟩ ∨ (f ∈ xs ∧ f.path ≠ p) := by
  rw [h.put_eq, insK_mem, dropF_mem]
theorem getF_path {xs : List File} {p : ByteArray} {f : File} (h : getF xs p = some f) : f ∈ xs ∧ f.path = p := by
  unfold getF at h
  refine ⟨List.mem_of_find?_eq_some h, ?_⟩
  have := List.find?_some h
  exact toList_inj (beq_iff_eq.1 this)
theorem StrF.get {xs : List File} (h : StrF xs) {f : File} (hf : f ∈ xs) : getF xs f.path = some f := by
  cases hg : getF xs f.path with
  | none =>
    unfold getF at hg
    rw [List.find?_eq_none] at hg
    exact absurd (by simp) (hg f hf)
  | some g =>
    obtain ⟨h1, h2⟩ := getF_path hg
    rw [h.apart h1 hf h2]
theorem StrF.get_iff {xs : List File} (h : StrF xs) {f : File} : f ∈ xs ↔ getF xs f.path = some f := ⟨h.get, fun e => (getF_path e).1⟩
theorem getF_none {xs : List File} {p : ByteArray} : getF xs p = none ↔ ∀ f ∈ xs, f.path ≠ p := by
  unfold getF
  rw [List.find?_eq_none]
  constructor
  · intro h f hf e; exact h f hf (by rw [e]; simp)
  · intro h f hf e; exact h f hf (toList_inj (beq_iff_eq.1 e))
theorem getF_isSome {xs : List File} {p : ByteArray} : (getF xs p).isSome = true ↔ p ∈ xs.map File.path := by
  cases h : getF xs p with
  | none =>
    have := getF_none.1 h
    simp only [Option.isSome_none, Bool.false_eq_true, false_iff, List.mem_map, not_exists, not_and]
    exact this
  | some f =>
    obtain ⟨h1, h2⟩ := getF_path h
    simp only [Option.isSome_some, true_iff, List.mem_map]
    exact ⟨f, h1, h2⟩
theorem StrF.ext {xs ys : List File} (h : StrF xs) (k : StrF ys) (e : ∀ f, f ∈ xs ↔ f ∈ ys) : xs = ys := by
  have hp : xs.map File.path = ys.map File.path := strict_unique h.paths k.paths fun y => by
    simp only [List.mem_map]
    exact ⟨fun ⟨f, hf, hy⟩ => ⟨f, (e f).1 hf, hy⟩, fun ⟨f, hf, hy⟩ => ⟨f, (e f).2 hf, hy⟩⟩
  have hl : xs.length = ys.length := by have := congrArg List.length hp; simpa using this
  refine List.ext_getElem hl fun i h1 h2 => ?_
  have hpi : xs[i].path = ys[i].path := by
    have := List.getElem_of_eq hp (i := i) (by simpa using h1)
    simpa using this
  exact k.apart ((e _).1 (List.getElem_mem h1)) (List.getElem_mem h2) hpi
theorem StrF.ext_get {xs ys : List File} (h : StrF xs) (k : StrF ys) (e : ∀ p, getF xs p = getF ys p) : xs = ys :=
  h.ext k fun f => by rw [h.get_iff, k.get_iff, e]
theorem StrF.getF_put {xs : List File} (h : StrF xs) (p d q : ByteArray) : getF (putF xs p d) q = if q = p then some ⟨p, d⟩ else getF xs q := by
  by_cases hq : q = p
  · rw [if_pos hq, hq]
    exact (h.put p d).get (f := ⟨p, d⟩) (h.put_mem.2 (.inl rfl))
  · rw [if_neg hq]
    cases hg : getF xs q with
    | none =>
      rw [getF_none] at hg ⊢
      intro f hf e
      rcases h.put_mem.1 hf with rfl | hf
      · exact hq e.symm
      · exact hg f hf.1 e
    | some f =>
      obtain ⟨h1, h2⟩ := getF_path hg
      subst h2
      exact (h.put p d).get (h.put_mem.2 (.inr ⟨h1, hq⟩))
theorem StrF.getF_drop {xs : List File} (h : StrF xs) (p q : ByteArray) : getF (dropF xs p) q = if q = p then none else getF xs q := by
  by_cases hq : q = p
  · rw [if_pos hq, hq, Go.Proofs.YtinafpbdlblcaaaDoor.getF_drop]
  · rw [if_neg hq]
    cases hg : getF xs q with
    | none =>
      rw [getF_none] at hg ⊢
      intro f hf e
      exact hg f (dropF_mem.1 hf).1 e
    | some f =>
      obtain ⟨h1, h2⟩ := getF_path hg
      subst h2
      exact (h.drop p).get (dropF_mem.2 ⟨h1, hq⟩)
theorem getF_eq (xs : List File) (p : ByteArray) : getF xs p = if (getF xs p).isSome then some ⟨p, getD xs p⟩ else none := by
  cases h : getF xs p with
  | none => rfl
  | some f =>
    obtain ⟨_, h2⟩ := getF_path h
    unfold getD
    rw [h, ← h2]; rfl
theorem getF_congr {xs ys : List File} {p : ByteArray} (h1 : (getF xs p).isSome = (getF ys p).isSome) (h2 : getD xs p = getD ys p) : getF xs p = getF ys p := by
  rw [getF_eq xs, getF_eq ys, h1, h2]
theorem getD_none {xs : List File} {p : ByteArray} (h : (getF xs p).isSome = false) : getD xs p = ⟨#[]⟩ := by
  unfold getD
  cases hg : getF xs p with
  | none => rfl
  | some f => rw [hg] at h; cases h

/-! ### Changes -/
theorem drF_eq (xs : List File) (p : ByteArray) : drF xs p = dropF xs p := rfl
theorem stepF_of {t : List File} {c : Ch} (h1 : (getF t c.path).isSome = c.was) (h2 : getD t c.path = c.old) : stepF t c = some (if c.is then putF t c.path c.new else dropF t c.path) := by
  unfold stepF
  rw [h1, h2, if_pos (by simp)]
  rfl
theorem step_str {t : List File} (h : StrF t) (c : Ch) : StrF (if c.is then putF t c.path c.new else dropF t c.path) := by
  split
  · exact h.put _ _
  · exact h.drop _
theorem step_get {t : List File} (h : StrF t) (c : Ch) (q : ByteArray) : getF (if c.is then putF t c.path c.new else dropF t c.path) q = if q = c.path then (if c.is then some ⟨c.path, c.new⟩ else none) else getF t q := by
  split
  · exact h.getF_put _ _ _
  · exact h.getF_drop _ _
/-- Changes that each fit, at paths of their own. -/
theorem apply_of : ∀ (cs : List Ch) (t b : List File), StrF t → (cs.Pairwise fun c d => c.path ≠ d.path) →
    (∀ c ∈ cs, (getF t c.path).isSome = c.was ∧ getD t c.path = c.old ∧ (getF b c.path).isSome = c.is ∧ getD b c.path = c.new) → (∀ p, p ∉ cs.map Ch.path → getF t p = getF b p) →
    ∃ u, applyF t cs = some u ∧ StrF u ∧ ∀ p, getF u p = getF b p
  | [], t, b, ht, _, _, hp => ⟨t, rfl, ht, fun p => hp p (by simp)⟩
  | c :: cs, t, b, ht, hd, hc, hp => by
    obtain ⟨h1, h2, h3, h4⟩ := hc c (by simp)
    have hst := stepF_of h1 h2
    have hd' := List.pairwise_cons.1 hd
    have hg := step_get ht c
    have hs := step_str ht c
    generalize (if c.is then putF t c.path c.new else dropF t c.path) = t' at hst hg hs
    obtain ⟨u, hu, hsu, hgu⟩ := apply_of cs t' b hs hd'.2 (fun d hd => by
      have hne : d.path ≠ c.path := fun e => hd'.1 d hd e.symm
      have := hc d (by simp [hd])
      have hgd : getF t' d.path = getF t d.path := by rw [hg, if_neg hne]
      have hdd : getD t' d.path = getD t d.path := by unfold getD; rw [hgd]
      rw [hgd, hdd]; exact this) (fun p hpn => by
      rw [hg]
      by_cases e : p = c.path
      · rw [if_pos e, e, getF_eq b, h3, h4]
      · rw [if_neg e]
        exact hp p (by simp only [List.map_cons, List.mem_cons, not_or]; exact ⟨e, hpn⟩))
    refine ⟨u, ?_, hsu, hgu⟩
    show (match stepF t c with | some v => applyF v cs | none => none) = _
    rw [hst]; exact hu

theorem mem_flatP2 (a b : List File) (p : ByteArray) : p ∈ riseT (flatP [a, b]) ↔ p ∈ a.map File.path ∨ p ∈ b.map File.path := by
  rw [riseT_mem]
  unfold flatP
  simp
theorem mem_flatP3 (a b c : List File) (p : ByteArray) : p ∈ riseT (flatP [a, b, c]) ↔ p ∈ a.map File.path ∨ p ∈ b.map File.path ∨ p ∈ c.map File.path := by
  rw [riseT_mem]
  unfold flatP
  simp
theorem ofF_mem {a b : List File} {c : Ch} (h : c ∈ ofF a b) : c = chg a b c.path ∧ diffB c = true ∧ c.path ∈ riseT (flatP [a, b]) := by
  unfold ofF ofL at h
  rw [List.mem_filter, List.mem_map] at h
  obtain ⟨⟨p, hp, rfl⟩, hd⟩ := h
  exact ⟨rfl, hd, hp⟩
theorem ofF_paths (a b : List File) : StrictT ((ofF a b).map Ch.path) := by
  unfold ofF ofL
  rw [List.filter_map, List.map_map]
  have : (Ch.path ∘ chg a b) = id := rfl
  rw [this, List.map_id]
  exact (riseT_strict _).sublist List.filter_sublist
theorem ofF_fits {a b : List File} {c : Ch} (h : c ∈ ofF a b) : (getF a c.path).isSome = c.was ∧ getD a c.path = c.old ∧ (getF b c.path).isSome = c.is ∧ getD b c.path = c.new := by
  have := (ofF_mem h).1
  generalize c.path = p at this
  rw [this]
  exact ⟨rfl, rfl, rfl, rfl⟩
theorem diffB_false {c : Ch} : diffB c = false ↔ c.was = c.is ∧ c.old = c.new := by
  unfold diffB
  rw [Bool.or_eq_false_iff, Bool.not_eq_false', Bool.not_eq_false', beq_iff_eq, toList_beq, decide_eq_true_eq]
theorem ofF_rest {a b : List File} {p : ByteArray} (h : p ∉ (ofF a b).map Ch.path) : getF a p = getF b p := by
  by_cases hm : p ∈ riseT (flatP [a, b])
  · cases hd : diffB (chg a b p) with
    | false =>
      obtain ⟨h1, h2⟩ := diffB_false.1 hd
      exact getF_congr h1 h2
    | true =>
      refine absurd ?_ h
      rw [List.mem_map]
      refine ⟨chg a b p, ?_, rfl⟩
      unfold ofF ofL
      exact List.mem_filter.2 ⟨List.mem_map_of_mem hm, hd⟩
  · rw [mem_flatP2, not_or, ← getF_isSome, ← getF_isSome, Bool.not_eq_true, Bool.not_eq_true] at hm
    rw [getF_eq a, getF_eq b, hm.1, hm.2]
    rfl
theorem StrictT.ne {l : List ByteArray} (h : StrictT l) : l.Pairwise (· ≠ ·) := h.imp fun {a b} hab e => by rw [e, ltB_irrefl] at hab; cases hab
/-- Changes make the one the other. -/
theorem apply_ofF {a b : List File} (ha : StrF a) (hb : StrF b) : applyF a (ofF a b) = some b := by
  obtain ⟨u, h1, h2, h3⟩ := apply_of (ofF a b) a b ha (List.pairwise_map.1 (ofF_paths a b).ne) (fun c hc => ofF_fits hc) (fun p hp => ofF_rest hp)
  rw [h1, h2.ext_get hb h3]
theorem ofF_length (a b : List File) : (ofF a b).length ≤ a.length + b.length := by
  unfold ofF ofL
  refine Nat.le_trans (List.length_filter_le _ _) ?_
  rw [List.length_map]
  refine Nat.le_trans (riseT_length _) ?_
  unfold flatP
  simp
/-- Turned. -/
def Ch.turn (c : Ch) : Ch := ⟨c.path, c.is, c.was, c.new, c.old⟩
theorem ofF_turn (a b : List File) : ofF b a = (ofF a b).map Ch.turn := by
  unfold ofF ofL
  have hp : riseT (flatP [b, a]) = riseT (flatP [a, b]) := strict_unique (riseT_strict _) (riseT_strict _) fun y => by rw [mem_flatP2, mem_flatP2, or_comm]
  rw [hp, List.filter_map, List.filter_map, List.map_map]
  have h1 : (Ch.turn ∘ chg a b) = chg b a := rfl
  rw [h1]
  congr 1
  refine List.filter_congr fun p _ => ?_
  show diffB (chg b a p) = diffB (chg a b p)
  cases h : diffB (chg a b p) with
  | false =>
    obtain ⟨h1, h2⟩ := diffB_false.1 h
    exact diffB_false.2 ⟨h1.symm, h2.symm⟩
  | true =>
    cases h' : diffB (chg b a p) with
    | true => rfl
    | false =>
      obtain ⟨h1, h2⟩ := diffB_false.1 h'
      have : diffB (chg a b p) = false := diffB_false.2 ⟨h1.symm, h2.symm⟩
      rw [this] at h; cases h
theorem apply_turn {a b : List File} (ha : StrF a) (hb : StrF b) : applyF b ((ofF a b).map Ch.turn).reverse = some a := by
  rw [← ofF_turn]
  obtain ⟨u, h1, h2, h3⟩ := apply_of (ofF b a).reverse b a hb (List.pairwise_reverse.2 ((List.pairwise_map.1 (ofF_paths b a).ne).imp fun h => h.symm)) (fun c hc => ofF_fits (List.mem_reverse.1 hc)) (fun p hp => ofF_rest (fun h => hp (by rw [List.map_reverse]; exact List.mem_reverse.2 h)))
  rw [h1, h2.ext_get ha h3]
theorem ofF_self_iff {a b : List File} (ha : StrF a) (hb : StrF b) : ofF a b = [] ↔ a = b := by
  constructor
  · intro h
    have := apply_ofF ha hb
    rw [h] at this
    injection this
  · rintro rfl
    unfold ofF ofL
    rw [List.filter_eq_nil_iff]
    intro c hc
    obtain ⟨p, _, rfl⟩ := List.mem_map.1 hc
    rw [Bool.not_eq_true]
    exact diffB_false.2 ⟨rfl, rfl⟩
/-- To the other they do not fit. -/
theorem apply_other (a b : List File) : (applyF b (ofF a b)).isSome = decide ((ofF a b).length = 0) := by
  cases h : ofF a b with
  | nil => rfl
  | cons c cs =>
    have hc : c ∈ ofF a b := by rw [h]; simp
    obtain ⟨h1, h2, h3, h4⟩ := ofF_fits hc
    have hd := (ofF_mem hc).2.1
    have hst : stepF b c = none := by
      unfold stepF
      rw [h3, h4, if_neg]
      intro e
      rw [Bool.and_eq_true, beq_iff_eq, beq_iff_eq] at e
      rw [diffB_false.2 ⟨e.1.symm, (toList_inj e.2).symm⟩] at hd
      cases hd
    show (match stepF b c with | some v => applyF v cs | none => none).isSome = _
    rw [hst]
    simp
/-- No row in between is great. -/
theorem apply_big {a b : List File} (ha : a.length ≤ 12) (hb : b.length ≤ 12) : ∀ k t, applyF a ((ofF a b).take k) = some t → t.length ≤ 38 := applyF_small (by have := ofF_length a b; omega)
theorem apply_two {a b c : List File} (ha : StrF a) (hb : StrF b) (hc : StrF c) : applyF a (ofF a b ++ ofF b c) = some c := by
  rw [applyF_append, apply_ofF ha hb]
  exact apply_ofF hb hc
theorem apply_two_big {a b c : List File} (hsa : StrF a) (hsb : StrF b) (ha : a.length ≤ 12) (hb : b.length ≤ 12) (hc : c.length ≤ 12) : ∀ k t, applyF a ((ofF a b ++ ofF b c).take k) = some t → t.length ≤ 38 := by
  intro k t h
  rw [List.take_append] at h
  by_cases hk : k ≤ (ofF a b).length
  · rw [show k - (ofF a b).length = 0 by omega, List.take_zero, List.append_nil] at h
    exact apply_big ha hb k t h
  · rw [List.take_of_length_le (by omega), applyF_append, apply_ofF hsa hsb] at h
    exact apply_big hb hc _ t h

end Go.Proofs.YtinafpbdlblcaaaDoor
