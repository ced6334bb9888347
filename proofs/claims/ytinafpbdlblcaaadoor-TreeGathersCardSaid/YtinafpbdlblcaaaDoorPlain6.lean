/-
  Plain: a tree is gathered file by file, and emptied so.
-/
import Derived.Test.YtinafpbdlblcaaaDoorPlain5
namespace Go.Proofs.YtinafpbdlblcaaaDoor
open Go.RowKit
set_option linter.unusedVariables false
set_option linter.unusedSimpArgs false

theorem StrF.dropF_length {xs : List File} (h : StrF xs) {f : File} (hf : f ∈ xs) : (dropF xs f.path).length = xs.length - 1 := by
  obtain ⟨s, t, rfl⟩ := List.append_of_mem hf
  have hr := List.pairwise_append.1 h
  have hs : ∀ g ∈ s, ltB g.path f.path = true := fun g hg => hr.2.2 g hg f (by simp)
  have ht : ∀ g ∈ t, ltB f.path g.path = true := fun g hg => (List.pairwise_cons.1 hr.2.1).1 g hg
  unfold dropF
  rw [List.filter_append, List.filter_cons]
  have h1 : s.filter (fun g => !(g.path.toList == f.path.toList)) = s := by
    rw [List.filter_eq_self]
    intro g hg
    have := hs g hg
    rw [toList_beq]
    simp
    intro e; rw [e, ltB_irrefl] at this; cases this
  have h2 : t.filter (fun g => !(g.path.toList == f.path.toList)) = t := by
    rw [List.filter_eq_self]
    intro g hg
    have := ht g hg
    rw [toList_beq]
    simp
    intro e; rw [e, ltB_irrefl] at this; cases this
  rw [h1, h2]
  simp

/-- Turned round from a place on. -/
def rot (t : List File) (k : Nat) : List File := t.drop k ++ t.take k
theorem rot_length (t : List File) (k : Nat) : (rot t k).length = t.length := by unfold rot; rw [List.length_append, List.length_drop, List.length_take]; omega
theorem rot_mem (t : List File) (k : Nat) (f : File) : f ∈ rot t k ↔ f ∈ t := by
  unfold rot
  rw [List.mem_append]
  conv => rhs; rw [← List.take_append_drop k t, List.mem_append]
  exact or_comm
theorem rot_apart {t : List File} (h : StrF t) (k : Nat) : (rot t k).Pairwise fun a b => a.path ≠ b.path := by
  have h1 : t.Pairwise fun a b => a.path ≠ b.path := h.imp fun {a b} hab e => by rw [e, ltB_irrefl] at hab; cases hab
  rw [← List.take_append_drop k t] at h1
  exact (List.perm_append_comm.pairwise_iff (fun {a b} hab => fun e => hab e.symm)).1 h1
theorem rot_get (t : List File) (k i : Nat) (hk : k < t.length) (hi : i < t.length) : (rot t k)[i]? = t[(k + i) % t.length]? := by
  unfold rot
  by_cases h : k + i < t.length
  · rw [Nat.mod_eq_of_lt h, List.getElem?_append_left (by rw [List.length_drop]; omega), List.getElem?_drop]
  · have : (k + i) % t.length = k + i - t.length := by
      rw [Nat.mod_eq_sub_mod (by omega), Nat.mod_eq_of_lt (by omega)]
    rw [this, List.getElem?_append_right (by rw [List.length_drop]; omega), List.length_drop, List.getElem?_take, if_pos (by omega)]
    congr 1; omega

def gat (l : List File) : List File := l.foldl (fun o f => putF o f.path f.data) []
theorem gat_snoc (l : List File) (x : File) : gat (l ++ [x]) = putF (gat l) x.path x.data := by simp [gat, List.foldl_append]
theorem gat_length (l : List File) : (gat l).length ≤ l.length := by
  refine snocInd (p := fun l => (gat l).length ≤ l.length) (by simp [gat]) (fun l x ih => ?_) l
  rw [gat_snoc]
  have h1 : (dropF (gat l) x.path).length ≤ (gat l).length := (dropF_sub _ _).length_le
  have h2 : (putF (gat l) x.path x.data).length = (dropF (gat l) x.path).length + 1 := by rw [putF_eq, insK_length, sortK_length]
  simp only [List.length_append, List.length_singleton]; omega
theorem gat_facts (l : List File) : (l.Pairwise fun a b => a.path ≠ b.path) → StrF (gat l) ∧ ∀ f, f ∈ gat l ↔ f ∈ l := by
  refine snocInd (p := fun l => (l.Pairwise fun a b => a.path ≠ b.path) → StrF (gat l) ∧ ∀ f, f ∈ gat l ↔ f ∈ l) (fun _ => ⟨.nil, fun f => by simp [gat]⟩) (fun l x ih h => ?_) l
  obtain ⟨h1, h2, h3⟩ := List.pairwise_append.1 h
  obtain ⟨i1, i2⟩ := ih h1
  rw [gat_snoc]
  refine ⟨i1.put _ _, fun f => ?_⟩
  rw [i1.put_mem, i2, List.mem_append, List.mem_singleton]
  constructor
  · rintro (rfl | ⟨h, _⟩)
    · exact .inr rfl
    · exact .inl h
  · rintro (h | rfl)
    · exact .inr ⟨h, h3 f h x (by simp)⟩
    · exact .inl rfl
theorem gat_rot {t : List File} (h : StrF t) (k : Nat) : gat (rot t k) = t := by
  obtain ⟨h1, h2⟩ := gat_facts _ (rot_apart h k)
  exact h1.ext h fun f => (h2 f).trans (rot_mem t k f)

def drp (t l : List File) : List File := l.foldl (fun o f => dropF o f.path) t
theorem drp_snoc (t l : List File) (x : File) : drp t (l ++ [x]) = dropF (drp t l) x.path := by simp [drp, List.foldl_append]
theorem drp_facts {t : List File} (h : StrF t) (l : List File) : StrF (drp t l) ∧ ∀ f, f ∈ drp t l ↔ f ∈ t ∧ ∀ g ∈ l, f.path ≠ g.path := by
  refine snocInd (p := fun l => StrF (drp t l) ∧ ∀ f, f ∈ drp t l ↔ f ∈ t ∧ ∀ g ∈ l, f.path ≠ g.path) ⟨h, fun f => by simp [drp]⟩ (fun l x ih => ?_) l
  obtain ⟨i1, i2⟩ := ih
  rw [drp_snoc]
  refine ⟨i1.drop _, fun f => ?_⟩
  rw [dropF_mem, i2]
  constructor
  · rintro ⟨⟨h1, h2⟩, h3⟩
    refine ⟨h1, fun g hg => ?_⟩
    rcases List.mem_append.1 hg with hg | hg
    · exact h2 g hg
    · rw [List.mem_singleton.1 hg]; exact h3
  · rintro ⟨h1, h2⟩
    exact ⟨⟨h1, fun g hg => h2 g (by simp [hg])⟩, h2 x (by simp)⟩
theorem drp_length {t : List File} (h : StrF t) (l : List File) : (l.Pairwise fun a b => a.path ≠ b.path) → (∀ f ∈ l, f ∈ t) → (drp t l).length + l.length = t.length := by
  refine snocInd (p := fun l => (l.Pairwise fun a b => a.path ≠ b.path) → (∀ f ∈ l, f ∈ t) → (drp t l).length + l.length = t.length) (fun _ _ => by simp [drp]) (fun l x ih hp hm => ?_) l
  obtain ⟨h1, h2, h3⟩ := List.pairwise_append.1 hp
  have ih' := ih h1 fun f hf => hm f (by simp [hf])
  obtain ⟨i1, i2⟩ := drp_facts h l
  have hx : x ∈ drp t l := (i2 x).2 ⟨hm x (by simp), fun g hg e => h3 g hg x (by simp) e.symm⟩
  rw [drp_snoc, i1.dropF_length hx, List.length_append, List.length_singleton]
  have : 0 < (drp t l).length := List.length_pos_of_mem hx
  omega
theorem drp_rot {t : List File} (h : StrF t) (k i : Nat) (hi : i ≤ t.length) : (drp t ((rot t k).take i)).length = t.length - i := by
  have h1 := drp_length h ((rot t k).take i) ((rot_apart h k).sublist (List.take_sublist _ _)) fun f hf => (rot_mem t k f).1 (List.mem_of_mem_take hf)
  have hl : ((rot t k).take i).length = i := by rw [List.length_take, rot_length]; omega
  omega

end Go.Proofs.YtinafpbdlblcaaaDoor
