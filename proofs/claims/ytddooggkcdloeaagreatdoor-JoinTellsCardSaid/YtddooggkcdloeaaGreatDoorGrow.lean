/-
  Rows that grow: appends onto a row that was made here; a slice's beginning and end; what a search has found so far.
-/
import Derived.Test.YtddooggkcdloeaaGreatDoorLaw0
import Derived.Test.YtddooggkcdloeaaGreatDoorTree2
namespace Go.Proofs.YtddooggkcdloeaaGreatDoor
open Go.RowKit
set_option linter.unusedVariables false
set_option linter.unusedSimpArgs false
attribute [local go_sem] Oper.semAt_some

theorem getF_snoc (xs : List File) (p : ByteArray) (k : Nat) (hk : k < xs.length) (hno : getF (xs.take k) p = none) : getF (xs.take (k + 1)) p = if xs[k].path.toList == p.toList then some xs[k] else none := by
  unfold getF at hno ⊢
  rw [take_snoc xs hk, List.find?_append, hno]
  by_cases h : xs[k].path.toList = p.toList <;> simp [h]
theorem getF_of_take {xs : List File} {p : ByteArray} {k : Nat} {f : File} (h : getF (xs.take k) p = some f) : getF xs p = some f := by
  unfold getF at h ⊢
  rw [← List.take_append_drop k xs, List.find?_append, h]; rfl


def drF (xs : List File) (p : ByteArray) : List File := xs.filter fun f => !(f.path.toList == p.toList)
theorem drF_snoc (xs : List File) (p : ByteArray) (k : Nat) (hk : k < xs.length) : drF (xs.take (k + 1)) p = drF (xs.take k) p ++ if xs[k].path.toList == p.toList then [] else [xs[k]] := by
  unfold drF
  rw [take_snoc xs hk, List.filter_append]
  cases h : (xs[k].path.toList == p.toList) <;> simp [h]

/-- Behind an append onto a row that was made here. -/
theorem New.grow {α : Type} {E : El α} {t : TypeId} {w0 w w1 w' : World} {v v' : Value} {xs ys : List α} (h : New E t w0.heap.size w v xs) (hx : Ext w0 w) (hx1 : Ext w w1) (hown : Own E t w' v' ys) (hk : Kp (fun k => v.ownBlock ≠ some k) w1 w') (hb : v'.ownBlock = v.ownBlock ∨ v'.ownBlock = some w1.heap.size) :
    New E t w0.heap.size w' v' ys ∧ Ext w0 w' := by
  have h1 := hx.size
  have h2 := hx1.size
  refine ⟨⟨hown, fun g hg => ?_⟩, (hx.trans hx1).trans' hk fun k hk _ e => by have := h.2 k e; omega⟩
  rcases hb with hb | hb
  · exact h.2 g (by rw [← hb]; exact hg)
  · rw [hb] at hg; simp at hg; omega

/-- The walk's step at an append of one element, onto a row that was made here. -/
theorem list_append1 {α : Type} {E : El α} {P : Program} {T e : TypeId} {bytes : Nat} (ti : TI E P T e bytes) {ops : Array Oper} {rest : List Oper} {o : Oper} {a : Act} {w0 w W : World} {Q : Exit → Act → World → Prop} {s x : Operand} (y : α) (hW : W = w.alloc (.cells (E.flat [y]).toArray e)) (hgd : o.guard = none)
    (ho : o.op = .call { callee := .builtin .append, args := #[s, x], argTypes := #[T, T] }) {v u : Value} {xs : List α} (hN : New E e w0.heap.size w v xs) (hx0 : Ext w0 w) (hu : u = .slice (some ⟨w.heap.size, 0, none⟩) 1 1) (hs : a.eval s = v) (hx : a.eval x = u)
    (hb : (xs.length + 1) * bytes ≤ 140737488355328) (hm : xs.length + 1 ≤ maxLen)
    (h : ∀ v' w', New E e w0.heap.size w' v' (xs ++ [y]) → Ext w0 w' → wpList P ops Q rest (a.put o.dst v') w') : wpList P ops Q (o :: rest) a W := by
  subst hW hu
  refine list_append (v := v) (xs := xs) (ys := [y]) ti hgd ho hs hx (hN.1.kp ((Kp.refl _ _).alloc _) (fun _ _ => trivial)) (Own.made w e [y] (by simp [maxLen])).rd hb hm ?_
  intro v' w' hO hK hB
  obtain ⟨h1, h2⟩ := hN.grow hx0 ((Kp.refl _ w).alloc _) hO hK hB
  exact h v' w' h1 h2

/-- Likewise, telling where the row lies. -/
theorem list_append1k {α : Type} {E : El α} {P : Program} {T e : TypeId} {bytes : Nat} (ti : TI E P T e bytes) {ops : Array Oper} {rest : List Oper} {o : Oper} {a : Act} {w0 w W : World} {Q : Exit → Act → World → Prop} {s x : Operand} (y : α) (hW : W = w.alloc (.cells (E.flat [y]).toArray e)) (hgd : o.guard = none)
    (ho : o.op = .call { callee := .builtin .append, args := #[s, x], argTypes := #[T, T] }) {v u : Value} {xs : List α} (hN : New E e w0.heap.size w v xs) (hx0 : Ext w0 w) (hu : u = .slice (some ⟨w.heap.size, 0, none⟩) 1 1) (hs : a.eval s = v) (hx : a.eval x = u)
    (hb : (xs.length + 1) * bytes ≤ 140737488355328) (hm : xs.length + 1 ≤ maxLen)
    (h : ∀ v' w', New E e w0.heap.size w' v' (xs ++ [y]) → Ext w0 w' → Kp (fun k => v.ownBlock ≠ some k) w w' → (∀ g, v'.ownBlock = some g → v.ownBlock = some g ∨ w.heap.size ≤ g) → wpList P ops Q rest (a.put o.dst v') w') : wpList P ops Q (o :: rest) a W := by
  subst hW hu
  refine list_append (v := v) (xs := xs) (ys := [y]) ti hgd ho hs hx (hN.1.kp ((Kp.refl _ _).alloc _) (fun _ _ => trivial)) (Own.made w e [y] (by simp [maxLen])).rd hb hm ?_
  intro v' w' hO hK hB
  obtain ⟨h1, h2⟩ := hN.grow hx0 ((Kp.refl _ w).alloc _) hO hK hB
  refine h v' w' h1 h2 (((Kp.refl _ w).alloc _).trans' hK fun _ _ h => h) fun g hg => ?_
  rcases hB with hB | hB
  · exact .inl (by rw [← hB]; exact hg)
  · rw [hB] at hg
    injection hg with hg
    simp at hg
    exact .inr (by omega)

/-- At an append, in a region that draws its order. -/
theorem step_append_new {α : Type} {E : El α} {P : Program} {T e : TypeId} {bytes : Nat} (ti : TI E P T e bytes) {ops : Array Oper} {o : Oper} {a : Act} {w0 W : World} {K : Act → World → Prop} {Q : Exit → Act → World → Prop} {EE : Prop} {s x : Operand} (hgd : o.guard = none)
    (ho : o.op = .call { callee := .builtin .append, args := #[s, x], argTypes := #[T, T] }) {v u : Value} {xs ys : List α} {S : Fp} (hN : New E e w0.heap.size W v xs) (hx0 : Ext w0 W) (hrd : Rd E S W u ys) (hs : a.eval s = v) (hx : a.eval x = u)
    (hb : (xs.length + ys.length) * bytes ≤ 140737488355328) (hm : xs.length + ys.length ≤ maxLen)
    (h : ∀ v' w', New E e w0.heap.size w' v' (xs ++ ys) → Ext w0 w' → Kp (fun k => v.ownBlock ≠ some k) W w' → K (a.put o.dst v') w') :
    if Region.wanted o (yielded ops a.tmps) = true then Oper.wp P o a W K Q else EE := by
  have hw : Region.wanted o (yielded ops a.tmps) = true := by simp [Region.wanted, hgd]
  rw [if_pos hw]
  refine wp_append ti ho hs hx hN.1 hrd hb hm ?_
  intro v' w' hO hK hB
  obtain ⟨h1, h2⟩ := hN.grow hx0 (Kp.refl _ W) hO hK hB
  exact h v' w' h1 h2 hK

/-- A slice's beginning, a slice's end. -/
theorem Opn.takeRd {α : Type} {E : El α} {S : Fp} {w : World} {A : Option Addr} {c : Nat} {xs : List α} (h : Opn E S w A c xs) {j : Nat} (hj : j ≤ xs.length) : Rd E S w (.slice A j c) (xs.take j) := by
  have hl : (xs.take j).length = j := by rw [List.length_take]; omega
  refine ⟨A, c, by rw [hl], by rw [hl]; exact Nat.le_trans hj h.le, by have := h.max; simpa [maxLen] using this, h.nil, fun hp => ?_⟩
  obtain ⟨b, off, hA, hS, hb, hc⟩ := h.rd (by rw [hl] at hp; omega)
  refine ⟨b, off, hA, hS, hb, fun i u hu => hc i u ?_⟩
  rw [← E.flat_take] at hu
  rw [List.getElem?_take] at hu
  split at hu
  · exact hu
  · cases hu
theorem Opn.dropRd {α : Type} {E : El α} {S : Fp} {w : World} {b off : Nat} {c : Nat} {xs : List α} (h : Opn E S w (some ⟨b, off, none⟩) c xs) {j : Nat} (hj : j ≤ xs.length) : Rd E S w (.slice (some ⟨b, off + j * E.sz, none⟩) (xs.length - j) (c - j)) (xs.drop j) := by
  refine ⟨_, _, by rw [List.length_drop], by rw [List.length_drop]; have := h.le; omega, by have := h.max; unfold maxLen; omega, (fun e => by cases e), fun hp => ?_⟩
  rw [List.length_drop] at hp
  obtain ⟨b', off', hA, hS, hb, hc⟩ := h.rd (by omega)
  cases hA
  refine ⟨b, _, rfl, hS, hb, fun i u hu => ?_⟩
  rw [Nat.add_assoc]
  refine hc _ u ?_
  rw [← E.flat_drop, List.getElem?_drop] at hu
  exact hu

end Go.Proofs.YtddooggkcdloeaaGreatDoor
