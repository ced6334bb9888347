/-
  cortegeref7: Get, Drop.
-/
import Derived.Test.YtinafpbdlblcaaaDoorLaw0
import Derived.Test.YtinafpbdlblcaaaDoorSort3
namespace Go.Proofs.YtinafpbdlblcaaaDoor
open Go.RowKit
set_option linter.unusedVariables false
set_option linter.unusedSimpArgs false
attribute [local go_sem] Oper.semAt_some

theorem getF_snoc (xs : List File) (p : ByteArray) (k : Nat) (hk : k < xs.length) (hno : getF (xs.take k) p = none) : getF (xs.take (k + 1)) p = if xs[k].path.toList == p.toList then some xs[k] else none := by
  unfold getF at hno ⊢
  rw [take_snoc xs hk, List.find?_append, hno]
  by_cases h : xs[k].path.toList = p.toList <;> simp [h]
theorem getF_of_take {xs : List File} {p : ByteArray} {k : Nat} {f : File} (h : getF (xs.take k) p = some f) : getF xs p = some f := by
  unfold getF at h ⊢
  rw [← List.take_append_drop k xs, List.find?_append, h]; rfl

set_option maxHeartbeats 400000 in
/-- cortegeref7.Get. -/
theorem refGet_calls (v : Value) (p : ByteArray) (xs : List File) (S : Fp) (w : World) (hR : Rd EF S w v xs) (hb : xs.length ≤ 1000000) :
    Calls Tryd.prog 20 #[v, .string p] w fun e w' => e = .returned (.tuple #[.string (getD xs p), .bool (getF xs p).isSome]) ∧ Ext w w' := by
  obtain ⟨A, c, rfl, hO⟩ := hR.open_
  have hlen := hO.len
  clear hR
  go_enter Tryd.func20, Tryd.ntmps20
  go_wp2_with fail
  go_loopw [6] (fun i wr => ∃ k : Nat, k ≤ xs.length ∧ i = .int .i64 k ∧ getF (xs.take k) p = none ∧ Ext w wr) (fun i _ => xs.length - (intOf i).toNat)
  case atStart => exact ⟨0, Nat.zero_le _, rfl, by simp [getF], Kp.refl _ _⟩
  case round =>
    obtain ⟨k, hk, rfl, hno, hx⟩ := hrel
    by_cases hlt : k < xs.length
    · have hd3 : decide ((k : Int) < (xs.length : Int)) = true := decide_eq_true (by omega)
      obtain ⟨b, off, rfl, _, hb, c0, c1⟩ := (hO.kp (hx.mono fun _ _ _ => trivial)).rd.file hlt
      have hlt' : (k : Int) < (xs.length : Int) := by omega
      have h0 : (0 : Int) ≤ (k : Int) := by omega
      have hw : IntKind.i64.wrap ((k : Int) + 1) = (k : Int) + 1 := IntWalk.i64_in _ (by omega)
      have hsn := getF_snoc xs p k hlt hno
      obtain ⟨f, hf⟩ : ∃ f, xs[k] = f := ⟨_, rfl⟩
      rw [hf] at c0 c1 hsn
      have HS := Lib.hid hsn
      have HNO := Lib.hid hno
      clear hsn hno hf
      cases hfp : (f.path.toList == p.toList) with
      | true =>
        go_wp2_with fail
        have hres : getF xs p = some f := getF_of_take (by rw [HS.out, hfp]; rfl)
        have hgd : getD xs p = f.data := by unfold getD; rw [hres]; rfl
        go_ret2
        exact ⟨by rw [hres, hgd]; rfl, hx⟩
      | false =>
        go_wp2_with fail
        go_roundw
        case rel => exact ⟨k + 1, by omega, by go_num, by rw [HS.out, hfp]; rfl, hx⟩
        case measure => simp [intOf]; omega
    · have hd3 : decide ((k : Int) < (xs.length : Int)) = false := decide_eq_false (by omega)
      have hkl : xs.take k = xs := List.take_of_length_le (by omega)
      rw [hkl] at hno
      have hgd : getD xs p = ⟨#[]⟩ := by unfold getD; rw [hno]; rfl
      have H1 := Lib.hid hno
      have H2 := Lib.hid hgd
      clear hno hgd hkl
      go_wp2_with fail
      go_ret2
      exact ⟨by rw [H1.out, H2.out]; rfl, hx⟩

def drF (xs : List File) (p : ByteArray) : List File := xs.filter fun f => !(f.path.toList == p.toList)
theorem drF_snoc (xs : List File) (p : ByteArray) (k : Nat) (hk : k < xs.length) : drF (xs.take (k + 1)) p = drF (xs.take k) p ++ if xs[k].path.toList == p.toList then [] else [xs[k]] := by
  unfold drF
  rw [take_snoc xs hk, List.filter_append]
  cases h : (xs[k].path.toList == p.toList) <;> simp [h]

/-- Behind an append onto a row that was made here. -/
theorem New.grow {α : Type} {E : El α} {t : TypeId} {w0 w w1 w' : World} {v v' : Value} {xs ys : List α} (h : New E t w0.heap.size w v xs) (hx : Ext w0 w) (hx1 : Ext w w1) (hown : Own E t w' v' ys) (hk : Kp (fun k => v.ownBlock ≠ some k) w1 w') (hb : v'.ownBlock = v.ownBlock ∨ v'.ownBlock = some w1.heap.size) :
    New E t w0.heap.size w' v' ys ∧ Ext w0 w' := by
  have h1 := hx.size
  have h2 := hx1.size
  refine ⟨⟨hown, fun g hg => ?_⟩, (hx.trans hx1).trans' hk fun k hk _ e => by have := h.2 k e; omega⟩
  rcases hb with hb | hb
  · exact h.2 g (by rw [← hb]; exact hg)
  · rw [hb] at hg; simp at hg; omega

/-- The walk's step at an append of one element, onto a row that was made here. -/
theorem list_append1 {α : Type} {E : El α} {P : Program} {T e : TypeId} {bytes : Nat} (ti : TI E P T e bytes) {ops : Array Oper} {rest : List Oper} {o : Oper} {a : Act} {w0 w W : World} {Q : Exit → Act → World → Prop} {s x : Operand} (y : α) (hW : W = w.alloc (.cells (E.flat [y]).toArray e)) (hgd : o.guard = none)
    (ho : o.op = .call { callee := .builtin .append, args := #[s, x], argTypes := #[T, T] }) {v u : Value} {xs : List α} (hN : New E e w0.heap.size w v xs) (hx0 : Ext w0 w) (hu : u = .slice (some ⟨w.heap.size, 0, none⟩) 1 1) (hs : a.eval s = v) (hx : a.eval x = u)
    (hb : (xs.length + 1) * bytes ≤ 140737488355328) (hm : xs.length + 1 ≤ maxLen)
    (h : ∀ v' w', New E e w0.heap.size w' v' (xs ++ [y]) → Ext w0 w' → wpList P ops Q rest (a.put o.dst v') w') : wpList P ops Q (o :: rest) a W := by
  subst hW hu
  refine list_append (v := v) (xs := xs) (ys := [y]) ti hgd ho hs hx (hN.1.kp ((Kp.refl _ _).alloc _) (fun _ _ => trivial)) (Own.made w e [y] (by simp [maxLen])).rd hb hm ?_
  intro v' w' hO hK hB
  obtain ⟨h1, h2⟩ := hN.grow hx0 ((Kp.refl _ w).alloc _) hO hK hB
  exact h v' w' h1 h2

/-- Likewise, telling where the row lies. -/
theorem list_append1k {α : Type} {E : El α} {P : Program} {T e : TypeId} {bytes : Nat} (ti : TI E P T e bytes) {ops : Array Oper} {rest : List Oper} {o : Oper} {a : Act} {w0 w W : World} {Q : Exit → Act → World → Prop} {s x : Operand} (y : α) (hW : W = w.alloc (.cells (E.flat [y]).toArray e)) (hgd : o.guard = none)
    (ho : o.op = .call { callee := .builtin .append, args := #[s, x], argTypes := #[T, T] }) {v u : Value} {xs : List α} (hN : New E e w0.heap.size w v xs) (hx0 : Ext w0 w) (hu : u = .slice (some ⟨w.heap.size, 0, none⟩) 1 1) (hs : a.eval s = v) (hx : a.eval x = u)
    (hb : (xs.length + 1) * bytes ≤ 140737488355328) (hm : xs.length + 1 ≤ maxLen)
    (h : ∀ v' w', New E e w0.heap.size w' v' (xs ++ [y]) → Ext w0 w' → Kp (fun k => v.ownBlock ≠ some k) w w' → (∀ g, v'.ownBlock = some g → v.ownBlock = some g ∨ w.heap.size ≤ g) → wpList P ops Q rest (a.put o.dst v') w') : wpList P ops Q (o :: rest) a W := by
  subst hW hu
  refine list_append (v := v) (xs := xs) (ys := [y]) ti hgd ho hs hx (hN.1.kp ((Kp.refl _ _).alloc _) (fun _ _ => trivial)) (Own.made w e [y] (by simp [maxLen])).rd hb hm ?_
  intro v' w' hO hK hB
  obtain ⟨h1, h2⟩ := hN.grow hx0 ((Kp.refl _ w).alloc _) hO hK hB
  refine h v' w' h1 h2 (((Kp.refl _ w).alloc _).trans' hK fun _ _ h => h) fun g hg => ?_
  rcases hB with hB | hB
  · exact .inl (by rw [← hB]; exact hg)
  · rw [hB] at hg
    injection hg with hg
    simp at hg
    exact .inr (by omega)

/-- At an append, in a region that draws its order. -/
theorem step_append_new {α : Type} {E : El α} {P : Program} {T e : TypeId} {bytes : Nat} (ti : TI E P T e bytes) {ops : Array Oper} {o : Oper} {a : Act} {w0 W : World} {K : Act → World → Prop} {Q : Exit → Act → World → Prop} {EE : Prop} {s x : Operand} (hgd : o.guard = none)
    (ho : o.op = .call { callee := .builtin .append, args := #[s, x], argTypes := #[T, T] }) {v u : Value} {xs ys : List α} {S : Fp} (hN : New E e w0.heap.size W v xs) (hx0 : Ext w0 W) (hrd : Rd E S W u ys) (hs : a.eval s = v) (hx : a.eval x = u)
    (hb : (xs.length + ys.length) * bytes ≤ 140737488355328) (hm : xs.length + ys.length ≤ maxLen)
    (h : ∀ v' w', New E e w0.heap.size w' v' (xs ++ ys) → Ext w0 w' → Kp (fun k => v.ownBlock ≠ some k) W w' → K (a.put o.dst v') w') :
    if Region.wanted o (yielded ops a.tmps) = true then Oper.wp P o a W K Q else EE := by
  have hw : Region.wanted o (yielded ops a.tmps) = true := by simp [Region.wanted, hgd]
  rw [if_pos hw]
  refine wp_append ti ho hs hx hN.1 hrd hb hm ?_
  intro v' w' hO hK hB
  obtain ⟨h1, h2⟩ := hN.grow hx0 (Kp.refl _ W) hO hK hB
  exact h v' w' h1 h2 hK

/-- A slice's beginning, a slice's end. -/
theorem Opn.takeRd {α : Type} {E : El α} {S : Fp} {w : World} {A : Option Addr} {c : Nat} {xs : List α} (h : Opn E S w A c xs) {j : Nat} (hj : j ≤ xs.length) : Rd E S w (.slice A j c) (xs.take j) := by
  have hl : (xs.take j).length = j := by rw [List.length_take]; omega
  refine ⟨A, c, by rw [hl], by rw [hl]; exact Nat.le_trans hj h.le, by have := h.max; simpa [maxLen] using this, h.nil, fun hp => ?_⟩
  obtain ⟨b, off, hA, hS, hb, hc⟩ := h.rd (by rw [hl] at hp; omega)
  refine ⟨b, off, hA, hS, hb, fun i u hu => hc i u ?_⟩
  rw [← E.flat_take] at hu
  rw [List.getElem?_take] at hu
  split at hu
  · exact hu
  · cases hu
theorem Opn.dropRd {α : Type} {E : El α} {S : Fp} {w : World} {b off : Nat} {c : Nat} {xs : List α} (h : Opn E S w (some ⟨b, off, none⟩) c xs) {j : Nat} (hj : j ≤ xs.length) : Rd E S w (.slice (some ⟨b, off + j * E.sz, none⟩) (xs.length - j) (c - j)) (xs.drop j) := by
  refine ⟨_, _, by rw [List.length_drop], by rw [List.length_drop]; have := h.le; omega, by have := h.max; unfold maxLen; omega, (fun e => by cases e), fun hp => ?_⟩
  rw [List.length_drop] at hp
  obtain ⟨b', off', hA, hS, hb, hc⟩ := h.rd (by omega)
  cases hA
  refine ⟨b, _, rfl, hS, hb, fun i u hu => ?_⟩
  rw [Nat.add_assoc]
  refine hc _ u ?_
  rw [← E.flat_drop, List.getElem?_drop] at hu
  exact hu

set_option maxHeartbeats 400000 in
/-- cortegeref7.Drop. -/
theorem refDrop_calls (v : Value) (p : ByteArray) (xs : List File) (S : Fp) (w : World) (hR : Rd EF S w v xs) (hb : xs.length ≤ 1000000) :
    Calls Tryd.prog 23 #[v, .string p] w fun e w' => ∃ u, e = .returned u ∧ New EF 30 w.heap.size w' u (drF xs p) ∧ Ext w w' := by
  obtain ⟨A, c, rfl, hO⟩ := hR.open_
  have hlen := hO.len
  clear hR
  go_enter Tryd.func23, Tryd.ntmps23
  go_wp2_with fail
  go_loopw [5, 6] (fun o i wr => ∃ k : Nat, k ≤ xs.length ∧ i = .int .i64 k ∧ New EF 30 w.heap.size wr o (drF (xs.take k) p) ∧ Ext w wr) (fun _ i _ => xs.length - (intOf i).toNat)
  case atStart => exact ⟨0, Nat.zero_le _, rfl, New.nil _ _ _, Kp.refl _ _⟩
  case round =>
    obtain ⟨k, hk, rfl, hN, hx⟩ := hrel
    by_cases hlt : k < xs.length
    · have hd3 : decide ((k : Int) < (xs.length : Int)) = true := decide_eq_true (by omega)
      obtain ⟨b, off, rfl, _, hb, c0, c1⟩ := (hO.kp (hx.mono fun _ _ _ => trivial)).rd.file hlt
      have hlt' : (k : Int) < (xs.length : Int) := by omega
      have h0 : (0 : Int) ≤ (k : Int) := by omega
      have hw : IntKind.i64.wrap ((k : Int) + 1) = (k : Int) + 1 := IntWalk.i64_in _ (by omega)
      have hsn := drF_snoc xs p k hlt
      have hl2 : (drF (xs.take k) p).length ≤ k := Nat.le_trans (List.length_filter_le _ _) (by rw [List.length_take]; omega)
      obtain ⟨f, hf⟩ : ∃ f, xs[k] = f := ⟨_, rfl⟩
      rw [hf] at c0 c1 hsn
      have HS := Lib.hid hsn
      have HL := Lib.hid hl2
      clear hsn hf hl2
      cases hfp : (f.path.toList == p.toList) with
      | true =>
        go_wp2_with fail
        go_roundw
        case rel => exact ⟨k + 1, by omega, by go_num, by rw [HS.out, hfp]; simpa using hN, hx⟩
        case measure => simp [intOf]; omega
      | false =>
        go_wp2_with (at_builtin; refine stop ?_)
        refine list_append1 tiF f rfl rfl rfl hN hx rfl rfl rfl (by have := HL.out; omega) (by have := HL.out; unfold maxLen; omega) ?_
        intro v' w' hN' hx'
        obtain ⟨A', n', c', rfl⟩ := hN'.1.slice
        clear c0 c1
        go_wp2_with fail
        go_roundw
        case rel => exact ⟨k + 1, by omega, by go_num, by rw [HS.out, hfp]; exact hN', hx'⟩
        case measure => simp [intOf]; omega
    · have hd3 : decide ((k : Int) < (xs.length : Int)) = false := decide_eq_false (by omega)
      have hkl : xs.take k = xs := List.take_of_length_le (by omega)
      rw [hkl] at hN
      obtain ⟨A', n', c', rfl⟩ := hN.1.slice
      clear hkl
      go_wp2_with fail
      go_ret
      exact ⟨_, rfl, hN, hx⟩

end Go.Proofs.YtinafpbdlblcaaaDoor
