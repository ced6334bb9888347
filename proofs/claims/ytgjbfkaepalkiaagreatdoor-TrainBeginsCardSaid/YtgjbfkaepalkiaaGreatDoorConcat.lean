/-
  Rows that grow: appends onto a row that was made here; a slice's beginning and end; what a search has found so far. Rows with room. slices.Grow, slices.Concat at files.
-/
import Derived.Test.YtgjbfkaepalkiaaGreatDoorLaw0
import Derived.Test.YtgjbfkaepalkiaaGreatDoorTree2
import Derived.Deep.DeepAppendRoom
import Derived.Laws.MakeOwn
import Derived.Lib.AppendZerosOnto
namespace Go.Proofs.YtgjbfkaepalkiaaGreatDoor
open Go.RowKit
set_option linter.unusedVariables false
set_option linter.unusedSimpArgs false
attribute [local go_sem] Oper.semAt_some

theorem getF_snoc (xs : List File) (p : ByteArray) (k : Nat) (hk : k < xs.length) (hno : getF (xs.take k) p = none) : getF (xs.take (k + 1)) p = if xs[k].path.toList == p.toList then some xs[k] else none := by
  unfold getF at hno ⊢
  rw [take_snoc xs hk, List.find?_append, hno]
  by_cases h : xs[k].path.toList = p.toList <;> simp [h]
theorem getF_of_take {xs : List File} {p : ByteArray} {k : Nat} {f : File} (h : getF (xs.take k) p = some f) : getF xs p = some f := by
  unfold getF at h ⊢
  rw [← List.take_append_drop k xs, List.find?_append, h]; rfl


def drF (xs : List File) (p : ByteArray) : List File := xs.filter fun f => !(f.path.toList == p.toList)
theorem drF_snoc (xs : List File) (p : ByteArray) (k : Nat) (hk : k < xs.length) : drF (xs.take (k + 1)) p = drF (xs.take k) p ++ if xs[k].path.toList == p.toList then [] else [xs[k]] := by
  unfold drF
  rw [take_snoc xs hk, List.filter_append]
  cases h : (xs[k].path.toList == p.toList) <;> simp [h]

/-- Behind an append onto a row that was made here. -/
theorem New.grow {α : Type} {E : El α} {t : TypeId} {w0 w w1 w' : World} {v v' : Value} {xs ys : List α} (h : New E t w0.heap.size w v xs) (hx : Ext w0 w) (hx1 : Ext w w1) (hown : Own E t w' v' ys) (hk : Kp (fun k => v.ownBlock ≠ some k) w1 w') (hb : v'.ownBlock = v.ownBlock ∨ v'.ownBlock = some w1.heap.size) :
    New E t w0.heap.size w' v' ys ∧ Ext w0 w' := by
  have h1 := hx.size
  have h2 := hx1.size
  refine ⟨⟨hown, fun g hg => ?_⟩, (hx.trans hx1).trans' hk fun k hk _ e => by have := h.2 k e; omega⟩
  rcases hb with hb | hb
  · exact h.2 g (by rw [← hb]; exact hg)
  · rw [hb] at hg; simp at hg; omega

/-- The walk's step at an append of one element, onto a row that was made here. -/
theorem list_append1 {α : Type} {E : El α} {P : Program} {T e : TypeId} {bytes : Nat} (ti : TI E P T e bytes) {ops : Array Oper} {rest : List Oper} {o : Oper} {a : Act} {w0 w W : World} {Q : Exit → Act → World → Prop} {s x : Operand} (y : α) (hW : W = w.alloc (.cells (E.flat [y]).toArray e)) (hgd : o.guard = none)
    (ho : o.op = .call { callee := .builtin .append, args := #[s, x], argTypes := #[T, T] }) {v u : Value} {xs : List α} (hN : New E e w0.heap.size w v xs) (hx0 : Ext w0 w) (hu : u = .slice (some ⟨w.heap.size, 0, none⟩) 1 1) (hs : a.eval s = v) (hx : a.eval x = u)
    (hb : (xs.length + 1) * bytes ≤ 140737488355328) (hm : xs.length + 1 ≤ maxLen)
    (h : ∀ v' w', New E e w0.heap.size w' v' (xs ++ [y]) → Ext w0 w' → wpList P ops Q rest (a.put o.dst v') w') : wpList P ops Q (o :: rest) a W := by
  subst hW hu
  refine list_append (v := v) (xs := xs) (ys := [y]) ti hgd ho hs hx (hN.1.kp ((Kp.refl _ _).alloc _) (fun _ _ => trivial)) (Own.made w e [y] (by simp [maxLen])).rd hb hm ?_
  intro v' w' hO hK hB
  obtain ⟨h1, h2⟩ := hN.grow hx0 ((Kp.refl _ w).alloc _) hO hK hB
  exact h v' w' h1 h2

/-- Likewise, telling where the row lies. -/
theorem list_append1k {α : Type} {E : El α} {P : Program} {T e : TypeId} {bytes : Nat} (ti : TI E P T e bytes) {ops : Array Oper} {rest : List Oper} {o : Oper} {a : Act} {w0 w W : World} {Q : Exit → Act → World → Prop} {s x : Operand} (y : α) (hW : W = w.alloc (.cells (E.flat [y]).toArray e)) (hgd : o.guard = none)
    (ho : o.op = .call { callee := .builtin .append, args := #[s, x], argTypes := #[T, T] }) {v u : Value} {xs : List α} (hN : New E e w0.heap.size w v xs) (hx0 : Ext w0 w) (hu : u = .slice (some ⟨w.heap.size, 0, none⟩) 1 1) (hs : a.eval s = v) (hx : a.eval x = u)
    (hb : (xs.length + 1) * bytes ≤ 140737488355328) (hm : xs.length + 1 ≤ maxLen)
    (h : ∀ v' w', New E e w0.heap.size w' v' (xs ++ [y]) → Ext w0 w' → Kp (fun k => v.ownBlock ≠ some k) w w' → (∀ g, v'.ownBlock = some g → v.ownBlock = some g ∨ w.heap.size ≤ g) → wpList P ops Q rest (a.put o.dst v') w') : wpList P ops Q (o :: rest) a W := by
  subst hW hu
  refine list_append (v := v) (xs := xs) (ys := [y]) ti hgd ho hs hx (hN.1.kp ((Kp.refl _ _).alloc _) (fun _ _ => trivial)) (Own.made w e [y] (by simp [maxLen])).rd hb hm ?_
  intro v' w' hO hK hB
  obtain ⟨h1, h2⟩ := hN.grow hx0 ((Kp.refl _ w).alloc _) hO hK hB
  refine h v' w' h1 h2 (((Kp.refl _ w).alloc _).trans' hK fun _ _ h => h) fun g hg => ?_
  rcases hB with hB | hB
  · exact .inl (by rw [← hB]; exact hg)
  · rw [hB] at hg
    injection hg with hg
    simp at hg
    exact .inr (by omega)

/-- At an append, in a region that draws its order. -/
theorem step_append_new {α : Type} {E : El α} {P : Program} {T e : TypeId} {bytes : Nat} (ti : TI E P T e bytes) {ops : Array Oper} {o : Oper} {a : Act} {w0 W : World} {K : Act → World → Prop} {Q : Exit → Act → World → Prop} {EE : Prop} {s x : Operand} (hgd : o.guard = none)
    (ho : o.op = .call { callee := .builtin .append, args := #[s, x], argTypes := #[T, T] }) {v u : Value} {xs ys : List α} {S : Fp} (hN : New E e w0.heap.size W v xs) (hx0 : Ext w0 W) (hrd : Rd E S W u ys) (hs : a.eval s = v) (hx : a.eval x = u)
    (hb : (xs.length + ys.length) * bytes ≤ 140737488355328) (hm : xs.length + ys.length ≤ maxLen)
    (h : ∀ v' w', New E e w0.heap.size w' v' (xs ++ ys) → Ext w0 w' → Kp (fun k => v.ownBlock ≠ some k) W w' → K (a.put o.dst v') w') :
    if Region.wanted o (yielded ops a.tmps) = true then Oper.wp P o a W K Q else EE := by
  have hw : Region.wanted o (yielded ops a.tmps) = true := by simp [Region.wanted, hgd]
  rw [if_pos hw]
  refine wp_append ti ho hs hx hN.1 hrd hb hm ?_
  intro v' w' hO hK hB
  obtain ⟨h1, h2⟩ := hN.grow hx0 (Kp.refl _ W) hO hK hB
  exact h v' w' h1 h2 hK

/-- A slice's beginning, a slice's end. -/
theorem Opn.takeRd {α : Type} {E : El α} {S : Fp} {w : World} {A : Option Addr} {c : Nat} {xs : List α} (h : Opn E S w A c xs) {j : Nat} (hj : j ≤ xs.length) : Rd E S w (.slice A j c) (xs.take j) := by
  have hl : (xs.take j).length = j := by rw [List.length_take]; omega
  refine ⟨A, c, by rw [hl], by rw [hl]; exact Nat.le_trans hj h.le, by have := h.max; simpa [maxLen] using this, h.nil, fun hp => ?_⟩
  obtain ⟨b, off, hA, hS, hb, hc⟩ := h.rd (by rw [hl] at hp; omega)
  refine ⟨b, off, hA, hS, hb, fun i u hu => hc i u ?_⟩
  rw [← E.flat_take] at hu
  rw [List.getElem?_take] at hu
  split at hu
  · exact hu
  · cases hu
theorem Opn.dropRd {α : Type} {E : El α} {S : Fp} {w : World} {b off : Nat} {c : Nat} {xs : List α} (h : Opn E S w (some ⟨b, off, none⟩) c xs) {j : Nat} (hj : j ≤ xs.length) : Rd E S w (.slice (some ⟨b, off + j * E.sz, none⟩) (xs.length - j) (c - j)) (xs.drop j) := by
  refine ⟨_, _, by rw [List.length_drop], by rw [List.length_drop]; have := h.le; omega, by have := h.max; unfold maxLen; omega, (fun e => by cases e), fun hp => ?_⟩
  rw [List.length_drop] at hp
  obtain ⟨b', off', hA, hS, hb, hc⟩ := h.rd (by omega)
  cases hA
  refine ⟨b, _, rfl, hS, hb, fun i u hu => ?_⟩
  rw [Nat.add_assoc]
  refine hc _ u ?_
  rw [← E.flat_drop, List.getElem?_drop] at hu
  exact hu

end Go.Proofs.YtgjbfkaepalkiaaGreatDoor

namespace Go.Proofs.YtgjbfkaepalkiaaGreatDoor
open Go.RowKit
set_option linter.unusedVariables false
set_option linter.unusedSimpArgs false
attribute [local go_sem] Oper.semAt_some

/-- make, of no elements and room for c. -/
theorem run_make0 {α : Type} {E : El α} {P : Program} {T e : TypeId} {bytes : Nat} (ti : TI E P T e bytes) (kl kc : IntKind) (c : Nat) (hb : bytes * c ≤ 281474976710656) (hm : c ≤ maxLen) :
    ∃ cs : Array Value, cs.size = c * E.sz ∧ ∀ (l c' : Int), l = 0 → c' = c → ∀ w : World, (Instr.makeSlice T (.int kl l) (.int kc c')).run P w = .ok (.slice (some ⟨w.heap.size, 0, none⟩) 0 c) (w.alloc (.cells cs e)) := by
  obtain ⟨hu, h0, i, z, hi, hz, hs, hby, hzs⟩ := ti
  refine ⟨madeCells z.cells (c * E.sz), size_madeCells _ _, ?_⟩
  rintro l c' rfl rfl w
  have hb' : (i.bytes : Int) * (c : Int) ≤ 281474976710656 := by
    have h : ((i.bytes * c : Nat) : Int) ≤ 281474976710656 := by rw [hby]; omega
    rwa [Int.natCast_mul] at h
  have := run_make (P := P) w T e i z hu hi hz kl kc 0 c (by omega) (by omega) hb' (by unfold maxLen at hm; omega)
  simp only [Int.toNat_natCast, hs] at this
  exact this

/-- The walk's step at an append that finds room. -/
theorem list_append_room {α : Type} {E : El α} {P : Program} {T e : TypeId} {bytes : Nat} (ti : TI E P T e bytes) {ops : Array Oper} {rest : List Oper} {o : Oper} {a : Act} {w : World} {Q : Exit → Act → World → Prop} {s x : Operand} (hgd : o.guard = none)
    (ho : o.op = .call { callee := .builtin .append, args := #[s, x], argTypes := #[T, T] }) {g n c : Nat} {u : Value} (hs : a.eval s = .slice (some ⟨g, 0, none⟩) n c) (hx : a.eval x = u) {xs ys : List α} {S : Fp} (hown : Own E e w (.slice (some ⟨g, 0, none⟩) n c) xs) (hn : xs.length = n) (hrd : Rd E S w u ys) (hroom : n + ys.length ≤ c)
    (h : ∀ w', Own E e w' (.slice (some ⟨g, 0, none⟩) (n + ys.length) c) (xs ++ ys) → Kp (fun k => k ≠ g) w w' → wpList P ops Q rest (a.put o.dst (.slice (some ⟨g, 0, none⟩) (n + ys.length) c)) w') : wpList P ops Q (o :: rest) a w := by
  subst hn
  obtain ⟨hu, h0, i, z, hi, hz, hsz, hby, hzs⟩ := ti
  obtain ⟨A, c', rfl, _, _, _, hA⟩ := hrd
  have fin : ∀ w', w'.ownsRow 0 e E.sz (.slice (some ⟨g, 0, none⟩) (xs.length + ys.length) c) (xs.length + ys.length) (E.flat xs ++ E.flat ys) → w.grownBy w' (some g) → wpList P ops Q rest (a.put o.dst (.slice (some ⟨g, 0, none⟩) (xs.length + ys.length) c)) w' := by
    intro w' h1 h2
    refine h w' ?_ ((Kp.refl _ w).grown h2 fun k hk => .inr (by cases hk; simp))
    unfold Own
    rw [E.flat_append, List.length_append]
    exact h1
  cases A with
  | none =>
    have hy : ys = [] := by
      rcases ys with _ | ⟨y, ys⟩
      · rfl
      · obtain ⟨_, _, h, _⟩ := hA (by simp)
        cases h
    subst hy
    have hr := run_append_of_nil' (P := P) (w := w) T o.type e i E.sz hu hi (.slice (some ⟨g, 0, none⟩) xs.length c) _ _ hown c'
    refine wpList_plain hgd fun K hK => ?_
    unfold Oper.wp execOp
    simp only [ho, resolve, invoke, builtin, Sem.run_bind, Sem.run_pure, Result.andThen_ok, List.map_toArray, List.map_cons, List.map_nil, hs, hx]
    rw [show (Value.slice none ([] : List α).length c') = .slice none 0 c' from rfl, hr]
    refine hK _ _ (h w ?_ (Kp.refl _ _))
    simpa using hown
  | some ad =>
    have hcells : ∀ j q, (E.flat ys)[j]? = some q → w.cell? (ad.add j) = some q := by
      intro j q hq
      have hp : 0 < ys.length := by
        rcases ys with _ | ⟨y, ys⟩
        · simp [El.flat] at hq
        · simp
      obtain ⟨b, off, h, _, _, hc⟩ := hA hp
      cases h
      have := hc j q hq
      unfold Addr.add
      split
      · rename_i hj; subst hj; simpa using this
      · exact this
    exact wpList_append_own_spare w hgd s x T ho 0 e i E.sz hu hi hsz g xs.length c (E.flat xs) hs hown ad ys.length c' (E.flat ys) hx (E.flat_length ys) hcells (E.flat_one_cell ys) hroom fin

/-- A row whose every cell is known. -/
theorem Own.block {α : Type} {E : El α} {t : TypeId} {w : World} {g n c : Nat} {xs : List α} (h : Own E t w (.slice (some ⟨g, 0, none⟩) n c) xs) :
    ∃ zs : List Value, Blk w g t (E.flat xs ++ zs).toArray ∧ zs.length = (c - n) * E.sz ∧ xs.length = n ∧ n ≤ c ∧ c ≤ maxLen := by
  rcases h.2 with ⟨h1, _⟩ | ⟨g', cap, cur, h1, hb, hg, hnc, hcm, hcs, ht⟩
  · cases h1
  · injection h1 with h1 h1' h1''
    injection h1 with h1
    injection h1 with h1
    subst h1 h1' h1''
    refine ⟨cur.toList.drop (xs.length * E.sz), ?_, ?_, rfl, hnc, hcm⟩
    · rw [← ht, List.take_append_drop]; exact hg
    · rw [List.length_drop, Array.length_toList, hcs, Nat.sub_mul]

end Go.Proofs.YtgjbfkaepalkiaaGreatDoor

namespace Go.Proofs.YtgjbfkaepalkiaaGreatDoor
open Go.RowKit
set_option linter.unusedVariables false
set_option linter.unusedSimpArgs false
attribute [local go_sem] Oper.semAt_some

/-- A slice's value. -/
structure SliceV where
  a : Option Addr
  n : Nat
  c : Nat
def SliceV.val (s : SliceV) : Value := .slice s.a s.n s.c
def ESL : El SliceV := ⟨fun s => [s.val], 1, fun _ => rfl, fun x u hu => by simp only [List.mem_cons, List.not_mem_nil, or_false] at hu; subst hu; rfl⟩

/-- Each slice reads as its list. -/
inductive RdAll (S : Fp) (w : World) : List SliceV → List (List File) → Prop
  | nil : RdAll S w [] []
  | cons {s : SliceV} {xs : List File} {ss : List SliceV} {xss : List (List File)} (h : Rd EF S w s.val xs) (t : RdAll S w ss xss) : RdAll S w (s :: ss) (xs :: xss)
theorem RdAll.kp {S : Fp} {w w' : World} {ss : List SliceV} {xss : List (List File)} (h : RdAll S w ss xss) (hk : Kp S w w') : RdAll S w' ss xss := by
  induction h with
  | nil => exact .nil
  | cons h _ ih => exact .cons (h.kp hk) ih
theorem RdAll.length {S : Fp} {w : World} {ss : List SliceV} {xss : List (List File)} (h : RdAll S w ss xss) : ss.length = xss.length := by
  induction h with
  | nil => rfl
  | cons _ _ ih => simp [ih]
theorem RdAll.get {S : Fp} {w : World} {ss : List SliceV} {xss : List (List File)} (h : RdAll S w ss xss) : ∀ (k : Nat) (hk : k < ss.length) (hk' : k < xss.length), Rd EF S w ss[k].val xss[k] := by
  induction h with
  | nil => intro k hk; simp at hk
  | cons h _ ih =>
    intro k hk hk'
    cases k with
    | zero => exact h
    | succ k => exact ih k (by simpa using hk) (by simpa using hk')

set_option maxHeartbeats 400000 in
/-- slices.Grow, of nil. -/
theorem grow_calls (n : Nat) (w : World) (hb : n ≤ 100000) :
    Calls Tryz.prog 183 #[.slice none 0 0, .int .i64 n] w fun e w' => ∃ u, e = .returned u ∧ New EF 39 w.heap.size w' u [] ∧ Ext w w' := by
  by_cases h0 : n = 0
  · subst h0
    go_enter Tryz.func183, Tryz.ntmps183
    go_wp2_with fail
    go_ret
    exact ⟨_, rfl, New.nil _ _ _, Kp.refl _ _⟩
  · have hd : decide ((0 : Int) < (n : Int)) = true := decide_eq_true (by omega)
    have hd1 : decide (0 < n) = true := decide_eq_true (by omega)
    have hd2 : decide ((n : Int) < 0) = false := decide_eq_false (by omega)
    obtain ⟨i, z, hi, hz, hs, hby, hzs⟩ := (tiF).info
    have hs2 : i.size = 2 := hs
    have happ := fun ty => Lib.run_append_grow_zeros (P := Tryz.prog) w 30 3 ty 39 i z .i64 .i64 tiF.under Tryz.underlying3 hi hz none 0 0 [] (run_firstCells_none w.drew i.size 0 0 0) n (by omega) (by rw [hs2]; omega) (by omega) (by omega) (by rw [hby]; omega) (growslice_fits (by omega) (by rw [hby]; omega))
    simp only [Nat.zero_add] at happ
    have hgn : n ≤ grownCap w n 0 39 := grownCap_ge w _ _ _
    have hgm : grownCap w n 0 39 ≤ maxLen := grownCap_le_maxLen w _ _ _ (by unfold maxLen; omega)
    obtain ⟨G, hG⟩ : ∃ G, grownCap w n 0 39 = G := ⟨_, rfl⟩
    rw [hG] at happ hgn hgm
    obtain ⟨cs, hcs⟩ : ∃ cs, (([] : List Value).toArray ++ Builtin.zeroCells z.cells n ++ Builtin.zeroCells z.cells (G - n)) = cs := ⟨_, rfl⟩
    rw [hcs] at happ
    have hcz : cs.size = G * EF.sz := by
      rw [← hcs]
      simp only [Array.size_append, Builtin.zeroCells, Array.size_map, Array.size_range, hzs]
      show 0 + n * 2 + (G - n) * 2 = G * 2
      omega
    have h00 : (0 : Int) ≤ (n : Int) := by omega
    have HCZ := Lib.hid hcz
    have HAPP := Lib.hid happ
    clear h0 hi hz hs hby hzs hG hs2 hcs hcz happ
    go_enter Tryz.func183, Tryz.ntmps183
    go_wp2_with (at_builtin; refine Lib.wpList_append_run _ rfl _ _ _ _ rfl _ _ rfl rfl _ _ (HAPP.out _) ?_)
    go_ret
    refine ⟨_, rfl, ⟨⟨rfl, .inr ⟨w.heap.size, G, cs, rfl, Nat.zero_le _, heap_alloc_new w.drew _, Nat.zero_le _, hgm, HCZ.out, by simp [El.flat]⟩⟩, fun g hg => ?_⟩, ((Kp.refl _ w).drew.alloc _)⟩
    simp [Value.ownBlock] at hg; omega

theorem RdA.slice {S : Fp} {w : World} {A : Option Addr} {ss : List SliceV} (h : RdA ESL S w A ss) {i : Nat} (hi : i < ss.length) :
    ∃ b off, A = some ⟨b, off, none⟩ ∧ S b ∧ b < w.heap.size ∧ w.cell? ⟨b, off + i, none⟩ = some ss[i].val := by
  obtain ⟨b, off, hA, hs, hb, hc⟩ := h.at_ hi
  exact ⟨b, off, hA, hs, hb, by have := hc 0 _ rfl; simpa [ESL] using this⟩

def sumL (xss : List (List File)) : Nat := xss.flatten.length
theorem sumL_take (xss : List (List File)) (k : Nat) (hk : k < xss.length) : sumL (xss.take (k + 1)) = sumL (xss.take k) + xss[k].length := by
  unfold sumL
  rw [take_snoc xss hk, List.flatten_append, List.length_append]
  simp
theorem sumL_le (xss : List (List File)) (k : Nat) : sumL (xss.take k) ≤ sumL xss := by
  unfold sumL
  have : xss.flatten = (xss.take k).flatten ++ (xss.drop k).flatten := by rw [← List.flatten_append, List.take_append_drop]
  rw [this, List.length_append]; omega

set_option maxHeartbeats 400000 in
/-- slices.Concat. -/
theorem concat_calls (v : Value) (ss : List SliceV) (xss : List (List File)) (S : Fp) (w : World) (hV : Rd ESL S w v ss) (hA : RdAll S w ss xss) (hb : sumL xss ≤ 100000) :
    Calls Tryz.prog 158 #[v] w fun e w' => ∃ u, e = .returned u ∧ New EF 39 w.heap.size w' u xss.flatten ∧ Ext w w' := by
  obtain ⟨A, c, rfl, hO⟩ := hV.open_
  have hlen := hO.len
  have hl := hA.length
  obtain ⟨n, hn⟩ : ∃ n, ss.length = n := ⟨_, rfl⟩
  rw [hn] at hlen hV hl ⊢
  have HN := Lib.hid hn
  have HL := Lib.hid hl
  clear hn hl
  go_enter Tryz.func158, Tryz.ntmps158
  go_wp2_with fail
  go_loopw [3, 11] (fun q i wr => ∃ k : Nat, k ≤ n ∧ i = .int .i64 k ∧ q = .int .i64 (sumL (xss.take k) : Nat) ∧ w = wr) (fun _ i _ => n - (intOf i).toNat)
  case atStart => exact ⟨0, Nat.zero_le _, rfl, rfl, rfl⟩
  case round =>
    obtain ⟨k, hk, rfl, rfl, rfl⟩ := hrel
    by_cases hlt : k < n
    · have hd3 : decide ((k : Int) < (n : Int)) = true := decide_eq_true (by omega)
      have hkx : k < xss.length := by have := HL.out; omega
      have hks : k < ss.length := by have := HN.out; omega
      obtain ⟨b, off, rfl, _, hbl, c0⟩ := hO.rd.slice hks
      obtain ⟨a1, c1, hv1, hO1⟩ := (hA.get k hks hkx).open_
      have hsl := sumL_take xss k hkx
      have hle := sumL_le xss (k + 1)
      obtain ⟨m, hm⟩ : ∃ m, sumL (xss.take k) = m := ⟨_, rfl⟩
      obtain ⟨l, hl⟩ : ∃ l, xss[k].length = l := ⟨_, rfl⟩
      have hll := hO1.len
      rw [hv1, hl] at c0
      rw [hl] at hll
      rw [hm, hl] at hsl
      rw [hsl] at hle
      rw [hm]
      have hlt' : (k : Int) < (n : Int) := by omega
      have h0 : (0 : Int) ≤ (k : Int) := by omega
      have hw : IntKind.i64.wrap ((k : Int) + 1) = (k : Int) + 1 := IntWalk.i64_in _ (by omega)
      have hneg : decide ((m : Int) + (l : Int) < 0) = false := decide_eq_false (by omega)
      have HS := Lib.hid hsl
      clear hsl hm hl hv1
      go_wp2_with fail
      go_roundw
      case rel => exact ⟨k + 1, by omega, by go_num, by rw [HS.out]; go_num, trivial⟩
      case measure => simp [intOf]; omega
    · have hd3 : decide ((k : Int) < (n : Int)) = false := decide_eq_false (by omega)
      have hall : xss.take k = xss := List.take_of_length_le (by have := HL.out; omega)
      rw [hall]
      clear hall
      go_wp2_with (go_at_call 183; refine stop ?_)
      refine (grow_calls _ w hb).mono ?_
      rintro e w1 ⟨u, rfl, hN1, hx1⟩
      go_wp2_with fail
      go_loopw [6, 27] (fun o i wr => ∃ k : Nat, k ≤ n ∧ i = .int .i64 k ∧ New EF 39 w.heap.size wr o (xss.take k).flatten ∧ Ext w wr) (fun _ i _ => n - (intOf i).toNat)
      case atStart => exact ⟨0, Nat.zero_le _, rfl, hN1, hx1⟩
      case round =>
        obtain ⟨k2, hk2, rfl, hN, hx⟩ := hrel
        rename World => wo
        by_cases hlt2 : k2 < n
        · have hd4 : decide ((k2 : Int) < (n : Int)) = true := decide_eq_true (by omega)
          have hkx : k2 < xss.length := by have := HL.out; omega
          have hks : k2 < ss.length := by have := HN.out; omega
          obtain ⟨b, off, rfl, _, hbl, c0⟩ := (hO.kp (hx.mono fun _ _ _ => trivial)).rd.slice hks
          have hRd := (hA.kp (hx.mono fun _ _ _ => trivial)).get k2 hks hkx
          obtain ⟨a1, c1, hv1, hO1⟩ := hRd.open_
          have hfl : (xss.take (k2 + 1)).flatten = (xss.take k2).flatten ++ xss[k2] := by rw [take_snoc xss hkx, List.flatten_append]; simp
          have hle1 : sumL (xss.take (k2 + 1)) = sumL (xss.take k2) + xss[k2].length := sumL_take xss k2 hkx
          have hle2 := sumL_le xss (k2 + 1)
          have hle : (xss.take k2).flatten.length + xss[k2].length ≤ 100000 := by unfold sumL at hle1 hle2 hb; omega
          obtain ⟨l, hl⟩ : ∃ l, xss[k2] = l := ⟨_, rfl⟩
          rw [hv1] at c0 hRd
          rw [hl] at c0 hRd hle hfl
          have hlt' : (k2 : Int) < (n : Int) := by omega
          have h0 : (0 : Int) ≤ (k2 : Int) := by omega
          have hw : IntKind.i64.wrap ((k2 : Int) + 1) = (k2 : Int) + 1 := IntWalk.i64_in _ (by omega)
          have HF := Lib.hid hfl
          have HLE := Lib.hid hle
          clear hfl hle hle1 hle2 hl hv1 hO1
          go_wp2_with (at_builtin; refine stop ?_)
          refine list_append (v := u6) (u := .slice a1 l.length c1) (ys := l) tiF rfl rfl rfl rfl hN.1 hRd (by have := HLE.out; omega) (by have := HLE.out; unfold maxLen; omega) ?_
          intro v' w' hO' hK' hB'
          obtain ⟨hN', hx'⟩ := hN.grow hx (Kp.refl _ wo) hO' hK' hB'
          obtain ⟨A', n', c', rfl⟩ := hN'.1.slice
          clear c0
          go_wp2_with fail
          go_roundw
          case rel => exact ⟨k2 + 1, by omega, by go_num, by rw [HF.out]; exact hN', hx'⟩
          case measure => simp [intOf]; omega
        · have hd4 : decide ((k2 : Int) < (n : Int)) = false := decide_eq_false (by omega)
          have hall : xss.take k2 = xss := List.take_of_length_le (by have := HL.out; omega)
          rw [hall] at hN
          clear hall
          obtain ⟨A', n', c', rfl⟩ := hN.1.slice
          go_wp2_with fail
          go_ret
          exact ⟨_, rfl, hN, hx⟩

end Go.Proofs.YtgjbfkaepalkiaaGreatDoor
