/-
  Slices that read as lists (Rd), rows of one's own (Own, New), the file type.
-/
import Derived.Test.YtgjbfkaepalkiaaGreatDoorBase
import Derived.Test.YtgjbfkaepalkiaaGreatDoorProg
import Derived.Shelf.RegionOpen
import Derived.WalkSpells
namespace Go.Proofs.YtgjbfkaepalkiaaGreatDoor
open Go.RowKit
set_option linter.unusedVariables false
set_option linter.unusedSimpArgs false

/-- A kind of elements: their cells. -/
structure El (α : Type) where
  enc : α → List Value
  sz : Nat
  len : ∀ x, (enc x).length = sz
  one : ∀ x, ∀ u ∈ enc x, u.oneCell' = true

section
variable {α : Type} (E : El α)
def El.flat (xs : List α) : List Value := xs.flatMap E.enc
theorem El.flat_nil : E.flat [] = [] := rfl
theorem El.flat_cons (x : α) (xs : List α) : E.flat (x :: xs) = E.enc x ++ E.flat xs := by simp [El.flat]
theorem El.flat_append (xs ys : List α) : E.flat (xs ++ ys) = E.flat xs ++ E.flat ys := by simp [El.flat]
theorem El.flat_one (x : α) : E.flat [x] = E.enc x := by simp [El.flat]
theorem El.flat_length (xs : List α) : (E.flat xs).length = xs.length * E.sz := by
  induction xs with
  | nil => simp [El.flat]
  | cons x xs ih => rw [El.flat_cons, List.length_append, E.len, ih, List.length_cons, Nat.add_mul]; omega
theorem El.flat_get (xs : List α) (i f : Nat) (hi : i < xs.length) (hf : f < E.sz) : (E.flat xs)[i * E.sz + f]? = (E.enc xs[i])[f]? := by
  induction xs generalizing i with
  | nil => simp at hi
  | cons x xs ih =>
    rw [El.flat_cons]
    cases i with
    | zero => rw [List.getElem?_append_left (by rw [E.len]; omega)]; simp
    | succ i =>
      have hx : E.sz ≤ (i + 1) * E.sz + f := by rw [Nat.add_mul]; omega
      rw [List.getElem?_append_right (by rw [E.len]; exact hx), E.len, show (i + 1) * E.sz + f - E.sz = i * E.sz + f by rw [Nat.add_mul]; omega, ih i (by simpa using hi)]
      simp
theorem El.flat_one_cell (xs : List α) : ∀ u ∈ E.flat xs, u.oneCell' = true := by
  intro u hu
  obtain ⟨x, _, hx⟩ := List.mem_flatMap.1 hu
  exact E.one x u hx
theorem El.flat_take (xs : List α) (n : Nat) : (E.flat xs).take (n * E.sz) = E.flat (xs.take n) := by
  induction xs generalizing n with
  | nil => simp [El.flat]
  | cons x xs ih =>
    cases n with
    | zero => simp [El.flat]
    | succ n => rw [List.take_succ_cons, El.flat_cons, El.flat_cons, List.take_append, E.len, Nat.add_mul, Nat.one_mul, Nat.add_sub_cancel, ih, List.take_of_length_le (by rw [E.len]; omega)]
theorem El.flat_drop (xs : List α) (n : Nat) : (E.flat xs).drop (n * E.sz) = E.flat (xs.drop n) := by
  induction xs generalizing n with
  | nil => simp [El.flat]
  | cons x xs ih =>
    cases n with
    | zero => simp [El.flat]
    | succ n => rw [List.drop_succ_cons, El.flat_cons, List.drop_append, E.len, Nat.add_mul, Nat.one_mul, Nat.add_sub_cancel, ih, List.drop_of_length_le (by rw [E.len]; omega), List.nil_append]

/-- What a slice's address leads to. -/
def RdA (S : Fp) (w : World) (A : Option Addr) (xs : List α) : Prop :=
  0 < xs.length → ∃ b off, A = some ⟨b, off, none⟩ ∧ S b ∧ b < w.heap.size ∧ ∀ j u, (E.flat xs)[j]? = some u → w.cell? ⟨b, off + j, none⟩ = some u

/-- A slice reads as a list; its cells lie in blocks of S. -/
def Rd (S : Fp) (w : World) (v : Value) (xs : List α) : Prop :=
  ∃ A c, v = .slice A xs.length c ∧ xs.length ≤ c ∧ c ≤ maxLen ∧ (A = none → c = 0) ∧ RdA E S w A xs

/-- The same, opened: closed to the walk. -/
structure Opn (S : Fp) (w : World) (A : Option Addr) (c : Nat) (xs : List α) : Prop where
  le : xs.length ≤ c
  max : c ≤ 9223372036854775807
  nil : A = none → c = 0
  rd : RdA E S w A xs

/-- A row of one's own. -/
def Own (t : TypeId) (w : World) (v : Value) (xs : List α) : Prop := w.ownsRow 0 t E.sz v xs.length (E.flat xs)

/-- A row of one's own, made since the heap had n blocks. -/
def New (t : TypeId) (n : Nat) (w : World) (v : Value) (xs : List α) : Prop := Own E t w v xs ∧ ∀ g, v.ownBlock = some g → n ≤ g
end

section
variable {α : Type} {E : El α} {S T : Fp} {w w' : World} {A : Option Addr} {v : Value} {xs ys : List α} {t : TypeId} {n : Nat}

theorem RdA.kp (h : RdA E S w A xs) (hk : Kp S w w') : RdA E S w' A xs := fun hp => by
  obtain ⟨b, off, hA, hs, hb, hc⟩ := h hp
  exact ⟨b, off, hA, hs, hk.lt hb, fun j u hu => (hk.cell (p := ⟨b, off + j, none⟩) hb hs).trans (hc j u hu)⟩
theorem RdA.wide (h : RdA E S w A xs) (hs : ∀ k, S k → T k) : RdA E T w A xs := fun hp => by
  obtain ⟨b, off, hA, hS, hb, hc⟩ := h hp
  exact ⟨b, off, hA, hs _ hS, hb, hc⟩
theorem RdA.at_ (h : RdA E S w A xs) {i : Nat} (hi : i < xs.length) : ∃ b off, A = some ⟨b, off, none⟩ ∧ S b ∧ b < w.heap.size ∧ ∀ f u, (E.enc xs[i])[f]? = some u → w.cell? ⟨b, off + i * E.sz + f, none⟩ = some u := by
  obtain ⟨b, off, hA, hs, hb, hc⟩ := h (by omega)
  refine ⟨b, off, hA, hs, hb, fun f u hu => ?_⟩
  have hf : f < E.sz := by rw [← E.len xs[i]]; exact (List.getElem?_eq_some_iff.1 hu).1
  rw [Nat.add_assoc]
  exact hc _ u (by rw [E.flat_get xs i f hi hf]; exact hu)
theorem Rd.kp (h : Rd E S w v xs) (hk : Kp S w w') : Rd E S w' v xs := by
  obtain ⟨A, c, hv, h1, h2, h3, h4⟩ := h
  exact ⟨A, c, hv, h1, h2, h3, h4.kp hk⟩
theorem Rd.wide (h : Rd E S w v xs) (hs : ∀ k, S k → T k) : Rd E T w v xs := by
  obtain ⟨A, c, hv, h1, h2, h3, h4⟩ := h
  exact ⟨A, c, hv, h1, h2, h3, h4.wide hs⟩
theorem Rd.open_ (h : Rd E S w v xs) : ∃ A c, v = .slice A xs.length c ∧ Opn E S w A c xs := by
  obtain ⟨A, c, hv, h1, h2, h3, h4⟩ := h
  exact ⟨A, c, hv, h1, by simpa [maxLen] using h2, h3, h4⟩
theorem Opn.shut {c : Nat} (h : Opn E S w A c xs) : Rd E S w (.slice A xs.length c) xs := ⟨A, c, rfl, h.le, by have := h.max; simpa [maxLen] using this, h.nil, h.rd⟩
theorem Opn.len {c : Nat} (h : Opn E S w A c xs) : xs.length ≤ 9223372036854775807 := Nat.le_trans h.le h.max
theorem Opn.kp {c : Nat} (h : Opn E S w A c xs) (hk : Kp S w w') : Opn E S w' A c xs := ⟨h.le, h.max, h.nil, h.rd.kp hk⟩
theorem Opn.none_ {c : Nat} (h : Opn E S w none c xs) : xs = [] ∧ c = 0 := by
  have h0 := h.nil rfl
  have h1 := h.le
  exact ⟨List.eq_nil_of_length_eq_zero (by omega), h0⟩
theorem Rd.nil (S : Fp) (w : World) : Rd E S w (.slice none 0 0) ([] : List α) := ⟨none, 0, rfl, Nat.le_refl _, Nat.zero_le _, fun _ => rfl, fun h => by simp at h⟩

theorem Own.lt (h : Own E t w v xs) {g : Nat} (hg : v.ownBlock = some g) : g < w.heap.size := (World.ownsRow.lt h g hg).2
theorem Own.rd (h : Own E t w v xs) : Rd E (fun k => v.ownBlock = some k) w v xs := by
  obtain ⟨hl, h2⟩ := h
  rcases h2 with ⟨rfl, hn⟩ | ⟨g, cap, cur, rfl, _, hg, hnc, hcm, hcs, htake⟩
  · have hx : xs = [] := List.eq_nil_of_length_eq_zero hn
    subst hx
    exact Rd.nil _ _
  · refine ⟨_, cap, rfl, hnc, hcm, (fun h => by cases h), fun hp => ⟨g, 0, rfl, rfl, (Array.getElem?_eq_some_iff.1 hg).1, fun j u hu => ?_⟩⟩
    rw [Nat.zero_add, cell_of_row w g j cur t (0, 0) hg]
    rw [← htake, List.getElem?_take] at hu
    split at hu
    · simpa using hu
    · cases hu
theorem Own.kp (h : Own E t w v xs) (hk : Kp S w w') (hs : ∀ g, v.ownBlock = some g → S g) : Own E t w' v xs := by
  obtain ⟨hl, h2⟩ := h
  refine ⟨hl, ?_⟩
  rcases h2 with h2 | ⟨g, cap, cur, rfl, hb, hg, rest⟩
  · exact .inl h2
  · exact .inr ⟨g, cap, cur, rfl, hb, hk.heap (hs g rfl) hg, rest⟩
theorem Own.slice (h : Own E t w v xs) : ∃ A n c, v = .slice A n c := by
  obtain ⟨A, c, hv, _⟩ := h.rd
  exact ⟨A, _, c, hv⟩
theorem Own.nil (w : World) (t : TypeId) : Own E t w (.slice none 0 0) ([] : List α) := World.ownsRow_nil w 0 t E.sz
theorem New.kp (h : New E t n w v xs) (hk : Kp S w w') (hs : ∀ g, v.ownBlock = some g → S g) : New E t n w' v xs := ⟨h.1.kp hk hs, h.2⟩
theorem New.ext (h : New E t n w v xs) (hk : Ext w w') : New E t n w' v xs := ⟨h.1.kp hk fun _ _ => trivial, h.2⟩
theorem New.rd (h : New E t n w v xs) : Rd E (fun k => n ≤ k) w v xs := h.1.rd.wide fun k hk => h.2 k hk
theorem New.less {m : Nat} (h : New E t n w v xs) (hm : m ≤ n) : New E t m w v xs := ⟨h.1, fun g hg => Nat.le_trans hm (h.2 g hg)⟩
theorem New.nil (n : Nat) (w : World) (t : TypeId) : New E t n w (.slice none 0 0) ([] : List α) := ⟨Own.nil w t, fun g hg => by simp [Value.ownBlock] at hg⟩
end

/-! ### append -/

/-- What is known of an element's type. -/
structure TI {α : Type} (E : El α) (P : Program) (T e : TypeId) (bytes : Nat) : Prop where
  under : P.underlying T = some (.slice e)
  sz : 0 < E.sz
  info : ∃ i z, P.info? e = some i ∧ i.zero = some z ∧ i.size = E.sz ∧ i.bytes = bytes ∧ z.cells.size = E.sz

theorem TI.mk' {α : Type} {E : El α} {P : Program} {T e : TypeId} {bytes : Nat} {z : Value} (hT : P.underlying T = some (.slice e)) (h : (P.info? e).map (fun i => (i.zero, i.size, i.bytes)) = some (some z, E.sz, bytes)) (hz : z.cells.size = E.sz) (h0 : 0 < E.sz) : TI E P T e bytes := by
  obtain ⟨i, hi, h1, h2, h3⟩ := info_parts h
  exact ⟨hT, h0, i, z, hi, h1, h2, h3, hz⟩

theorem run_append_of_nil' {P : Program} {w : World} (t ty e : TypeId) (i : TypeInfo) (size : Nat) (ht : P.underlying t = some (.slice e)) (hi : P.info? e = some i)
    (v : Value) (n : Nat) (xs : List Value) (hown : w.ownsRow 0 e size v n xs) (c : Nat) : (Builtin.append_ #[t, t] ty #[v, .slice none 0 c]).run P w = .ok v w := by
  rcases hown.2 with ⟨rfl, rfl⟩ | ⟨g, cap, cur, rfl, _, _, hnc, _⟩
  · simp [Builtin.append_, run_underlying ht, sizeOf, typeInfo, hi, Builtin.lenOf, Builtin.firstCells]
  · simp [Builtin.append_, run_underlying ht, sizeOf, typeInfo, hi, Builtin.lenOf, Builtin.firstCells, hnc, storeCells]

theorem run_append_rd {α : Type} {E : El α} {P : Program} {T e ty : TypeId} {bytes : Nat} (ti : TI E P T e bytes) {w : World} {v u : Value} {xs ys : List α} {S : Fp} (hown : Own E e w v xs) (hrd : Rd E S w u ys)
    (hb : (xs.length + ys.length) * bytes ≤ 140737488355328) (hm : xs.length + ys.length ≤ maxLen) :
    ∃ v' w', (Builtin.append_ #[T, T] ty #[v, u]).run P w = .ok v' w' ∧ Own E e w' v' (xs ++ ys) ∧ Kp (fun k => v.ownBlock ≠ some k) w w' ∧ (v'.ownBlock = v.ownBlock ∨ v'.ownBlock = some w.heap.size) ∧ w'.heap.size ≤ w.heap.size + 1 + w'.heap.size := by
  obtain ⟨hu, h0, i, z, hi, hz, hs, hby, hzs⟩ := ti
  obtain ⟨A, c, rfl, _, _, _, hA⟩ := hrd
  cases A with
  | none =>
    have hy : ys = [] := by
      rcases ys with _ | ⟨y, ys⟩
      · rfl
      · obtain ⟨_, _, h, _⟩ := hA (by simp)
        cases h
    subst hy
    exact ⟨v, w, run_append_of_nil' T ty e i E.sz hu hi v _ _ hown c, by simpa using hown, Kp.refl _ _, .inl rfl, by omega⟩
  | some ad =>
    have hcells : ∀ j x, (E.flat ys)[j]? = some x → w.cell? (ad.add j) = some x := by
      intro j x hx
      have hp : 0 < ys.length := by
        rcases ys with _ | ⟨y, ys⟩
        · simp [El.flat] at hx
        · simp
      obtain ⟨b, off, h, _, _, hc⟩ := hA hp
      cases h
      have := hc j x hx
      unfold Addr.add
      split
      · rename_i hj; subst hj; simpa using this
      · exact this
    obtain ⟨v', w', hrun, h2, h3, _, h5⟩ := run_append_own_at (P := P) w 0 T ty e i z E.sz bytes hu hi hz hs hby hzs h0 v _ _ hown ad ys.length c (E.flat ys) (E.flat_length ys) hcells (E.flat_one_cell ys) hm hb (Nat.zero_le _)
    refine ⟨v', w', hrun, ?_, (Kp.refl _ w).grown h3 fun k hk => .inr (by simp [hk]), h5, by omega⟩
    unfold Own
    rw [E.flat_append, List.length_append]
    exact h2

/-- The walk's step at an append onto a row of one's own. -/
theorem wp_append {α : Type} {E : El α} {P : Program} {T e : TypeId} {bytes : Nat} (ti : TI E P T e bytes) {o : Oper} {a : Act} {w : World} {K : Act → World → Prop} {Q : Exit → Act → World → Prop} {s x : Operand}
    (ho : o.op = .call { callee := .builtin .append, args := #[s, x], argTypes := #[T, T] }) {v u : Value} (hs : a.eval s = v) (hx : a.eval x = u) {xs ys : List α} {S : Fp} (hown : Own E e w v xs) (hrd : Rd E S w u ys)
    (hb : (xs.length + ys.length) * bytes ≤ 140737488355328) (hm : xs.length + ys.length ≤ maxLen)
    (h : ∀ v' w', Own E e w' v' (xs ++ ys) → Kp (fun k => v.ownBlock ≠ some k) w w' → (v'.ownBlock = v.ownBlock ∨ v'.ownBlock = some w.heap.size) → K (a.put o.dst v') w') : o.wp P a w K Q := by
  obtain ⟨v', w', hr, h2, h3, h4, _⟩ := run_append_rd (ty := o.type) ti hown hrd hb hm
  unfold Oper.wp execOp
  simp only [ho, resolve, invoke, builtin, Sem.run_bind, Sem.run_pure, Result.andThen_ok, List.map_toArray, List.map_cons, List.map_nil, hs, hx, hr]
  exact h v' w' h2 h3 h4

theorem list_append {α : Type} {E : El α} {P : Program} {T e : TypeId} {bytes : Nat} (ti : TI E P T e bytes) {ops : Array Oper} {rest : List Oper} {o : Oper} {a : Act} {w : World} {Q : Exit → Act → World → Prop} {s x : Operand} (hgd : o.guard = none)
    (ho : o.op = .call { callee := .builtin .append, args := #[s, x], argTypes := #[T, T] }) {v u : Value} (hs : a.eval s = v) (hx : a.eval x = u) {xs ys : List α} {S : Fp} (hown : Own E e w v xs) (hrd : Rd E S w u ys)
    (hb : (xs.length + ys.length) * bytes ≤ 140737488355328) (hm : xs.length + ys.length ≤ maxLen)
    (h : ∀ v' w', Own E e w' v' (xs ++ ys) → Kp (fun k => v.ownBlock ≠ some k) w w' → (v'.ownBlock = v.ownBlock ∨ v'.ownBlock = some w.heap.size) → wpList P ops Q rest (a.put o.dst v') w') : wpList P ops Q (o :: rest) a w :=
  wpList_plain hgd fun _ hK => wp_append ti ho hs hx hown hrd hb hm fun v' w' h2 h3 h4 => hK _ _ (h v' w' h2 h3 h4)

theorem listIn_append {α : Type} {E : El α} {F : Fence} {n : Nat} {P : Program} {T e : TypeId} {bytes : Nat} (ti : TI E P T e bytes) {ops : Array Oper} {rest : List Oper} {o : Oper} {a : Act} {w : World} {Q : Exit → Act → World → Prop} {s x : Operand} (hgd : o.guard = none)
    (ho : o.op = .call { callee := .builtin .append, args := #[s, x], argTypes := #[T, T] }) {v u : Value} (hs : a.eval s = v) (hx : a.eval x = u) {xs ys : List α} {S : Fp} (hown : Own E e w v xs) (hrd : Rd E S w u ys)
    (hb : (xs.length + ys.length) * bytes ≤ 140737488355328) (hm : xs.length + ys.length ≤ maxLen)
    (h : ∀ v' w', Own E e w' v' (xs ++ ys) → Kp (fun k => v.ownBlock ≠ some k) w w' → (v'.ownBlock = v.ownBlock ∨ v'.ownBlock = some w.heap.size) → wpListIn F n P ops Q rest (a.put o.dst v') w') : wpListIn F n P ops Q (o :: rest) a w := by
  refine wpListIn_plain hgd fun K hK => ?_
  obtain ⟨v', w', hr, h2, h3, h4, _⟩ := run_append_rd (ty := o.type) ti hown hrd hb hm
  unfold Oper.wpIn
  refine ⟨by simp [Oper.about, ho, resolve, Target.leads, Sem.run_pure], ?_⟩
  rw [Oper.semAt_plain F _ _ (by rw [ho]; intro c hc'; cases hc')]
  unfold execOp
  simp only [ho, resolve, invoke, builtin, Sem.run_bind, Sem.run_pure, Result.andThen_ok, List.map_toArray, List.map_cons, List.map_nil, hs, hx, hr]
  exact hK _ _ (h v' w' h2 h3 h4)

/-- A new row. -/
theorem Own.made {α : Type} {E : El α} (w : World) (e : TypeId) (xs : List α) (hm : xs.length ≤ maxLen) : Own E e (w.alloc (.cells (E.flat xs).toArray e)) (.slice (some ⟨w.heap.size, 0, none⟩) xs.length xs.length) xs :=
  ⟨E.flat_length xs, .inr ⟨w.heap.size, xs.length, _, rfl, Nat.zero_le _, heap_alloc_new w _, Nat.le_refl _, hm, by simp [E.flat_length], by simp [← E.flat_length]⟩⟩
theorem New.made {α : Type} {E : El α} (w : World) (e : TypeId) (xs : List α) (hm : xs.length ≤ maxLen) : New E e w.heap.size (w.alloc (.cells (E.flat xs).toArray e)) (.slice (some ⟨w.heap.size, 0, none⟩) xs.length xs.length) xs :=
  ⟨Own.made w e xs hm, fun g hg => by simp [Value.ownBlock] at hg; omega⟩

theorem run_equalIn_func_nil {P : Program} (w : World) (d : Nat) (t : TypeId) (h : ∃ a b c, P.underlying t = some (.func a b c)) (f : Fn) (a b : Array Value) :
    (Op.equalIn (d + 1) t (.func f a b) .nilFunc).run P w = .ok false w := by
  obtain ⟨_, _, _, h⟩ := h
  simp [Op.equalIn, run_underlying h]
theorem run_eql_func_nil {P : Program} (t : TypeId) (h : ∃ a b c, P.underlying t = some (.func a b c)) (w : World) (f : Fn) (a b : Array Value) :
    (binOp .eql t (.func f a b) .nilFunc).run P w = .ok (.bool false) w := by
  simp only [binOp]
  simp [Op.equal, Op.maxDepth, run_equalIn_func_nil w 9999 t h f a b]

/-! ### Blocks known whole; a variable that collects -/

/-- Block b is just these cells of element type t. -/
def Blk (w : World) (b : Nat) (t : TypeId) (cs : Array Value) : Prop := w.heap[b]? = some (.cells cs t (0, 0))

section
variable {S : Fp} {w w' : World} {b : Nat} {t : TypeId} {cs : Array Value}
theorem Blk.lt (h : Blk w b t cs) : b < w.heap.size := (Array.getElem?_eq_some_iff.1 h).1
theorem Blk.cell (h : Blk w b t cs) (i : Nat) : w.cell? ⟨b, i, none⟩ = cs[i]? := cell_of_row w b i cs t (0, 0) h
theorem Blk.cell0 {v : Value} (h : Blk w b t #[v]) : w.cell? ⟨b, 0, none⟩ = some v := h.cell 0
theorem Blk.frozen (h : Blk w b t cs) (i : Nat) : w.frozen? ⟨b, i, none⟩ = false := by
  unfold Blk at h
  simp [World.frozen?, h]
theorem Blk.new (w : World) (t : TypeId) (cs : Array Value) : Blk (w.alloc (.cells cs t)) w.heap.size t cs := heap_alloc_new w _
theorem Blk.kp (h : Blk w b t cs) (hk : Kp S w w') (hs : S b) : Blk w' b t cs := hk.heap hs h
theorem Blk.ext (h : Blk w b t cs) (hk : Ext w w') : Blk w' b t cs := hk.heap trivial h
theorem Blk.set_ (h : Blk w b t cs) (i : Nat) (u : Value) : Blk (w.setCell ⟨b, i, none⟩ u) b t (cs.setIfInBounds i u) := by
  unfold Blk at h ⊢
  simp [World.setCell, Array.getElem?_modify, h]
theorem Blk.far (h : Blk w b t cs) {p : Addr} (hp : b ≠ p.block) (u : Value) : Blk (w.setCell p u) b t cs := (Below.heap_setCell w p u b hp).trans h
end

/-- The variable at block B holds a row of one's own that reads as xs; D has both. -/
def Coll {α : Type} (E : El α) (T e : TypeId) (B : Nat) (xs : List α) (D : Fp) (W : World) : Prop :=
  ∃ v, Blk W B T #[v] ∧ Own E e W v xs ∧ D B ∧ ∀ g, v.ownBlock = some g → D g ∧ B < g

theorem Coll.frame {α : Type} {E : El α} {T e : TypeId} {B : Nat} {xs : List α} {D : Fp} {W W' : World} (h : Coll E T e B xs D W) (hk : Kp D W W') : Coll E T e B xs D W' := by
  obtain ⟨v, h1, h2, h3, h4⟩ := h
  exact ⟨v, h1.kp hk h3, h2.kp hk fun g hg => (h4 g hg).1, h3, h4⟩
theorem Coll.wide {α : Type} {E : El α} {T e : TypeId} {B : Nat} {xs : List α} {D D' : Fp} {W : World} (h : Coll E T e B xs D W) (hD : ∀ k, D k → D' k) : Coll E T e B xs D' W := by
  obtain ⟨v, h1, h2, h3, h4⟩ := h
  exact ⟨v, h1, h2, hD _ h3, fun g hg => ⟨hD _ (h4 g hg).1, (h4 g hg).2⟩⟩

/-- Behind an append onto the variable's row, stored back into the variable. -/
theorem Coll.stored {α : Type} {E : El α} {T e : TypeId} {B : Nat} {D : Fp} {W W1 W2 : World} {v v' : Value} {ys : List α} (h1 : Blk W B T #[v]) (h3 : D B) (h4 : ∀ g, v.ownBlock = some g → D g ∧ B < g) (hx : Kp (fun k => D k) W W1) (hsz : W.heap.size ≤ W1.heap.size) (hown : Own E e W2 v' ys) (hk : Kp (fun k => v.ownBlock ≠ some k) W1 W2)
    (hb : v'.ownBlock = v.ownBlock ∨ v'.ownBlock = some W1.heap.size) :
    Coll E T e B ys (fun k => D k ∨ (W.heap.size ≤ k ∧ k < W2.heap.size)) (W2.setCell ⟨B, 0, none⟩ v') := by
  have hB : v.ownBlock ≠ some B := fun h => by have := (h4 B h).2; omega
  have hBW := h1.lt
  have hb2 : Blk W2 B T #[v] := (h1.kp hx h3).kp hk hB
  have hvB : ∀ g, v'.ownBlock = some g → B < g := by
    intro g hg
    rcases hb with h | h
    · rw [h] at hg; exact (h4 g hg).2
    · rw [h] at hg; simp at hg; omega
  refine ⟨v', hb2.set_ 0 v', hown.kp (S := fun k => k ≠ B) ((Kp.refl _ W2).setCell (.inr (by simp)) _) fun g hg => ?_, .inl h3, fun g hg => ⟨?_, hvB g hg⟩⟩
  · have := hvB g hg; omega
  · rcases hb with h | h
    · rw [h] at hg; exact .inl (h4 g hg).1
    · have hl := hown.lt hg
      rw [h] at hg; simp at hg
      exact .inr ⟨by omega, by omega⟩

/-- What a round that collects owes, behind the store. -/
theorem coll_step {α : Type} {E : El α} {T e : TypeId} {B : Nat} {D Dx : Fp} {W₂ W1 w' : World} {v v' : Value} {ys : List α} (hD : ∀ k, D k → Dx k) (hlt : ∀ k, Dx k → k < W₂.heap.size) (h1 : Blk W₂ B T #[v]) (hB : D B) (hg : ∀ g, v.ownBlock = some g → D g ∧ B < g)
    (hx : Ext W₂ W1) (hown : Own E e w' v' ys) (hk : Kp (fun k => v.ownBlock ≠ some k) W1 w') (hb : v'.ownBlock = v.ownBlock ∨ v'.ownBlock = some W1.heap.size) :
    ∃ D', Sub Dx D' W₂ (w'.setCell ⟨B, 0, none⟩ v') ∧ Kp (fun k => ¬ Dx k) W₂ (w'.setCell ⟨B, 0, none⟩ v') ∧ (∀ k, D' k → k < (w'.setCell ⟨B, 0, none⟩ v').heap.size) ∧ Coll E T e B ys D' (w'.setCell ⟨B, 0, none⟩ v') := by
  have hs := hx.size
  have hs' := hk.size
  refine ⟨fun k => Dx k ∨ (W₂.heap.size ≤ k ∧ k < w'.heap.size), fun k h => ?_, ?_, fun k h => ?_, (Coll.stored h1 hB hg (Kp.of_ext hx) hs hown hk hb).wide fun k h => h.imp (hD k) id⟩
  · rcases h with h | h
    · exact .inl h
    · exact .inr ⟨h.1, by simpa using h.2⟩
  · refine ((Kp.of_ext hx).trans' hk fun k _ hn he => hn (hD _ (hg _ he).1)).setCell (.inr fun hn => hn (hD _ hB)) _
  · rcases h with h | h
    · have := hlt k h; simp; omega
    · simpa using h.2

/-- The walk stands still. -/
def Stop (p : Prop) : Prop := p
theorem stop {p : Prop} (h : Stop p) : p := h

/-! ### Files -/
structure File where
  path : ByteArray
  data : ByteArray

def File.enc (f : File) : List Value := [.string f.path, .string f.data]
def File.val (f : File) : Value := .agg #[.string f.path, .string f.data]
def EF : El File := ⟨File.enc, 2, fun _ => rfl, fun x u hu => by simp only [File.enc, List.mem_cons, List.not_mem_nil, or_false] at hu; rcases hu with rfl | rfl <;> rfl⟩
/-- Texts. -/
def ES : El ByteArray := ⟨fun s => [.string s], 1, fun _ => rfl, fun x u hu => by simp only [List.mem_cons, List.not_mem_nil, or_false] at hu; subst hu; rfl⟩

theorem RdA.file {S : Fp} {w : World} {A : Option Addr} {xs : List File} (h : RdA EF S w A xs) {i : Nat} (hi : i < xs.length) :
    ∃ b off, A = some ⟨b, off, none⟩ ∧ S b ∧ b < w.heap.size ∧ w.cell? ⟨b, off + i * 2, none⟩ = some (.string xs[i].path) ∧ w.cell? ⟨b, off + i * 2 + 1, none⟩ = some (.string xs[i].data) := by
  obtain ⟨b, off, hA, hs, hb, hc⟩ := h.at_ hi
  exact ⟨b, off, hA, hs, hb, hc 0 _ rfl, hc 1 _ rfl⟩
theorem RdA.text {S : Fp} {w : World} {A : Option Addr} {xs : List ByteArray} (h : RdA ES S w A xs) {i : Nat} (hi : i < xs.length) :
    ∃ b off, A = some ⟨b, off, none⟩ ∧ S b ∧ b < w.heap.size ∧ w.cell? ⟨b, off + i, none⟩ = some (.string xs[i]) := by
  obtain ⟨b, off, hA, hs, hb, hc⟩ := h.at_ hi
  exact ⟨b, off, hA, hs, hb, by have := hc 0 _ rfl; simpa [ES] using this⟩

theorem take_snoc {α : Type} (xs : List α) {k : Nat} (h : k < xs.length) : xs.take (k + 1) = xs.take k ++ [xs[k]] := by
  rw [List.take_succ_eq_append_getElem h]
theorem take_snoc_prefix {α : Type} (xs : List α) {k : Nat} (h : k < xs.length) : xs.take k ++ [xs[k]] <+: xs := by
  rw [← take_snoc xs h]; exact List.take_prefix _ _

theorem tiF : TI EF Tryz.prog 30 39 32 :=
  TI.mk' (z := .agg #[.string ⟨#[]⟩, .string ⟨#[]⟩]) Tryz.underlying30 (by kernel_rfl) (by rfl) (by decide)
theorem tiS : TI ES Tryz.prog 52 9 16 :=
  TI.mk' (z := .string ⟨#[]⟩) Tryz.underlying52 (by kernel_rfl) (by rfl) (by decide)

end Go.Proofs.YtgjbfkaepalkiaaGreatDoor
