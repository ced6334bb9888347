/-
  The layer under all proofs of this seat: what a step keeps of memory (Kp), calls of function values (CallV), pure functions and sequences as values (FnV, SeqV), the law of a range over a function (range_wp, range_in_wp), slices that read as lists (Rd) and rows of one's own (Own).
-/
import Derived.WalkKit
import Derived.Lib.Hide
import Derived.RangeFuncNested
import Derived.RangeFuncLeaves
import Derived.RangeFuncCalls
import Derived.Maps.AppendAt
import Derived.Deep.Draws
import Derived.TacticsIn
import Derived.LoopIn
import Derived.OwnWalkIn
namespace Go.Proofs.YtgjbfkaepalkiaaGreatDoor
open Go.RowKit
set_option linter.unusedVariables false
set_option linter.unusedSimpArgs false

abbrev Fp := Nat → Prop

/-- Of w's blocks those of S lie in w' as they lay. -/
structure Kp (S : Fp) (w w' : World) : Prop where
  os : w'.os = w.os
  tape : w'.tape = w.tape
  output : w'.output = w.output
  size : w.heap.size ≤ w'.heap.size
  block : ∀ k, k < w.heap.size → S k → w'.heap[k]? = w.heap[k]?

abbrev All : Fp := fun _ => True
/-- All old blocks lie as they lay. -/
abbrev Ext (w w' : World) : Prop := Kp All w w'

section
variable {S T : Fp} {a b c w w' : World}
theorem Kp.refl (S : Fp) (w : World) : Kp S w w := ⟨rfl, rfl, rfl, Nat.le_refl _, fun _ _ _ => rfl⟩
theorem Kp.trans (h : Kp S a b) (k : Kp S b c) : Kp S a c :=
  ⟨k.os.trans h.os, k.tape.trans h.tape, k.output.trans h.output, Nat.le_trans h.size k.size, fun i hi hs => (k.block i (Nat.lt_of_lt_of_le hi h.size) hs).trans (h.block i hi hs)⟩
theorem Kp.mono (h : Kp S a b) (hs : ∀ k, k < a.heap.size → T k → S k) : Kp T a b :=
  ⟨h.os, h.tape, h.output, h.size, fun k hk ht => h.block k hk (hs k hk ht)⟩
theorem Kp.of_ext (h : Ext a b) : Kp T a b := h.mono fun _ _ _ => trivial
/-- A step that keeps S, then one that keeps what was new then. -/
theorem Kp.trans' (h : Kp S a b) (k : Kp T b c) (hs : ∀ i, i < a.heap.size → S i → T i) : Kp S a c :=
  ⟨k.os.trans h.os, k.tape.trans h.tape, k.output.trans h.output, Nat.le_trans h.size k.size, fun i hi hx => (k.block i (Nat.lt_of_lt_of_le hi h.size) (hs i hi hx)).trans (h.block i hi hx)⟩
theorem Kp.drew (h : Kp S a w) : Kp S a w.drew := ⟨h.os, h.tape, h.output, h.size, h.block⟩
theorem Kp.drewN (h : Kp S a w) (n : Nat) : Kp S a (w.drewN n) := ⟨h.os, h.tape, h.output, h.size, h.block⟩
theorem Kp.alloc (h : Kp S a w) (o : Obj) : Kp S a (w.alloc o) :=
  ⟨h.os, h.tape, h.output, Nat.le_trans h.size (by simp), fun k hk hs => (Below.heap_alloc w o k (Nat.lt_of_lt_of_le hk h.size)).trans (h.block k hk hs)⟩
theorem Kp.setCell (h : Kp S a w) {p : Addr} (hp : a.heap.size ≤ p.block ∨ ¬ S p.block) (u : Value) : Kp S a (w.setCell p u) :=
  ⟨h.os, h.tape, h.output, Nat.le_trans h.size (by simp), fun k hk hs => (Below.heap_setCell w p u k (by rintro rfl; rcases hp with hp | hp <;> first | omega | exact hp hs)).trans (h.block k hk hs)⟩
theorem Kp.putObj (h : Kp S a w) {l : Nat} (hp : a.heap.size ≤ l ∨ ¬ S l) (o : Obj) : Kp S a (w.putObj l o) :=
  ⟨h.os, h.tape, h.output, Nat.le_trans h.size (by simp), fun k hk hs => (World.putObj_heap_other (by rintro rfl; rcases hp with hp | hp <;> first | omega | exact hp hs)).trans (h.block k hk hs)⟩
theorem Kp.grown (h : Kp S a w) {row : Option Nat} (hg : w.grownBy w' row) (hr : ∀ k, row = some k → a.heap.size ≤ k ∨ ¬ S k) : Kp S a w' :=
  ⟨hg.os.trans h.os, hg.tape.trans h.tape, hg.output.trans h.output, Nat.le_trans h.size hg.size, fun k hk hs => (hg.block k (Nat.lt_of_lt_of_le hk h.size) (fun e => by rcases hr k e.symm with hp | hp <;> first | omega | exact hp hs)).trans (h.block k hk hs)⟩
theorem Ext.of_below (h : Below w.heap.size w w') : Ext w w' := ⟨h.os, h.tape, h.output, h.size, fun k hk _ => h.block k hk⟩
theorem Kp.below (h : Ext w w') : Below w.heap.size w w' := ⟨h.os, h.tape, h.output, h.size, fun k hk => h.block k hk trivial⟩
theorem Kp.cell (h : Kp S a w) {p : Addr} (hp : p.block < a.heap.size) (hs : S p.block) : w.cell? p = a.cell? p := World.cell?_of_block (w := a) (h.block p.block hp hs)
theorem Kp.frozen (h : Kp S a w) {p : Addr} (hp : p.block < a.heap.size) (hs : S p.block) : w.frozen? p = a.frozen? p := World.frozen?_of_block (w := a) (h.block p.block hp hs)
/-- What was new between a and b, and lies at b, lies on. -/
theorem Kp.lt {k : Nat} (h : Kp S a b) (hk : k < a.heap.size) : k < b.heap.size := Nat.lt_of_lt_of_le hk h.size
end

theorem cell_lt {w : World} {p : Addr} {v : Value} (h : w.cell? p = some v) : p.block < w.heap.size := by
  unfold World.cell? at h
  cases hb : w.heap[p.block]? with
  | none => simp [hb] at h
  | some o => exact (Array.getElem?_eq_some_iff.1 hb).1

/-! ### Calls of function values -/

/-- A call of a function value. -/
def CallV (P : Program) (fv : Value) (args : Array Value) (w : World) (R : Ending → World → Prop) : Prop :=
  (∃ f as, (do let d ← Deferred.ofValue fv args; invoke d.target d.args : Sem Next).run P w = .ok (.enter f as) w ∧ Calls P f as w R) ∨
  (∃ l f tmps assign body, (do let d ← Deferred.ofValue fv args; invoke d.target d.args : Sem Next).run P w = .ok (.round l f tmps assign body) w ∧ RoundIn Fence.wide 0 P l f tmps assign body w R)

theorem CallV.mono {P : Program} {fv : Value} {args : Array Value} {w : World} {R R' : Ending → World → Prop} (h : CallV P fv args w R) (hr : ∀ e w', R e w' → R' e w') : CallV P fv args w R' := by
  rcases h with ⟨f, as, h1, h2⟩ | ⟨l, f, tmps, assign, body, h1, h2⟩
  · exact .inl ⟨f, as, h1, h2.mono hr⟩
  · exact .inr ⟨l, f, tmps, assign, body, h1, h2.mono hr⟩

theorem roundIn_wide {n m : Nat} {P : Program} {l : Nat} {f : FuncId} {tmps : Array Value} {assign body : Code} {w : World} {R : Ending → World → Prop}
    (h : RoundIn Fence.wide n P l f tmps assign body w R) : RoundIn Fence.wide m P l f tmps assign body w R :=
  ⟨trivial, fun c cs _ => h.2 c cs (room_wide _)⟩

/-- A call of a function value that is no yield. -/
def CallF (P : Program) (fv : Value) (args : Array Value) (w : World) (R : Ending → World → Prop) : Prop :=
  ∃ f as, (do let d ← Deferred.ofValue fv args; invoke d.target d.args : Sem Next).run P w = .ok (.enter f as) w ∧ Calls P f as w R

theorem CallF.mono {P : Program} {fv : Value} {args : Array Value} {w : World} {R R' : Ending → World → Prop} (h : CallF P fv args w R) (hr : ∀ e w', R e w' → R' e w') : CallF P fv args w R' := by
  obtain ⟨f, as, h1, h2⟩ := h
  exact ⟨f, as, h1, h2.mono hr⟩
theorem CallF.v {P : Program} {fv : Value} {args : Array Value} {w : World} {R : Ending → World → Prop} (h : CallF P fv args w R) : CallV P fv args w R := .inl h

theorem callF_fn {P : Program} {f : FuncId} {args lb : Array Value} {w : World} {R : Ending → World → Prop} (eg : ∀ args w, (callFunc f args).run P w = .ok (.enter f args) w)
    (h : Calls P f (args ++ lb) w R) : CallF P (.func (.func f) #[] lb) args w R := by
  refine ⟨f, args ++ lb, ?_, h⟩
  simp [Deferred.ofValue, invoke, go_sem, eg]

/-- A plain function's value. -/
theorem callV_fn {P : Program} {f : FuncId} {args lb : Array Value} {w : World} {R : Ending → World → Prop} (eg : ∀ args w, (callFunc f args).run P w = .ok (.enter f args) w)
    (h : Calls P f (args ++ lb) w R) : CallV P (.func (.func f) #[] lb) args w R := by
  refine .inl ⟨f, args ++ lb, ?_, h⟩
  simp [Deferred.ofValue, invoke, go_sem, eg]

/-- The walk's step at a call of a function value (a round, or no round). -/
theorem uponIn_callV {F : Fence} (hF : F = Fence.wide ∨ ∃ l, F = Fence.wide.inRound l) {n : Nat} {P : Program} {o : Oper} {x : Operand} {as : Array Operand} {ts : Array TypeId} {a : Act} {w : World} {K : Act → World → Prop} {Q : Exit → Act → World → Prop}
    (ho : o.op = .call { callee := .value x, args := as, argTypes := ts }) (fv : Value) (hfv : a.eval x = fv) (args : Array Value) (hargs : as.map a.eval = args)
    (h : CallV P fv args w fun e w' => ∃ v, e = .returned v ∧ K (a.put o.dst v) w') : o.wpIn F n P a w K Q := by
  have hfn : ∀ f, F.fn f := by rcases hF with rfl | ⟨l, rfl⟩ <;> exact fun _ => trivial
  have hdep : F.depth = none := by rcases hF with rfl | ⟨l, rfl⟩ <;> rfl
  have hsem : o.semAt F.round a.eval = execOp a.eval o := by
    rcases hF with rfl | ⟨l, rfl⟩
    · exact Oper.semAt_none _ _
    · exact Oper.semAt_some _ _ _ (by rw [ho]; simp)
  refine ⟨fun f _ => hfn f, ?_⟩
  rw [hsem]
  have hx : execOp a.eval o = (do let d ← Deferred.ofValue fv args; invoke d.target d.args : Sem Next) := by
    simp only [execOp, ho, resolve, hfv, hargs]
  rw [hx]
  rcases h with ⟨f, as', h1, h2⟩ | ⟨l, f, tmps, assign, body, h1, h2⟩
  · rw [h1]
    refine ⟨(fun hd => by rw [hdep] at hd; cases hd), ?_⟩
    have h3 : CallsIn Fence.wide (n - 1) P f as' w fun e w' => ∃ v, e = .returned v ∧ K (a.put o.dst v) w' := callsIn_wide.2 h2
    have h4 : CallsIn F (n - 1) P f as' w fun e w' => ∃ v, e = .returned v ∧ K (a.put o.dst v) w' := by
      rcases hF with rfl | ⟨l, rfl⟩
      · exact h3
      · exact h3
    exact h4.mono fun e w' he => by obtain ⟨v, rfl, hk⟩ := he; exact hk
  · rw [h1]
    refine ⟨(fun hd => by rw [hdep] at hd; cases hd), ?_⟩
    have h3 : RoundIn Fence.wide (n - 1) P l f tmps assign body w fun e w' => ∃ v, e = .returned v ∧ K (a.put o.dst v) w' := roundIn_wide h2
    have h4 : RoundIn F (n - 1) P l f tmps assign body w fun e w' => ∃ v, e = .returned v ∧ K (a.put o.dst v) w' := by
      rcases hF with rfl | ⟨l, rfl⟩
      · exact h3
      · exact h3
    exact h4.mono fun e w' he => by obtain ⟨v, rfl, hk⟩ := he; exact hk

theorem listIn_callV {n : Nat} {P : Program} {ops : Array Oper} {rest : List Oper} {o : Oper} {x : Operand} {as : Array Operand} {ts : Array TypeId} {a : Act} {w : World} {Q : Exit → Act → World → Prop}
    (hgd : o.guard = none) (ho : o.op = .call { callee := .value x, args := as, argTypes := ts }) (fv : Value) (hfv : a.eval x = fv) (args : Array Value) (hargs : as.map a.eval = args)
    (h : CallV P fv args w fun e w' => ∃ v, e = .returned v ∧ wpListIn Fence.wide n P ops Q rest (a.put o.dst v) w') : wpListIn Fence.wide n P ops Q (o :: rest) a w :=
  wpListIn_plain hgd fun K hK => uponIn_callV (.inl rfl) ho fv hfv args hargs (h.mono fun e w' ⟨v, he, hk⟩ => ⟨v, he, hK _ _ hk⟩)

theorem listInR_callV {l n : Nat} {P : Program} {ops : Array Oper} {rest : List Oper} {o : Oper} {x : Operand} {as : Array Operand} {ts : Array TypeId} {a : Act} {w : World} {Q : Exit → Act → World → Prop}
    (hgd : o.guard = none) (ho : o.op = .call { callee := .value x, args := as, argTypes := ts }) (fv : Value) (hfv : a.eval x = fv) (args : Array Value) (hargs : as.map a.eval = args)
    (h : CallV P fv args w fun e w' => ∃ v, e = .returned v ∧ wpListIn (Fence.wide.inRound l) n P ops Q rest (a.put o.dst v) w') : wpListIn (Fence.wide.inRound l) n P ops Q (o :: rest) a w :=
  wpListIn_plain hgd fun K hK => uponIn_callV (.inr ⟨l, rfl⟩) ho fv hfv args hargs (h.mono fun e w' ⟨v, he, hk⟩ => ⟨v, he, hK _ _ hk⟩)

theorem listIn_callV_g {n : Nat} {P : Program} {ops : Array Oper} {rest : List Oper} {o : Oper} {x : Operand} {as : Array Operand} {ts : Array TypeId} {a : Act} {w : World} {Q : Exit → Act → World → Prop}
    (ho : o.op = .call { callee := .value x, args := as, argTypes := ts }) (fv : Value) (hfv : a.eval x = fv) (args : Array Value) (hargs : as.map a.eval = args) (hwant : Region.wanted o (yielded ops a.tmps) = true)
    (h : CallV P fv args w fun e w' => ∃ v, e = .returned v ∧ wpListIn Fence.wide n P ops Q rest (a.put o.dst v) w') : wpListIn Fence.wide n P ops Q (o :: rest) a w :=
  wpListIn_step fun K hK => by
    rw [if_pos hwant]
    exact uponIn_callV (.inl rfl) ho fv hfv args hargs (h.mono fun e w' ⟨v, he, hk⟩ => ⟨v, he, hK _ _ hk⟩)

theorem listInR_callV_g {l n : Nat} {P : Program} {ops : Array Oper} {rest : List Oper} {o : Oper} {x : Operand} {as : Array Operand} {ts : Array TypeId} {a : Act} {w : World} {Q : Exit → Act → World → Prop}
    (ho : o.op = .call { callee := .value x, args := as, argTypes := ts }) (fv : Value) (hfv : a.eval x = fv) (args : Array Value) (hargs : as.map a.eval = args) (hwant : Region.wanted o (yielded ops a.tmps) = true)
    (h : CallV P fv args w fun e w' => ∃ v, e = .returned v ∧ wpListIn (Fence.wide.inRound l) n P ops Q rest (a.put o.dst v) w') : wpListIn (Fence.wide.inRound l) n P ops Q (o :: rest) a w :=
  wpListIn_step fun K hK => by
    rw [if_pos hwant]
    exact uponIn_callV (.inr ⟨l, rfl⟩) ho fv hfv args hargs (h.mono fun e w' ⟨v, he, hk⟩ => ⟨v, he, hK _ _ hk⟩)

/-- A guarded call of a function value that is passed over. -/
theorem listInR_skip {l n : Nat} {P : Program} {ops : Array Oper} {rest : List Oper} {o : Oper} {x : Operand} {as : Array Operand} {ts : Array TypeId} {a : Act} {w : World} {Q : Exit → Act → World → Prop}
    (ho : o.op = .call { callee := .value x, args := as, argTypes := ts }) (fv : Value) (hfv : a.eval x = fv) (hwant : Region.wanted o (yielded ops a.tmps) = false)
    (h : wpListIn (Fence.wide.inRound l) n P ops Q rest (a.put o.dst undef) w) : wpListIn (Fence.wide.inRound l) n P ops Q (o :: rest) a w := by
  unfold wpListIn
  rw [if_neg (by rw [hwant]; simp)]
  exact ⟨fun _ _ => trivial, h⟩
theorem listIn_skip {n : Nat} {P : Program} {ops : Array Oper} {rest : List Oper} {o : Oper} {x : Operand} {as : Array Operand} {ts : Array TypeId} {a : Act} {w : World} {Q : Exit → Act → World → Prop}
    (ho : o.op = .call { callee := .value x, args := as, argTypes := ts }) (fv : Value) (hfv : a.eval x = fv) (hwant : Region.wanted o (yielded ops a.tmps) = false)
    (h : wpListIn Fence.wide n P ops Q rest (a.put o.dst undef) w) : wpListIn Fence.wide n P ops Q (o :: rest) a w := by
  unfold wpListIn
  rw [if_neg (by rw [hwant]; simp)]
  exact ⟨fun _ _ => trivial, h⟩

/-! ### Functions and sequences as values -/

/-- Whatever keeps S: called, the value answers so, and leaves all that lay. -/
structure FnV {α : Type} (P : Program) (S : Fp) (w : World) (fv : Value) (args : α → Array Value) (res : α → Value) : Prop where
  isf : ∃ f a b, fv = .func f a b
  does : ∀ W, Kp S w W → ∀ x, CallV P fv (args x) W fun e W' => e = .returned (res x) ∧ Ext W W'

theorem FnV.later {α : Type} {P : Program} {S : Fp} {w w' : World} {fv : Value} {args : α → Array Value} {res : α → Value} (h : FnV P S w fv args res) (hk : Kp S w w') : FnV P S w' fv args res :=
  ⟨h.isf, fun W hW => h.does W (hk.trans hW)⟩
theorem FnV.wide {α : Type} {P : Program} {S T : Fp} {w : World} {fv : Value} {args : α → Array Value} {res : α → Value} (h : FnV P S w fv args res) (hs : ∀ k, S k → T k) : FnV P T w fv args res :=
  ⟨h.isf, fun W hW => h.does W (hW.mono fun k _ hk => hs k hk)⟩

/-- D' is D and what is new. -/
def Sub (D D' : Fp) (w w' : World) : Prop := ∀ k, D' k → D k ∨ (w.heap.size ≤ k ∧ k < w'.heap.size)
theorem Sub.refl (D : Fp) (w : World) : Sub D D w w := fun _ h => .inl h
theorem Sub.trans {D D1 D2 : Fp} {a b c : World} (h : Sub D D1 a b) (k : Sub D1 D2 b c) (h1 : a.heap.size ≤ b.heap.size) (h2 : b.heap.size ≤ c.heap.size) : Sub D D2 a c := fun i hi => by
  rcases k i hi with h' | h'
  · rcases h i h' with h'' | h''
    · exact .inl h''
    · exact .inr ⟨h''.1, by omega⟩
  · exact .inr ⟨by omega, h'.2⟩

theorem Sub.alloc {D D' : Fp} {a w : World} (h : Sub D D' a w) (o : Obj) : Sub D D' a (w.alloc o) := fun k hk => by
  rcases h k hk with h' | h'
  · exact .inl h'
  · exact .inr ⟨h'.1, by have := h'.2; simp; omega⟩

/-- What is said of a world hangs on the blocks of D alone. -/
def Frames {β : Type} (I : β → Fp → World → Prop) : Prop := ∀ s D W W', I s D W → (∀ k, D k → k < W.heap.size) → Kp D W W' → I s D W'

/-- A sequence's value: whatever keeps S, called with whatever yield that keeps all but its own blocks D: it tells xs, or as far as yield says no more. -/
structure SeqV {α : Type} (P : Program) (S : Fp) (w : World) (s : Value) (encs : α → Array Value) (xs : List α) : Prop where
  isf : ∃ f a b, s = .func f a b
  tells : ∀ W, Kp S w W → ∀ (y : Value) (I Ix : List α → Fp → World → Prop) (D₀ : Fp), (∃ f a b, y = .func f a b) → Frames I → Frames Ix → I [] D₀ W → (∀ k, D₀ k → k < W.heap.size ∧ ¬ S k) →
    (∀ pre x D W1, I pre D W1 → (∀ k, D k → k < W1.heap.size) → (pre ++ [x]) <+: xs → Sub D₀ D W W1 → Kp (fun k => ¬ D₀ k) W W1 → CallV P y (encs x) W1 fun e W2 =>
      ∃ D', Sub D D' W1 W2 ∧ Kp (fun k => ¬ D k) W1 W2 ∧ (∀ k, D' k → k < W2.heap.size) ∧ ((e = .returned (.bool true) ∧ I (pre ++ [x]) D' W2) ∨ (e = .returned (.bool false) ∧ Ix (pre ++ [x]) D' W2))) →
    CallF P s #[y] W fun e W' => (∃ v, e = .returned v) ∧ ∃ D', Sub D₀ D' W W' ∧ Kp (fun k => ¬ D₀ k) W W' ∧ (∀ k, D' k → k < W'.heap.size) ∧ (I xs D' W' ∨ ∃ pre, pre <+: xs ∧ Ix pre D' W')

theorem SeqV.later {α : Type} {P : Program} {S : Fp} {w w' : World} {s : Value} {encs : α → Array Value} {xs : List α} (h : SeqV P S w s encs xs) (hk : Kp S w w') : SeqV P S w' s encs xs :=
  ⟨h.isf, fun W hW => h.tells W (hk.trans hW)⟩
theorem SeqV.wide {α : Type} {P : Program} {S T : Fp} {w : World} {s : Value} {encs : α → Array Value} {xs : List α} (h : SeqV P S w s encs xs) (hs : ∀ k, S k → T k) : SeqV P T w s encs xs :=
  ⟨h.isf, fun W hW y I Ix D₀ hyf hI hIx h0 hD hr => h.tells W (hW.mono fun k _ hk => hs k hk) y I Ix D₀ hyf hI hIx h0 (fun k hk => ⟨(hD k hk).1, fun hS => (hD k hk).2 (hs k hS)⟩) hr⟩

/-! ### The law of a range over a function -/

/-- How a round's body may be left. -/
def rpost {α : Type} (I : List α → Fp → World → Prop) (Ix : Code → List α → Fp → World → Prop) (xs : List α) (D : Fp) (W : World) : Exit → Act → World → Prop
  | .normal, _, W' => ∃ D', Sub D D' W W' ∧ Kp (fun k => ¬ D k) W W' ∧ (∀ k, D' k → k < W'.heap.size) ∧ I xs D' W'
  | .ret, _, W' => ∃ D', Sub D D' W W' ∧ Kp (fun k => ¬ D k) W W' ∧ (∀ k, D' k → k < W'.heap.size) ∧ Ix .ret xs D' W'
  | .exit id, _, W' => ∃ D', Sub D D' W W' ∧ Kp (fun k => ¬ D k) W W' ∧ (∀ k, D' k → k < W'.heap.size) ∧ Ix (.exit id) xs D' W'
  | .goto t, _, W' => ∃ D', Sub D D' W W' ∧ Kp (fun k => ¬ D k) W W' ∧ (∀ k, D' k → k < W'.heap.size) ∧ Ix (.goto t) xs D' W'
  | .panic _, _, _ => False
  | .outgrown, _, _ => False

theorem ofValue_run {P : Program} {fv : Value} {args : Array Value} {w : World} {f : FuncId} {as : Array Value}
    (h : (do let d ← Deferred.ofValue fv args; invoke d.target d.args : Sem Next).run P w = .ok (.enter f as) w) :
    ∃ d, (Deferred.ofValue fv args).run P w = .ok d w ∧ (invoke d.target d.args).run P w = .ok (.enter f as) w := by
  cases fv with
  | func fn first cap => exact ⟨_, rfl, h⟩
  | nilFunc => exact ⟨_, rfl, h⟩
  | _ => simp [Deferred.ofValue, Sem.run_bind, stuck, Sem.run] at h

theorem Kp.heap {S : Fp} {w w' : World} (h : Kp S w w') {k : Nat} {o : Obj} (hs : S k) (hk : w.heap[k]? = some o) : w'.heap[k]? = some o :=
  (h.block k (Array.getElem?_eq_some_iff.1 hk).1 hs).trans hk

section
variable {α : Type} {P : Program} {g : Operand} {ps : Array Tmp} {assign body : Code} {Q : Exit → Act → World → Prop} {a : Act} {w : World} {n : Nat} {fv : Value}

/-- One round, out of the walk of its code: the record l is ready; behind it it is ready again, or it bears the jump. -/
theorem round_call {l : Nat} {encs : α → Array Value} {r : Loop} (hps : ∀ x, (encs x).size = r.params.size) {x : α} {W : World} (hl : W.heap[l]? = some (.loop r)) (hst : r.state = .ready)
    {I : List α → Fp → World → Prop} {Ix : Code → List α → Fp → World → Prop} {D : Fp} {xs : List α} (hD : ∀ k, D k → k < W.heap.size) (hlD : ¬ D l)
    (h : ∀ K : Act → World → Prop, (∀ a₁ W₁, Ext W W₁ → (∀ W₂, Kp (fun k => k ≠ l) W₁ W₂ → W₁.heap.size = W₂.heap.size → (∃ r', W₂.heap[l]? = some (.loop r') ∧ r'.defers = r.defers) →
        r.body.wpIn (Fence.wide.inRound l) 0 P (rpost I Ix xs (fun k => D k ∨ (W.heap.size ≤ k ∧ k < W₁.heap.size)) W₂) a₁ W₂) → K a₁ W₁) →
      r.assign.wpIn (Fence.wide.inRound l) 0 P (Exit.then K (fun _ _ _ => False)) { tmps := (r.params.zip (encs x)).foldl (fun t (p, v) => t.setIfInBounds p v) r.tmps, defers := [] } W) :
    CallV P (.func (.yield l) #[] #[]) (encs x) W fun e W' =>
      ∃ W₃ D', W₃.heap.size = W'.heap.size ∧ Kp (fun k => k ≠ l) W₃ W' ∧ Sub D D' W W₃ ∧ Kp (fun k => ¬ D k ∧ k ≠ l) W W₃ ∧ (∀ k, D' k → k < W₃.heap.size) ∧ ¬ D' l ∧
        ((e = .returned (.bool true) ∧ I xs D' W₃ ∧ W'.heap[l]? = some (.loop { r with state := .ready, pending := none })) ∨
         (∃ c, e = .returned (.bool false) ∧ Ix c xs D' W₃ ∧ W'.heap[l]? = some (.loop { r with state := .done, pending := some c }))) := by
  have hllt : l < W.heap.size := (Array.getElem?_eq_some_iff.1 hl).1
  have hy := run_yield (P := P) (args := encs x) hl (hps x)
  refine .inr ⟨l, r.fn, (r.params.zip (encs x)).foldl (fun t (p, v) => t.setIfInBounds p v) r.tmps, r.assign, r.body, ?_, ?_⟩
  · simp only [Deferred.ofValue, Sem.run_bind, Sem.run_pure, Result.andThen_ok, invoke]
    simpa using hy
  · refine roundIn_of_wpIn trivial (h _ ?_)
    intro a₁ W₁ hW1 hb
    have hl1 : W₁.heap[l]? = some (.loop r) := hW1.heap trivial hl
    refine ⟨_, run_beginRound hl1 hst, ?_⟩
    have hll1 : l < W₁.heap.size := hW1.lt hllt
    have hl2 : (W₁.putObj l (.loop { r with state := .busy })).heap[l]? = some (.loop { r with state := .busy }) := World.putObj_heap_same hll1
    have hk12 : Kp (fun k => k ≠ l) W₁ (W₁.putObj l (.loop { r with state := .busy })) := (Kp.refl _ W₁).putObj (.inr (by simp)) _
    have hs12 : W₁.heap.size = (W₁.putObj l (.loop { r with state := .busy })).heap.size := by simp
    have hb2 := hb _ hk12 hs12 ⟨_, hl2, rfl⟩
    generalize W₁.putObj l (.loop { r with state := .busy }) = W₂ at hl2 hk12 hs12 hb2 ⊢
    have hD2 : ¬ (D l ∨ (W.heap.size ≤ l ∧ l < W₁.heap.size)) := by rintro (h | h); exact hlD h; omega
    have fin : ∀ (jump : Option Code) (W₃ : World) (D' : Fp), Sub (fun k => D k ∨ (W.heap.size ≤ k ∧ k < W₁.heap.size)) D' W₂ W₃ → Kp (fun k => ¬ (D k ∨ (W.heap.size ≤ k ∧ k < W₁.heap.size))) W₂ W₃ →
        (Instr.endRound l jump).run P W₃ = .ok (.bool jump.isNone) (W₃.putObj l (.loop { r with state := if jump.isNone then .ready else .done, pending := jump })) ∧
        (W₃.putObj l (.loop { r with state := if jump.isNone then .ready else .done, pending := jump })).heap[l]? = some (.loop { r with state := if jump.isNone then .ready else .done, pending := jump }) ∧
        Kp (fun k => k ≠ l) W₃ (W₃.putObj l (.loop { r with state := if jump.isNone then .ready else .done, pending := jump })) ∧ Sub D D' W W₃ ∧ Kp (fun k => ¬ D k ∧ k ≠ l) W W₃ ∧ ¬ D' l := by
      intro jump W₃ D' hsub hkp
      have hl3 : W₃.heap[l]? = some (.loop { r with state := .busy }) := hkp.heap hD2 hl2
      have hr := run_endRound (P := P) jump hl3
      have h23 := hkp.size
      have h01 := hW1.size
      refine ⟨hr, World.putObj_heap_same (Array.getElem?_eq_some_iff.1 hl3).1, (Kp.refl _ W₃).putObj (.inr (by simp)) _, ?_, ?_, ?_⟩
      · intro k hk
        rcases hsub k hk with (h | h) | h
        · exact .inl h
        · exact .inr ⟨h.1, by omega⟩
        · exact .inr ⟨by omega, h.2⟩
      · refine ((hW1.mono fun k _ _ => trivial).trans' hk12 fun k _ hk => hk.2).trans' hkp fun k hk hn => ?_
        rintro (h | h)
        · exact hn.1 h
        · omega
      · intro hk
        rcases hsub l hk with h | h
        · exact hD2 h
        · omega
    refine wpIn_mono hb2 ?_
    rintro e a3 W3 hp
    cases e with
    | normal =>
      obtain ⟨D', h1, h2, h3, h4⟩ := hp
      obtain ⟨hr, hl4, hk4, hs4, hk5, hd4⟩ := fin none W3 D' h1 h2
      exact ⟨_, _, hr, W3, D', by simp, hk4, hs4, hk5, h3, hd4, .inl ⟨rfl, h4, hl4⟩⟩
    | ret =>
      obtain ⟨D', h1, h2, h3, h4⟩ := hp
      obtain ⟨hr, hl4, hk4, hs4, hk5, hd4⟩ := fin (some .ret) W3 D' h1 h2
      exact ⟨_, _, hr, W3, D', by simp, hk4, hs4, hk5, h3, hd4, .inr ⟨_, rfl, h4, hl4⟩⟩
    | exit id =>
      obtain ⟨D', h1, h2, h3, h4⟩ := hp
      obtain ⟨hr, hl4, hk4, hs4, hk5, hd4⟩ := fin (some (.exit id)) W3 D' h1 h2
      exact ⟨_, _, hr, W3, D', by simp, hk4, hs4, hk5, h3, hd4, .inr ⟨_, rfl, h4, hl4⟩⟩
    | goto t =>
      obtain ⟨D', h1, h2, h3, h4⟩ := hp
      obtain ⟨hr, hl4, hk4, hs4, hk5, hd4⟩ := fin (some (.goto t)) W3 D' h1 h2
      exact ⟨_, _, hr, W3, D', by simp, hk4, hs4, hk5, h3, hd4, .inr ⟨_, rfl, h4, hl4⟩⟩
    | panic ch => exact hp.elim
    | outgrown => exact hp.elim

/-- What a round owes, as the two laws below ask it: the assignment to the loop's variables is walked to a frame and a world; behind it the body, in that world with the record turned. -/
def RoundOk (P : Program) (g0 : World) (tmps : Array Value) (ps : Array Tmp) (assign body : Code) (encs : α → Array Value) (xs : List α) (I : List α → Fp → World → Prop) (Ix : Code → List α → Fp → World → Prop) (D₀ : Fp) : Prop :=
  ∀ (l : Nat) pre x D W, I pre D W → (∀ k, D k → k < W.heap.size) → (pre ++ [x]) <+: xs → Sub D₀ D g0 W → Kp (fun k => ¬ D₀ k) g0 W → g0.heap.size ≤ l → l < W.heap.size → ¬ D l →
    ∀ K : Act → World → Prop, (∀ a₁ W₁, Ext W W₁ → (∀ W₂, Kp (fun k => k ≠ l) W₁ W₂ → W₁.heap.size = W₂.heap.size → (∃ r', W₂.heap[l]? = some (.loop r')) →
        body.wpIn (Fence.wide.inRound l) 0 P (rpost I Ix (pre ++ [x]) (fun k => D k ∨ (W.heap.size ≤ k ∧ k < W₁.heap.size)) W₂) a₁ W₂) → K a₁ W₁) →
      assign.wpIn (Fence.wide.inRound l) 0 P (Exit.then K (fun _ _ _ => False)) { tmps := (ps.zip (encs x)).foldl (fun t (p, v) => t.setIfInBounds p v) tmps, defers := [] } W
/-- What the book-keeping of a loop adds to the caller's word. -/
def withRec (l q : Nat) (rec : LoopState → Option Code → Loop) (g0 : World) (D₀ : Fp) (I : List α → Fp → World → Prop) (done : Option Code) (pre : List α) (E : Fp) (W : World) : Prop :=
  ∃ D, I pre D W ∧ (∀ k, D k → k < W.heap.size) ∧ (∀ k, E k ↔ D k ∨ k = l ∨ k = q) ∧ ¬ D l ∧ ¬ D q ∧ Sub D₀ D g0 W ∧ l < W.heap.size ∧ q < W.heap.size ∧
    W.heap[l]? = some (.loop (rec (if done.isNone then .ready else .done) done)) ∧ W.heap[q]? = some (.deferred (some []))

theorem withRec_frames {l q : Nat} {rec : LoopState → Option Code → Loop} {g0 : World} {D₀ : Fp} {I : List α → Fp → World → Prop} (hI : Frames I) (done : Option Code) : Frames (withRec l q rec g0 D₀ I done) := by
  rintro s E W W' ⟨D, h1, h2, h3, h4, h5, h6, h7, h8, h9, h10⟩ hE hk
  refine ⟨D, hI s D W W' h1 h2 (hk.mono fun k _ hd => (h3 k).2 (.inl hd)), fun k hd => hk.lt (h2 k hd), h3, h4, h5, ?_, hk.lt h7, hk.lt h8, hk.heap ((h3 l).2 (.inr (.inl rfl))) h9, hk.heap ((h3 q).2 (.inr (.inr rfl))) h10⟩
  intro k hd
  rcases h6 k hd with h | h
  · exact .inl h
  · exact .inr ⟨h.1, hk.lt h.2⟩

theorem frames_ex {β : Type} {γ : Type} {I : γ → β → Fp → World → Prop} (h : ∀ c, Frames (I c)) : Frames (fun s D W => ∃ c, I c s D W) :=
  fun s D W W' ⟨c, hc⟩ hD hk => ⟨c, h c s D W W' hc hD hk⟩

theorem range_wp (hg : a.eval g = fv) {S : Fp} {encs : α → Array Value} {xs : List α} (hseq : SeqV P S w fv encs xs) (hS : ∀ k, S k → k < w.heap.size) (hps : ∀ x, (encs x).size = ps.size)
    (I : List α → Fp → World → Prop) (Ix : Code → List α → Fp → World → Prop) (hI : Frames I) (hIx : ∀ c, Frames (Ix c)) (D₀ : Fp) (h0 : I [] D₀ w) (hD : ∀ k, D₀ k → k < w.heap.size ∧ ¬ S k)
    (hround : RoundOk P w a.tmps ps assign body encs xs I Ix D₀)
    (hdone : ∀ (q : Nat) (D' : Fp) (W' : World), I xs D' W' → Sub D₀ D' w W' → Kp (fun k => ¬ D₀ k) w W' → (∀ k, D' k → k < W'.heap.size) → w.heap.size ≤ q → ¬ D' q → W'.heap[q]? = some (.deferred (some [])) →
      Q .normal { a with defers := { target := .collected q, args := #[] } :: a.defers } W')
    (hstop : ∀ (q : Nat) (c : Code) (pre : List α) (D' : Fp) (W' : World), pre <+: xs → Ix c pre D' W' → Sub D₀ D' w W' → Kp (fun k => ¬ D₀ k) w W' → (∀ k, D' k → k < W'.heap.size) → w.heap.size ≤ q → ¬ D' q → W'.heap[q]? = some (.deferred (some [])) →
      c.wpIn Fence.wide 0 P Q { a with defers := { target := .collected q, args := #[] } :: a.defers } W') :
    (Code.rangeFunc g ps assign body).wpIn Fence.wide 0 P Q a w := by
  refine wpIn_rangeFunc ?_
  intro fn hfn
  rw [show Fence.wide.round = none from rfl]
  obtain ⟨rec, hrec⟩ : ∃ rec : LoopState → Option Code → Loop, rec = fun st pe => { state := st, pending := pe, fn, tmps := a.tmps, params := ps, assign, body, defers := w.heap.size } := ⟨_, rfl⟩
  obtain ⟨W1, hW1⟩ : ∃ W1, (w.alloc (.deferred (some []))).alloc (.loop (rec .ready none)) = W1 := ⟨_, rfl⟩
  have hL1 : W1.heap[w.heap.size + 1]? = some (.loop (rec .ready none)) := by
    rw [← hW1]; have := World.alloc_heap_new (w.alloc (.deferred (some []))) (.loop (rec .ready none)); rwa [World.size_alloc] at this
  have hK1 : W1.heap[w.heap.size]? = some (.deferred (some [])) := by
    rw [← hW1]; exact (Below.heap_alloc _ _ _ (by simp)).trans (World.alloc_heap_new w _)
  have he1 : Ext w W1 := by rw [← hW1]; exact ((Kp.refl _ w).alloc _).alloc _
  have hs1 : W1.heap.size = w.heap.size + 2 := by rw [← hW1]; simp
  have hcall := hseq.tells W1 (Kp.of_ext he1) (.func (.yield (w.heap.size + 1)) #[] #[]) (withRec (w.heap.size + 1) w.heap.size rec w D₀ I none) (fun pre E W => ∃ c, withRec (w.heap.size + 1) w.heap.size rec w D₀ (Ix c) (some c) pre E W)
    (fun k => D₀ k ∨ k = w.heap.size + 1 ∨ k = w.heap.size) ⟨_, _, _, rfl⟩ (withRec_frames hI none) (frames_ex fun c => withRec_frames (hIx c) (some c))
    ⟨D₀, hI _ _ _ _ h0 (fun k hk => (hD k hk).1) (Kp.of_ext he1), fun k hk => he1.lt (hD k hk).1, fun k => Iff.rfl, fun h => by have := (hD _ h).1; omega, fun h => by have := (hD _ h).1; omega, fun k hk => .inl hk, by omega, by omega, hL1, hK1⟩
    (by
      rintro k (h | h | h)
      · exact ⟨he1.lt (hD k h).1, (hD k h).2⟩
      · exact ⟨by omega, fun hs => by have := hS k hs; omega⟩
      · exact ⟨by omega, fun hs => by have := hS k hs; omega⟩) ?_
  · obtain ⟨f, as, hrun, hc⟩ := hcall
    obtain ⟨d, hd1, hd2⟩ := ofValue_run hrun
    refine ⟨w.heap.size + 1, [{ target := .collected w.heap.size, args := #[] }], W1, d, W1, f, as, W1, ?_, ?_, fun _ _ => trivial, hd2, (fun h => by cases h), callsIn_wide.2 (hc.mono ?_)⟩
    · rw [← hW1, hrec]; exact run_enterLoop_outer _ _ _ _ _
    · simp only [resolve, rangeCall, hg, List.map_toArray, List.map_cons, List.map_nil]; exact hd1
    · rintro e W2 ⟨⟨v, rfl⟩, E, hsub, hkp, hlt, (⟨D, h1, h2, h3, h4, h5, h6, h7, h8, h9, h10⟩ | ⟨pre, hpre, c, D, h1, h2, h3, h4, h5, h6, h7, h8, h9, h10⟩)⟩
      all_goals
        have hkp2 : ∀ o, Kp (fun k => k ≠ w.heap.size + 1) W2 (W2.putObj (w.heap.size + 1) o) := fun o => (Kp.refl _ _).putObj (.inr (by simp)) _
        have hend0 := run_endLoop (P := P) h9 (by rw [hrec]; simp)
        rw [show ∀ st pe, (rec st pe).pending = pe from fun st pe => by rw [hrec]] at hend0
        obtain ⟨W4, hend, hk2⟩ : ∃ W4, _ = Result.ok _ W4 ∧ Kp (fun k => k ≠ w.heap.size + 1) W2 W4 := ⟨_, hend0, hkp2 _⟩
      · refine ⟨none, _, hend, ?_⟩
        refine hdone w.heap.size D _ (hI _ _ _ _ h1 h2 (hk2.mono fun k _ hk => by rintro rfl; exact h4 hk)) (fun k hk => ?_) ?_ (fun k hk => hk2.lt (h2 k hk)) (Nat.le_refl _) h5 (hk2.heap (by simp) h10)
        · rcases h6 k hk with h | h
          · exact .inl h
          · exact .inr ⟨h.1, hk2.lt h.2⟩
        · refine (he1.mono fun k _ _ => trivial).trans' (hkp.trans' hk2 ?_) ?_
          · rintro k hk hn rfl; exact hn (.inr (.inl rfl))
          · rintro k hk hn (h | h | h)
            · exact hn h
            · omega
            · omega
      · refine ⟨some c, _, hend, ?_⟩
        refine hstop w.heap.size c pre D _ hpre ((hIx c) _ _ _ _ h1 h2 (hk2.mono fun k _ hk => by rintro rfl; exact h4 hk)) (fun k hk => ?_) ?_ (fun k hk => hk2.lt (h2 k hk)) (Nat.le_refl _) h5 (hk2.heap (by simp) h10)
        · rcases h6 k hk with h | h
          · exact .inl h
          · exact .inr ⟨h.1, hk2.lt h.2⟩
        · refine (he1.mono fun k _ _ => trivial).trans' (hkp.trans' hk2 ?_) ?_
          · rintro k hk hn rfl; exact hn (.inr (.inl rfl))
          · rintro k hk hn (h | h | h)
            · exact hn h
            · omega
            · omega
  · rintro pre x E W ⟨D, h1, h2, h3, h4, h5, h6, h7, h8, h9, h10⟩ hE hpre hsubE hkpE
    have hkD : Kp (fun k => ¬ D₀ k) w W := (he1.mono fun k _ _ => trivial).trans' hkpE (by
      rintro k hk hn (h | h | h)
      · exact hn h
      · omega
      · omega)
    refine (round_call (r := rec .ready none) (I := I) (Ix := Ix) (D := D) (by rw [hrec]; exact hps) (x := x) h9 (by rw [hrec]) h2 h4 (xs := pre ++ [x]) ?_).mono ?_
    · intro K hK
      rw [hrec] at hK ⊢
      refine hround (w.heap.size + 1) pre x D W h1 h2 hpre h6 hkD (by omega) h7 h4 K fun a₁ W₁ hW1 hb => hK a₁ W₁ hW1 fun W₂ hk2 hs2 ⟨r', hr', _⟩ => hb W₂ hk2 hs2 ⟨r', hr'⟩
    · rintro e W' ⟨W3, D', hsz, hk3, hs3, hkW, hlt3, hl3, hres⟩
      have hq3 : W3.heap[w.heap.size]? = some (.deferred (some [])) := hkW.heap ⟨h5, by omega⟩ h10
      have hq' : W'.heap[w.heap.size]? = some (.deferred (some [])) := hk3.heap (by simp) hq3
      have hDq : ¬ D' w.heap.size := by
        intro h
        rcases hs3 _ h with h | h
        · exact h5 h
        · omega
      have hkDD : Kp (fun k => k ≠ w.heap.size + 1) W3 W' := hk3
      have hlt' : w.heap.size + 1 < W'.heap.size := Nat.lt_of_lt_of_le (hkW.lt h7) hk3.size
      have hsub' : Sub D₀ D' w W' := by
        have hz := he1.size
        have hz1 := hkW.size
        intro k hk
        rcases hs3 k hk with h | h
        · rcases h6 k h with h' | h'
          · exact .inl h'
          · exact .inr ⟨h'.1, by omega⟩
        · exact .inr ⟨by omega, by omega⟩
      refine ⟨fun k => D' k ∨ k = w.heap.size + 1 ∨ k = w.heap.size, ?_, ?_, ?_, ?_⟩
      · rintro k (h | h | h)
        · rcases hs3 k h with h | h
          · exact .inl ((h3 k).2 (.inl h))
          · exact .inr ⟨h.1, by omega⟩
        · exact .inl ((h3 k).2 (.inr (.inl h)))
        · exact .inl ((h3 k).2 (.inr (.inr h)))
      · refine (hkW.mono ?_).trans' hkDD ?_
        · intro k _ hk
          exact ⟨fun h => hk ((h3 k).2 (.inl h)), fun h => hk ((h3 k).2 (.inr (.inl h)))⟩
        · rintro k _ hk rfl
          exact hk ((h3 _).2 (.inr (.inl rfl)))
      · rintro k (h | h | h)
        · have := hlt3 k h; omega
        · omega
        · omega
      · rcases hres with ⟨rfl, hi, hl'⟩ | ⟨c, rfl, hi, hl'⟩
        · refine .inl ⟨rfl, D', hI _ _ _ _ hi hlt3 (hkDD.mono fun k _ hk => by rintro rfl; exact hl3 hk), fun k hk => by have := hlt3 k hk; omega, fun k => Iff.rfl, hl3, hDq, hsub', hlt', by omega, ?_, hq'⟩
          rw [hl', hrec]; rfl
        · refine .inr ⟨rfl, c, D', (hIx c) _ _ _ _ hi hlt3 (hkDD.mono fun k _ hk => by rintro rfl; exact hl3 hk), fun k hk => by have := hlt3 k hk; omega, fun k => Iff.rfl, hl3, hDq, hsub', hlt', by omega, ?_, hq'⟩
          rw [hl', hrec]; rfl
/-- Likewise, in a round of another loop: one block of book-keeping. -/
def withRec1 (l : Nat) (rec : LoopState → Option Code → Loop) (g0 : World) (D₀ : Fp) (I : List α → Fp → World → Prop) (done : Option Code) (pre : List α) (E : Fp) (W : World) : Prop :=
  ∃ D, I pre D W ∧ (∀ k, D k → k < W.heap.size) ∧ (∀ k, E k ↔ D k ∨ k = l) ∧ ¬ D l ∧ Sub D₀ D g0 W ∧ l < W.heap.size ∧
    W.heap[l]? = some (.loop (rec (if done.isNone then .ready else .done) done))

theorem withRec1_frames {l : Nat} {rec : LoopState → Option Code → Loop} {g0 : World} {D₀ : Fp} {I : List α → Fp → World → Prop} (hI : Frames I) (done : Option Code) : Frames (withRec1 l rec g0 D₀ I done) := by
  rintro s E W W' ⟨D, h1, h2, h3, h4, h6, h7, h9⟩ hE hk
  refine ⟨D, hI s D W W' h1 h2 (hk.mono fun k _ hd => (h3 k).2 (.inl hd)), fun k hd => hk.lt (h2 k hd), h3, h4, ?_, hk.lt h7, hk.heap ((h3 l).2 (.inr rfl)) h9⟩
  intro k hd
  rcases h6 k hd with h | h
  · exact .inl h
  · exact .inr ⟨h.1, hk.lt h.2⟩

theorem range_in_wp {l₀ : Nat} {r₀ : Loop} (hl₀ : w.heap[l₀]? = some (.loop r₀)) (hg : a.eval g = fv) {S : Fp} {encs : α → Array Value} {xs : List α} (hseq : SeqV P S w fv encs xs) (hS : ∀ k, S k → k < w.heap.size) (hps : ∀ x, (encs x).size = ps.size)
    (I : List α → Fp → World → Prop) (Ix : Code → List α → Fp → World → Prop) (hI : Frames I) (hIx : ∀ c, Frames (Ix c)) (D₀ : Fp) (h0 : I [] D₀ w) (hD : ∀ k, D₀ k → k < w.heap.size ∧ ¬ S k)
    (hround : RoundOk P w a.tmps ps assign body encs xs I Ix D₀)
    (hdone : ∀ (D' : Fp) (W' : World), I xs D' W' → Sub D₀ D' w W' → Kp (fun k => ¬ D₀ k) w W' → (∀ k, D' k → k < W'.heap.size) → Q .normal a W')
    (hstop : ∀ (c : Code) (pre : List α) (D' : Fp) (W' : World), pre <+: xs → Ix c pre D' W' → Sub D₀ D' w W' → Kp (fun k => ¬ D₀ k) w W' → (∀ k, D' k → k < W'.heap.size) →
      c.wpIn (Fence.wide.inRound l₀) 0 P Q a W') :
    (Code.rangeFunc g ps assign body).wpIn (Fence.wide.inRound l₀) 0 P Q a w := by
  refine wpIn_rangeFunc ?_
  intro fn hfn
  rw [show (Fence.wide.inRound l₀).round = some l₀ from rfl]
  obtain ⟨rec, hrec⟩ : ∃ rec : LoopState → Option Code → Loop, rec = fun st pe => { state := st, pending := pe, fn, tmps := a.tmps, params := ps, assign, body, defers := r₀.defers } := ⟨_, rfl⟩
  obtain ⟨W1, hW1⟩ : ∃ W1, w.alloc (.loop (rec .ready none)) = W1 := ⟨_, rfl⟩
  have hL1 : W1.heap[w.heap.size]? = some (.loop (rec .ready none)) := by rw [← hW1]; exact World.alloc_heap_new w _
  have he1 : Ext w W1 := by rw [← hW1]; exact (Kp.refl _ w).alloc _
  have hs1 : W1.heap.size = w.heap.size + 1 := by rw [← hW1]; simp
  have hcall := hseq.tells W1 (Kp.of_ext he1) (.func (.yield w.heap.size) #[] #[]) (withRec1 w.heap.size rec w D₀ I none) (fun pre E W => ∃ c, withRec1 w.heap.size rec w D₀ (Ix c) (some c) pre E W)
    (fun k => D₀ k ∨ k = w.heap.size) ⟨_, _, _, rfl⟩ (withRec1_frames hI none) (frames_ex fun c => withRec1_frames (hIx c) (some c))
    ⟨D₀, hI _ _ _ _ h0 (fun k hk => (hD k hk).1) (Kp.of_ext he1), fun k hk => he1.lt (hD k hk).1, fun k => Iff.rfl, fun h => by have := (hD _ h).1; omega, fun k hk => .inl hk, by omega, hL1⟩
    (by
      rintro k (h | h)
      · exact ⟨he1.lt (hD k h).1, (hD k h).2⟩
      · exact ⟨by omega, fun hs => by have := hS k hs; omega⟩) ?_
  · obtain ⟨f, as, hrun, hc⟩ := hcall
    obtain ⟨d, hd1, hd2⟩ := ofValue_run hrun
    refine ⟨w.heap.size, [], W1, d, W1, f, as, W1, ?_, ?_, fun _ _ => trivial, hd2, (fun h => by cases h), callsIn_wide.2 (hc.mono ?_)⟩
    · rw [← hW1, hrec]; exact run_enterLoop_inner hl₀ _ _ _ _ _
    · simp only [resolve, rangeCall, hg, List.map_toArray, List.map_cons, List.map_nil]; exact hd1
    · rintro e W2 ⟨⟨v, rfl⟩, E, hsub, hkp, hlt, (⟨D, h1, h2, h3, h4, h6, h7, h9⟩ | ⟨pre, hpre, c, D, h1, h2, h3, h4, h6, h7, h9⟩)⟩
      all_goals
        have hkp2 : ∀ o, Kp (fun k => k ≠ w.heap.size) W2 (W2.putObj w.heap.size o) := fun o => (Kp.refl _ _).putObj (.inr (by simp)) _
        have hend0 := run_endLoop (P := P) h9 (by rw [hrec]; simp)
        rw [show ∀ st pe, (rec st pe).pending = pe from fun st pe => by rw [hrec]] at hend0
        obtain ⟨W4, hend, hk2⟩ : ∃ W4, _ = Result.ok _ W4 ∧ Kp (fun k => k ≠ w.heap.size) W2 W4 := ⟨_, hend0, hkp2 _⟩
      · refine ⟨none, _, hend, ?_⟩
        refine hdone D _ (hI _ _ _ _ h1 h2 (hk2.mono fun k _ hk => by rintro rfl; exact h4 hk)) (fun k hk => ?_) ?_ (fun k hk => hk2.lt (h2 k hk))
        · rcases h6 k hk with h | h
          · exact .inl h
          · exact .inr ⟨h.1, hk2.lt h.2⟩
        · refine (he1.mono fun k _ _ => trivial).trans' (hkp.trans' hk2 ?_) ?_
          · rintro k hk hn rfl; exact hn (.inr rfl)
          · rintro k hk hn (h | h)
            · exact hn h
            · omega
      · refine ⟨some c, _, hend, ?_⟩
        refine hstop c pre D _ hpre ((hIx c) _ _ _ _ h1 h2 (hk2.mono fun k _ hk => by rintro rfl; exact h4 hk)) (fun k hk => ?_) ?_ (fun k hk => hk2.lt (h2 k hk))
        · rcases h6 k hk with h | h
          · exact .inl h
          · exact .inr ⟨h.1, hk2.lt h.2⟩
        · refine (he1.mono fun k _ _ => trivial).trans' (hkp.trans' hk2 ?_) ?_
          · rintro k hk hn rfl; exact hn (.inr rfl)
          · rintro k hk hn (h | h)
            · exact hn h
            · omega
  · rintro pre x E W ⟨D, h1, h2, h3, h4, h6, h7, h9⟩ hE hpre hsubE hkpE
    have hkD : Kp (fun k => ¬ D₀ k) w W := (he1.mono fun k _ _ => trivial).trans' hkpE (by
      rintro k hk hn (h | h)
      · exact hn h
      · omega)
    refine (round_call (r := rec .ready none) (I := I) (Ix := Ix) (D := D) (by rw [hrec]; exact hps) (x := x) h9 (by rw [hrec]) h2 h4 (xs := pre ++ [x]) ?_).mono ?_
    · intro K hK
      rw [hrec] at hK ⊢
      refine hround w.heap.size pre x D W h1 h2 hpre h6 hkD (Nat.le_refl _) h7 h4 K fun a₁ W₁ hW1 hb => hK a₁ W₁ hW1 fun W₂ hk2 hs2 ⟨r', hr', _⟩ => hb W₂ hk2 hs2 ⟨r', hr'⟩
    · rintro e W' ⟨W3, D', hsz, hk3, hs3, hkW, hlt3, hl3, hres⟩
      have hlt' : w.heap.size < W'.heap.size := Nat.lt_of_lt_of_le (hkW.lt h7) hk3.size
      have hsub' : Sub D₀ D' w W' := by
        have hz := he1.size
        have hz1 := hkW.size
        intro k hk
        rcases hs3 k hk with h | h
        · rcases h6 k h with h' | h'
          · exact .inl h'
          · exact .inr ⟨h'.1, by omega⟩
        · exact .inr ⟨by omega, by omega⟩
      refine ⟨fun k => D' k ∨ k = w.heap.size, ?_, ?_, ?_, ?_⟩
      · rintro k (h | h)
        · rcases hs3 k h with h | h
          · exact .inl ((h3 k).2 (.inl h))
          · exact .inr ⟨h.1, by omega⟩
        · exact .inl ((h3 k).2 (.inr h))
      · refine (hkW.mono ?_).trans' hk3 ?_
        · intro k _ hk
          exact ⟨fun h => hk ((h3 k).2 (.inl h)), fun h => hk ((h3 k).2 (.inr h))⟩
        · rintro k _ hk rfl
          exact hk ((h3 _).2 (.inr rfl))
      · rintro k (h | h)
        · have := hlt3 k h; omega
        · omega
      · rcases hres with ⟨rfl, hi, hl'⟩ | ⟨c, rfl, hi, hl'⟩
        · refine .inl ⟨rfl, D', hI _ _ _ _ hi hlt3 (hk3.mono fun k _ hk => by rintro rfl; exact hl3 hk), fun k hk => by have := hlt3 k hk; omega, fun k => Iff.rfl, hl3, hsub', hlt', ?_⟩
          rw [hl', hrec]; rfl
        · refine .inr ⟨rfl, c, D', (hIx c) _ _ _ _ hi hlt3 (hk3.mono fun k _ hk => by rintro rfl; exact hl3 hk), fun k hk => by have := hlt3 k hk; omega, fun k => Iff.rfl, hl3, hsub', hlt', ?_⟩
          rw [hl', hrec]; rfl
end

/-! ### A function's contract from its body -/

/-- A function whose body may hold ranges over functions: its marks are among its deferred calls. -/
theorem calls_of_body {P : Program} {f : FuncId} {fn : Func} {c : Code} {args : Array Value} {w : World} {R : Ending → World → Prop} (hf : P.funcs[f]? = some fn) (hb : fn.body = some c)
    (h : c.wpIn Fence.wide 0 P (bodyPostM Fence.wide 0 P fn R) { tmps := args ++ Array.replicate (fn.ntmps - args.size) undef, defers := [] } w) : Calls P f args w R :=
  callsIn_wide.1 (callsIn_of_wp_marks hf hb trivial h)

/-- The way out without a mark. -/
theorem leaves0 {P : Program} {fn : Func} {R : Ending → World → Prop} {tmps : Array Value} {w : World} {v : Value} (hr : (results fn tmps).run P w = .ok v w) (h : R (.returned v) w) :
    LeavesInM Fence.wide 0 P fn tmps R [] .returning w := ⟨v, hr, h⟩

/-- The way out with one mark. -/
theorem leaves1 {P : Program} {fn : Func} {R : Ending → World → Prop} {tmps : Array Value} {w : World} {q : Nat} (hq : w.heap[q]? = some (.deferred (some [])))
    (h : ∀ W', Kp (fun k => k ≠ q) w W' → W'.heap.size = w.heap.size → ∃ v, (results fn tmps).run P W' = .ok v W' ∧ R (.returned v) W') :
    LeavesInM Fence.wide 0 P fn tmps R [{ target := .collected q, args := #[] }] .returning w :=
  ⟨by simp, .inl ⟨q, _, rfl, run_takeDeferred hq, h _ ((Kp.refl _ _).putObj (.inr (by simp)) _) (by simp)⟩⟩

/-- The way out with two marks. -/
theorem leaves2 {P : Program} {fn : Func} {R : Ending → World → Prop} {tmps : Array Value} {w : World} {q q' : Nat} (hq : w.heap[q]? = some (.deferred (some []))) (hq' : w.heap[q']? = some (.deferred (some []))) (hne : q' ≠ q)
    (h : ∀ W', Kp (fun k => k ≠ q ∧ k ≠ q') w W' → W'.heap.size = w.heap.size → ∃ v, (results fn tmps).run P W' = .ok v W' ∧ R (.returned v) W') :
    LeavesInM Fence.wide 0 P fn tmps R [{ target := .collected q, args := #[] }, { target := .collected q', args := #[] }] .returning w :=
  ⟨by simp, .inl ⟨q, _, rfl, run_takeDeferred hq, leaves1 ((World.putObj_heap_other hne).trans hq') fun W' hk hs => h W' (((Kp.refl _ _).putObj (.inr (by simp)) _).trans' (hk.mono fun k _ h => h) (fun k _ h => h.2)) (by rw [hs]; simp)⟩⟩

/-- At a call of a known function, in a walk at the wide fence; in a round. -/
theorem wide_call {P : Program} {n : Nat} {f : FuncId} {args : Array Value} {w : World} {R : Ending → World → Prop} (h : Calls P f args w R) : Fence.wide.fn f ∧ Fence.wide.depth = none ∧ CallsIn Fence.wide n P f args w R :=
  ⟨trivial, rfl, callsIn_wide.2 h⟩
theorem wideR_call {P : Program} {n l : Nat} {f : FuncId} {args : Array Value} {w : World} {R : Ending → World → Prop} (h : Calls P f args w R) : Fence.wide.fn f ∧ Fence.wide.depth = none ∧ CallsIn (Fence.wide.inRound l) n P f args w R :=
  ⟨trivial, rfl, callsIn_wide.2 h⟩

/-- Two results that lie in variables. -/
theorem results_cells2 {fn : Func} {t u : Tmp} {ty ty' : TypeId} (h : fn.results = #[.cell t ty, .cell u ty']) {tmps : Array Value} {P : Program} {w : World} (ha : ∀ w, (isAgg ty).run P w = .ok false w) (ha' : ∀ w, (isAgg ty').run P w = .ok false w)
    {p p' : Addr} {v v' : Value} (ht : tmps.getD t undef = .pointer (some p)) (hu : tmps.getD u undef = .pointer (some p')) (hv : w.cell? p = some v) (hv' : w.cell? p' = some v') :
    (results fn tmps).run P w = .ok (.tuple #[v, v']) w := by
  have ht' : tmps[t]?.getD undef = .pointer (some p) := by simpa using ht
  have hu' : tmps[u]?.getD undef = .pointer (some p') := by simpa using hu
  simp only [results, h]
  simp [Sem.run_bind, Result.andThen, ht', hu', loadVar, ha, ha', asAddr, load, Sem.run, hv, hv']

end Go.Proofs.YtgjbfkaepalkiaaGreatDoor
