/-
  Maps that a call made, keyed by numbers: they read as a function.
-/
import Derived.Test.YtddooggkcdloeaaGreatDoorData
import Derived.Maps.OwnSet
import Derived.Maps.Views
import Derived.Maps.OwnOps
namespace Go.Proofs.YtddooggkcdloeaaGreatDoor
open Go.RowKit Go.Maps
open Go.ChangeMaps Go.MapKept
set_option linter.unusedVariables false
set_option linter.unusedSimpArgs false

theorem wfI {x : Int} (hx : -9223372036854775808 ≤ x ∧ x ≤ 9223372036854775807) : (Lit.int .i64 x).wf = true := by
  have h1 : IntKind.i64.min = -9223372036854775808 := by decide
  have h2 : IntKind.i64.max = 9223372036854775807 := by decide
  show (decide (IntKind.i64.min ≤ x) && decide (x ≤ IntKind.i64.max)) = true
  rw [h1, h2, Bool.and_eq_true]
  exact ⟨decide_eq_true hx.1, decide_eq_true hx.2⟩

/-- What an element's type owes: its zero value, how an element reads, and that what reads so is that. -/
structure ME {β : Type} (P : Program) (e : TypeId) (ev : β → Value) (ed : β → DataW Unit) (z : β) (ok : β → Prop) : Prop where
  zero : ∀ w, (zeroValue e).run P w = .ok (ev z) w
  zok : ok z
  reads : ∀ y, ok y → plainElem P e (ev y) = some (ed y, [])
  back : ∀ v ps y, plainElem P e v = some (ed y, ps) → v = ev y

/-- Block b is a map of at most n entries that reads as f. -/
def GMap {β : Type} (P : Program) (k e : TypeId) (ed : β → DataW Unit) (z : β) (w : World) (b n : Nat) (f : Int → Option β) : Prop :=
  ∃ D : DataW Unit, w.ownsMap P k (plainElem P e) b n D ∧ ∀ x : Int, D.atKey (.int .i64 x) (ed z) = ed ((f x).getD z) ∧ has D (.int .i64 x) = (f x).isSome

section
variable {β : Type} {P : Program} {k e t : TypeId} {ev : β → Value} {ed : β → DataW Unit} {z : β} {ok : β → Prop} {w w' : World} {b n : Nat} {f : Int → Option β}
theorem GMap.made (w : World) : GMap P k e ed z (w.alloc (.map #[] 0)) w.heap.size 0 fun _ => none := ⟨_, World.ownsMap_made w P k _, fun x => ⟨rfl, rfl⟩⟩
theorem GMap.lt (h : GMap P k e ed z w b n f) : b < w.heap.size := by obtain ⟨D, h, _⟩ := h; exact h.lt
theorem GMap.kp (h : GMap P k e ed z w b n f) {S : Fp} (hk : Kp S w w') (hs : S b) : GMap P k e ed z w' b n f := by
  obtain ⟨D, ⟨es, c, h1, h2⟩, h3⟩ := h
  exact ⟨D, ⟨es, c, hk.heap hs h1, h2⟩, h3⟩
theorem GMap.ext (h : GMap P k e ed z w b n f) (hk : Ext w w') : GMap P k e ed z w' b n f := h.kp hk trivial
theorem GMap.look2 (h : GMap P k e ed z w b n f) (hP : P.underlying k = some (.int .i64)) (ht : P.underlying t = some (.map k e)) (M : ME P e ev ed z ok) {x : Int} (hx : -9223372036854775808 ≤ x ∧ x ≤ 9223372036854775807) :
    (Instr.lookup t (.map (some b)) (.int .i64 x) true).run P w = .ok (.tuple #[ev ((f x).getD z), .bool (f x).isSome]) w := by
  obtain ⟨D, h1, h2⟩ := h
  obtain ⟨v, ps, hr, hv⟩ := h1.look_ok (int_keyed hP) ht (M.zero w) (M.reads z M.zok) (keyOf_int_mk (q := .i64) hP (a := x) (wfI hx))
  rw [(h2 x).1] at hv
  rw [M.back _ _ _ hv, (h2 x).2] at hr
  exact hr
theorem GMap.look1 (h : GMap P k e ed z w b n f) (hP : P.underlying k = some (.int .i64)) (ht : P.underlying t = some (.map k e)) (M : ME P e ev ed z ok) {x : Int} (hx : -9223372036854775808 ≤ x ∧ x ≤ 9223372036854775807) :
    (Instr.lookup t (.map (some b)) (.int .i64 x) false).run P w = .ok (ev ((f x).getD z)) w := by
  obtain ⟨D, h1, h2⟩ := h
  obtain ⟨v, ps, hr, hv⟩ := h1.lookup (int_keyed hP) ht (M.zero w) (M.reads z M.zok) (keyOf_int_mk (q := .i64) hP (a := x) (wfI hx))
  rw [(h2 x).1] at hv
  rw [M.back _ _ _ hv] at hr
  exact hr
theorem GMap.put (h : GMap P k e ed z w b n f) (hP : P.underlying k = some (.int .i64)) (ht : P.underlying t = some (.map k e)) (M : ME P e ev ed z ok) (hn : n < maxLen) {x : Int} (hx : -9223372036854775808 ≤ x ∧ x ≤ 9223372036854775807) {y : β} (hy : ok y) :
    ∃ w', (Instr.mapUpdate t (.map (some b)) (.int .i64 x) (ev y)).run P w = .ok () w' ∧ GMap P k e ed z w' b (n + 1) (fun x' => if x' = x then some y else f x') ∧ Kp (fun k => k ≠ b) w w' := by
  obtain ⟨D, h1, h2⟩ := h
  obtain ⟨w', hr, h3, hg⟩ := h1.update (int_keyed hP) ht hn (keyOf_int_mk (q := .i64) hP (a := x) (wfI hx)) (M.reads y hy)
  refine ⟨w', hr, ⟨_, h3, fun x' => ?_⟩, (Kp.refl _ w).grown hg fun j hj => .inr (by cases hj; simp)⟩
  by_cases he : x' = x
  · subst he
    dsimp only
    rw [if_pos rfl]
    exact ⟨atKey_put_same h1.isMap (k := .int .i64 x') True.intro _ _, has_put_same h1.isMap (k := .int .i64 x') True.intro _⟩
  · dsimp only
    rw [if_neg he]
    have hne : (Lit.int .i64 x') ≠ (Lit.int .i64 x) := fun e => he (by injection e)
    exact ⟨(atKey_put_other hne _ _).trans (h2 x').1, (has_put_other hne _).trans (h2 x').2⟩
end

/-- The walk's step at a store into such a map. -/
theorem list_mapPut {β : Type} {P : Program} {k e t : TypeId} {ev : β → Value} {ed : β → DataW Unit} {z : β} {okE : β → Prop} {b n : Nat} {f : Int → Option β} {ops : Array Oper} {rest : List Oper} {o : Oper} {a : Act} {w : World} {Q : Exit → Act → World → Prop} {m x v : Operand} (hgd : o.guard = none)
    (ho : o.op = Op.mapUpdate t m x v) (h : GMap P k e ed z w b n f) (hP : P.underlying k = some (.int .i64)) (ht : P.underlying t = some (.map k e)) (M : ME P e ev ed z okE) (hn : n < maxLen) {xx : Int} (hx : -9223372036854775808 ≤ xx ∧ xx ≤ 9223372036854775807) {y : β} (hy : okE y)
    (e1 : a.eval m = .map (some b)) (e2 : a.eval x = .int .i64 xx) (e3 : a.eval v = ev y)
    (hK : ∀ w', GMap P k e ed z w' b (n + 1) (fun x' => if x' = xx then some y else f x') → Kp (fun k => k ≠ b) w w' → wpList P ops Q rest (a.put o.dst undef) w') : wpList P ops Q (o :: rest) a w := by
  refine wpList_plain hgd fun K' hK' => ?_
  obtain ⟨w', hrun, r1, r2⟩ := h.put hP ht M hn hx hy
  unfold Oper.wp
  simp [execOp, ho, e1, e2, e3, hrun, Result.andThen]
  exact hK' _ _ (hK w' r1 r2)

def edI (x : Int) : DataW Unit := .lit (.int .i64 x)
def okI (x : Int) : Prop := -9223372036854775808 ≤ x ∧ x ≤ 9223372036854775807
theorem meI : ME Tryz.prog 3 (fun x => .int .i64 x) edI 0 okI := by
  refine ⟨fun w => Tryz.zeroValue3 w, ⟨by decide, by decide⟩, fun y hy => ?_, fun v ps y h => ?_⟩
  · exact plainElem_int Tryz.underlying3 (wfI hy)
  · obtain ⟨a, rfl, hz, _⟩ := plainElem_int_inv Tryz.underlying3 h
    unfold edI at hz
    simp only [Prod.mk.injEq, DataW.lit.injEq, Lit.int.injEq, true_and] at hz
    rw [hz.1]

end Go.Proofs.YtddooggkcdloeaaGreatDoor
