/-
  Maps that a call made, keyed by numbers: they read as a function. three.standing at texts.
-/
import Derived.Test.YtgjbfkaepalkiaaGreatDoorData
import Derived.Maps.OwnSet
import Derived.Maps.Views
import Derived.Maps.OwnOps
import Derived.Test.YtgjbfkaepalkiaaGreatDoorPairs
namespace Go.Proofs.YtgjbfkaepalkiaaGreatDoor
open Go.RowKit Go.Maps
open Go.ChangeMaps Go.MapKept
set_option linter.unusedVariables false
set_option linter.unusedSimpArgs false

theorem wfI {x : Int} (hx : -9223372036854775808 ≤ x ∧ x ≤ 9223372036854775807) : (Lit.int .i64 x).wf = true := by
  have h1 : IntKind.i64.min = -9223372036854775808 := by decide
  have h2 : IntKind.i64.max = 9223372036854775807 := by decide
  show (decide (IntKind.i64.min ≤ x) && decide (x ≤ IntKind.i64.max)) = true
  rw [h1, h2, Bool.and_eq_true]
  exact ⟨decide_eq_true hx.1, decide_eq_true hx.2⟩

/-- What an element's type owes: its zero value, how an element reads, and that what reads so is that. -/
structure ME {β : Type} (P : Program) (e : TypeId) (ev : β → Value) (ed : β → DataW Unit) (z : β) (ok : β → Prop) : Prop where
  zero : ∀ w, (zeroValue e).run P w = .ok (ev z) w
  zok : ok z
  reads : ∀ y, ok y → plainElem P e (ev y) = some (ed y, [])
  back : ∀ v ps y, plainElem P e v = some (ed y, ps) → v = ev y

/-- Block b is a map of at most n entries that reads as f. -/
def GMap {β : Type} (P : Program) (k e : TypeId) (ed : β → DataW Unit) (z : β) (w : World) (b n : Nat) (f : Int → Option β) : Prop :=
  ∃ D : DataW Unit, w.ownsMap P k (plainElem P e) b n D ∧ ∀ x : Int, D.atKey (.int .i64 x) (ed z) = ed ((f x).getD z) ∧ has D (.int .i64 x) = (f x).isSome

section
variable {β : Type} {P : Program} {k e t : TypeId} {ev : β → Value} {ed : β → DataW Unit} {z : β} {ok : β → Prop} {w w' : World} {b n : Nat} {f : Int → Option β}
theorem GMap.made (w : World) : GMap P k e ed z (w.alloc (.map #[] 0)) w.heap.size 0 fun _ => none := ⟨_, World.ownsMap_made w P k _, fun x => ⟨rfl, rfl⟩⟩
theorem GMap.lt (h : GMap P k e ed z w b n f) : b < w.heap.size := by obtain ⟨D, h, _⟩ := h; exact h.lt
theorem GMap.kp (h : GMap P k e ed z w b n f) {S : Fp} (hk : Kp S w w') (hs : S b) : GMap P k e ed z w' b n f := by
  obtain ⟨D, ⟨es, c, h1, h2⟩, h3⟩ := h
  exact ⟨D, ⟨es, c, hk.heap hs h1, h2⟩, h3⟩
theorem GMap.ext (h : GMap P k e ed z w b n f) (hk : Ext w w') : GMap P k e ed z w' b n f := h.kp hk trivial
theorem GMap.look2 (h : GMap P k e ed z w b n f) (hP : P.underlying k = some (.int .i64)) (ht : P.underlying t = some (.map k e)) (M : ME P e ev ed z ok) {x : Int} (hx : -9223372036854775808 ≤ x ∧ x ≤ 9223372036854775807) :
    (Instr.lookup t (.map (some b)) (.int .i64 x) true).run P w = .ok (.tuple #[ev ((f x).getD z), .bool (f x).isSome]) w := by
  obtain ⟨D, h1, h2⟩ := h
  obtain ⟨v, ps, hr, hv⟩ := h1.look_ok (int_keyed hP) ht (M.zero w) (M.reads z M.zok) (keyOf_int_mk (q := .i64) hP (a := x) (wfI hx))
  rw [(h2 x).1] at hv
  rw [M.back _ _ _ hv, (h2 x).2] at hr
  exact hr
theorem GMap.look1 (h : GMap P k e ed z w b n f) (hP : P.underlying k = some (.int .i64)) (ht : P.underlying t = some (.map k e)) (M : ME P e ev ed z ok) {x : Int} (hx : -9223372036854775808 ≤ x ∧ x ≤ 9223372036854775807) :
    (Instr.lookup t (.map (some b)) (.int .i64 x) false).run P w = .ok (ev ((f x).getD z)) w := by
  obtain ⟨D, h1, h2⟩ := h
  obtain ⟨v, ps, hr, hv⟩ := h1.lookup (int_keyed hP) ht (M.zero w) (M.reads z M.zok) (keyOf_int_mk (q := .i64) hP (a := x) (wfI hx))
  rw [(h2 x).1] at hv
  rw [M.back _ _ _ hv] at hr
  exact hr
theorem GMap.put (h : GMap P k e ed z w b n f) (hP : P.underlying k = some (.int .i64)) (ht : P.underlying t = some (.map k e)) (M : ME P e ev ed z ok) (hn : n < maxLen) {x : Int} (hx : -9223372036854775808 ≤ x ∧ x ≤ 9223372036854775807) {y : β} (hy : ok y) :
    ∃ w', (Instr.mapUpdate t (.map (some b)) (.int .i64 x) (ev y)).run P w = .ok () w' ∧ GMap P k e ed z w' b (n + 1) (fun x' => if x' = x then some y else f x') ∧ Kp (fun k => k ≠ b) w w' := by
  obtain ⟨D, h1, h2⟩ := h
  obtain ⟨w', hr, h3, hg⟩ := h1.update (int_keyed hP) ht hn (keyOf_int_mk (q := .i64) hP (a := x) (wfI hx)) (M.reads y hy)
  refine ⟨w', hr, ⟨_, h3, fun x' => ?_⟩, (Kp.refl _ w).grown hg fun j hj => .inr (by cases hj; simp)⟩
  by_cases he : x' = x
  · subst he
    dsimp only
    rw [if_pos rfl]
    exact ⟨atKey_put_same h1.isMap (k := .int .i64 x') True.intro _ _, has_put_same h1.isMap (k := .int .i64 x') True.intro _⟩
  · dsimp only
    rw [if_neg he]
    have hne : (Lit.int .i64 x') ≠ (Lit.int .i64 x) := fun e => he (by injection e)
    exact ⟨(atKey_put_other hne _ _).trans (h2 x').1, (has_put_other hne _).trans (h2 x').2⟩
end

/-- The walk's step at a store into such a map. -/
theorem list_mapPut {β : Type} {P : Program} {k e t : TypeId} {ev : β → Value} {ed : β → DataW Unit} {z : β} {okE : β → Prop} {b n : Nat} {f : Int → Option β} {ops : Array Oper} {rest : List Oper} {o : Oper} {a : Act} {w : World} {Q : Exit → Act → World → Prop} {m x v : Operand} (hgd : o.guard = none)
    (ho : o.op = Op.mapUpdate t m x v) (h : GMap P k e ed z w b n f) (hP : P.underlying k = some (.int .i64)) (ht : P.underlying t = some (.map k e)) (M : ME P e ev ed z okE) (hn : n < maxLen) {xx : Int} (hx : -9223372036854775808 ≤ xx ∧ xx ≤ 9223372036854775807) {y : β} (hy : okE y)
    (e1 : a.eval m = .map (some b)) (e2 : a.eval x = .int .i64 xx) (e3 : a.eval v = ev y)
    (hK : ∀ w', GMap P k e ed z w' b (n + 1) (fun x' => if x' = xx then some y else f x') → Kp (fun k => k ≠ b) w w' → wpList P ops Q rest (a.put o.dst undef) w') : wpList P ops Q (o :: rest) a w := by
  refine wpList_plain hgd fun K' hK' => ?_
  obtain ⟨w', hrun, r1, r2⟩ := h.put hP ht M hn hx hy
  unfold Oper.wp
  simp [execOp, ho, e1, e2, e3, hrun, Result.andThen]
  exact hK' _ _ (hK w' r1 r2)

def edI (x : Int) : DataW Unit := .lit (.int .i64 x)
def okI (x : Int) : Prop := -9223372036854775808 ≤ x ∧ x ≤ 9223372036854775807
theorem meI : ME Tryz.prog 3 (fun x => .int .i64 x) edI 0 okI := by
  refine ⟨fun w => Tryz.zeroValue3 w, ⟨by decide, by decide⟩, fun y hy => ?_, fun v ps y h => ?_⟩
  · exact plainElem_int Tryz.underlying3 (wfI hy)
  · obtain ⟨a, rfl, hz, _⟩ := plainElem_int_inv Tryz.underlying3 h
    unfold edI at hz
    simp only [Prod.mk.injEq, DataW.lit.injEq, Lit.int.injEq, true_and] at hz
    rw [hz.1]

end Go.Proofs.YtgjbfkaepalkiaaGreatDoor

namespace Go.Proofs.YtgjbfkaepalkiaaGreatDoor
open Go.RowKit
set_option linter.unusedVariables false
set_option linter.unusedSimpArgs false
attribute [local go_sem] Oper.semAt_some

/-! ### Plain -/
def inN (ps : List (Nat × Nat)) : Nat → Option Nat := ps.foldl (fun f p => fun x => if x = p.1 then some p.2 else f x) (fun _ => none)
theorem inN_snoc (ps : List (Nat × Nat)) (p : Nat × Nat) : inN (ps ++ [p]) = fun x => if x = p.1 then some p.2 else inN ps x := by simp [inN, List.foldl_append]
def inI (f : Nat → Option Nat) : Int → Option Int := fun x => if 0 ≤ x then (f x.toNat).map Int.ofNat else none
theorem inI_none : (fun _ => none : Int → Option Int) = inI (inN []) := by
  funext x
  unfold inI
  split <;> rfl
theorem inI_put (f : Nat → Option Nat) (p q : Nat) : (fun x' => if x' = (p : Int) then some (q : Int) else inI f x') = inI fun x => if x = p then some q else f x := by
  funext x
  unfold inI
  by_cases h : x = (p : Int)
  · subst h; simp
  · rw [if_neg h]
    have h' : x < 0 ∨ ¬ x.toNat = p := by omega
    by_cases h0 : 0 ≤ x
    · rw [if_pos h0, if_pos h0]
      show _ = Option.map Int.ofNat (if x.toNat = p then some q else f x.toNat)
      rw [if_neg (by omega)]
    · rw [if_neg h0, if_neg h0]
theorem inI_at (f : Nat → Option Nat) (p : Nat) : inI f (p : Int) = (f p).map Int.ofNat := by unfold inI; rw [if_pos (by omega)]; simp
/-- A place in all three. -/
structure Pl where
  base : Nat
  a : Nat
  b : Nat
def standOne (f : Nat → Option Nat) (p : Nat × Nat) : List Pl := match f p.1 with
  | some j => [⟨p.1, p.2, j⟩]
  | none => []
def standK (f : Nat → Option Nat) (ps : List (Nat × Nat)) : List Pl := ps.flatMap (standOne f)
theorem standK_snoc (f : Nat → Option Nat) (ps : List (Nat × Nat)) (p : Nat × Nat) : standK f (ps ++ [p]) = standK f ps ++ standOne f p := by simp [standK]
theorem standK_length (f : Nat → Option Nat) (ps : List (Nat × Nat)) : (standK f ps).length ≤ ps.length := by
  refine snocInd (p := fun ps => (standK f ps).length ≤ ps.length) (Nat.le_refl _) (fun l x ih => ?_) ps
  rw [standK_snoc, List.length_append, List.length_append, List.length_singleton]
  have : (standOne f x).length ≤ 1 := by unfold standOne; split <;> simp
  omega
def standF (o a b : List ByteArray) : List Pl := standK (inN (pairsF o b)) (pairsF o a) ++ [⟨o.length, a.length, b.length⟩]

def EPl : El Pl := ⟨fun p => [.int .i64 p.base, .int .i64 p.a, .int .i64 p.b], 3, fun _ => rfl, fun x u hu => by simp only [List.mem_cons, List.not_mem_nil, or_false] at hu; rcases hu with rfl | rfl | rfl <;> rfl⟩
theorem tiPl : TI EPl Tryz.prog 239 237 24 :=
  TI.mk' (z := .agg #[.int .i64 0, .int .i64 0, .int .i64 0]) Tryz.underlying239 (by kernel_rfl) (by rfl) (by decide)
theorem RdA.place {S : Fp} {w : World} {A : Option Addr} {xs : List Pl} (h : RdA EPl S w A xs) {i : Nat} (hi : i < xs.length) :
    ∃ b off, A = some ⟨b, off, none⟩ ∧ S b ∧ b < w.heap.size ∧ w.cell? ⟨b, off + i * 3, none⟩ = some (.int .i64 xs[i].base) ∧ w.cell? ⟨b, off + i * 3 + 1, none⟩ = some (.int .i64 xs[i].a) ∧ w.cell? ⟨b, off + i * 3 + 2, none⟩ = some (.int .i64 xs[i].b) := by
  obtain ⟨b, off, hA, hs, hb, hc⟩ := h.at_ hi
  exact ⟨b, off, hA, hs, hb, hc 0 _ rfl, hc 1 _ rfl, hc 2 _ rfl⟩
/-- A pair's numbers are places. -/
theorem pairsL_le (xs : List ByteArray) : ∀ (i j : Nat) (ys : List ByteArray), ∀ p ∈ pairsL xs i j ys, p.1 < i + xs.length ∧ p.2 < j + ys.length ∧ i ≤ p.1 ∧ j ≤ p.2 := by
  induction xs with
  | nil => intro i j ys p hp; cases hp
  | cons x xs ih =>
    intro i j ys
    induction ys generalizing j with
    | nil => intro p hp; cases hp
    | cons y ys ih2 =>
      intro p hp
      rw [pairsL_cons] at hp
      simp only [List.length_cons]
      split at hp
      · rcases List.mem_cons.1 hp with rfl | hp
        · exact ⟨by dsimp only; omega, by dsimp only; omega, Nat.le_refl _, Nat.le_refl _⟩
        · have := ih _ _ _ p hp; omega
      · split at hp
        · have := ih _ _ _ p hp
          simp only [List.length_cons] at this
          omega
        · have := ih2 _ p hp
          simp only [List.length_cons] at this
          omega
theorem pairsL_length (xs : List ByteArray) : ∀ (i j : Nat) (ys : List ByteArray), (pairsL xs i j ys).length ≤ xs.length := by
  induction xs with
  | nil => intro i j ys; exact Nat.le_refl _
  | cons x xs ih =>
    intro i j ys
    induction ys generalizing j with
    | nil => exact Nat.zero_le _
    | cons y ys ih2 =>
      rw [pairsL_cons]
      simp only [List.length_cons] at ih2 ⊢
      split
      · have := ih (i + 1) (j + 1) ys; simp only [List.length_cons]; omega
      · split
        · have := ih (i + 1) j (y :: ys); omega
        · exact ih2 _
theorem pairsF_length (a b : List ByteArray) : (pairsF a b).length ≤ a.length := by
  unfold pairsF pairsAt
  exact Nat.le_trans (pairsL_length _ _ _ _) (by simp)
theorem pairsF_le (a b : List ByteArray) : ∀ p ∈ pairsF a b, p.1 < a.length ∧ p.2 < b.length := by
  intro p hp
  have := pairsL_le _ _ _ _ p hp
  simp only [List.drop_zero] at this
  omega

set_option maxHeartbeats 2000000 in
set_option maxRecDepth 100000 in
theorem standing_calls (v1 v2 v3 : Value) (xs ys zs : List ByteArray) (S : Fp) (w : World) (hA : Rd ES S w v1 xs) (hB : Rd ES S w v2 ys) (hC : Rd ES S w v3 zs) (h1 : xs.length ≤ 400) (h2 : ys.length ≤ 400) (h3 : zs.length ≤ 400) (hS : ∀ k, S k → k < w.heap.size) :
    Calls Tryz.prog 235 #[v1, v2, v3] w fun e w' => ∃ r, e = .returned r ∧ New EPl 237 w.heap.size w' r (standF xs ys zs) ∧ Ext w w' := by
  obtain ⟨A1, c1, rfl, hO1⟩ := hA.open_
  obtain ⟨A2, c2, rfl, hO2⟩ := hB.open_
  obtain ⟨A3, c3, rfl, hO3⟩ := hC.open_
  have hP1 := fun W (hW : Ext w W) => pairs_calls _ _ xs zs S S W (hA.kp (hW.mono fun _ _ _ => trivial)) (hC.kp (hW.mono fun _ _ _ => trivial)) h1 h3
  have hP2 := fun W (hW : Ext w W) => pairs_calls _ _ xs ys S S W (hA.kp (hW.mono fun _ _ _ => trivial)) (hB.kp (hW.mono fun _ _ _ => trivial)) h1 h2
  have hl1 := pairsF_length xs zs
  have hl2 := pairsF_length xs ys
  have hb1 := pairsF_le xs zs
  have hb2 := pairsF_le xs ys
  have hSF : standF xs ys zs = standK (inN (pairsF xs zs)) (pairsF xs ys) ++ [⟨xs.length, ys.length, zs.length⟩] := rfl
  obtain ⟨na, hna⟩ : ∃ n, xs.length = n := ⟨_, rfl⟩
  obtain ⟨nb, hnb⟩ : ∃ n, ys.length = n := ⟨_, rfl⟩
  obtain ⟨nc, hnc⟩ : ∃ n, zs.length = n := ⟨_, rfl⟩
  obtain ⟨ps, hps⟩ : ∃ ps, pairsF xs zs = ps := ⟨_, rfl⟩
  obtain ⟨qs, hqs⟩ : ∃ qs, pairsF xs ys = qs := ⟨_, rfl⟩
  obtain ⟨sf, hsf⟩ : ∃ sf, standF xs ys zs = sf := ⟨_, rfl⟩
  rw [hna, hnc] at hP1
  rw [hna, hnb] at hP2
  rw [hna] at h1 hl1 hl2 hb1 hb2
  rw [hnb] at h2 hb2
  rw [hnc] at h3 hb1
  rw [hps] at hP1 hl1 hb1
  rw [hqs] at hP2 hl2 hb2
  rw [hsf, hna, hnb, hnc, hps, hqs] at hSF
  rw [hsf, hna, hnb, hnc]
  have HP1 := Lib.hid hP1
  have HP2 := Lib.hid hP2
  have HB1 := Lib.hid hb1
  have HB2 := Lib.hid hb2
  have HSF := Lib.hid hSF
  have hmm := fun W => run_makeMap (P := Tryz.prog) 257 W
  clear hA hB hC hO1 hO2 hO3 hP1 hP2 hna hnb hnc hps hqs hsf hSF hb1 hb2 hS
  go_enter Tryz.func235, Tryz.ntmps235
  go_wp2_with fail
  have hx0 : Ext w (w.alloc (.map #[] 0)) := (Kp.refl _ w).alloc _
  refine (HP1.out _ hx0).mono ?_
  rintro e w1 ⟨r1, rfl, hN1, hx1'⟩
  have hM1 : GMap Tryz.prog 3 3 edI 0 w1 w.heap.size 0 (inI (inN [])) := by rw [← inI_none]; exact (GMap.made w).ext hx1'
  have hx1 := hx0.trans hx1'
  obtain ⟨B1, d1, hr1, hO1⟩ := hN1.rd.open_
  subst hr1
  obtain ⟨n1, hn1⟩ : ∃ n, ps.length = n := ⟨_, rfl⟩
  rw [hn1] at hl1 ⊢
  have HN1 := Lib.hid hn1
  have HQ1 := Lib.hid fun W (hW : Kp (fun k => k ≠ w.heap.size) w1 W) => hO1.kp (hW.mono fun k _ hk e => by subst e; simp at hk; omega)
  clear hx0 hx1' hN1 hO1 hn1 hmm
  go_wp2_with fail
  go_loopw [20] (fun i wr => ∃ k : Nat, k ≤ n1 ∧ i = .int .i64 k ∧ GMap Tryz.prog 3 3 edI 0 wr w.heap.size k (inI (inN (ps.take k))) ∧ Kp (fun k => k ≠ w.heap.size) w1 wr ∧ Ext w wr) (fun i _ => n1 - (intOf i).toNat)
  case atStart => exact ⟨0, Nat.zero_le _, rfl, hM1, Kp.refl _ _, hx1⟩
  case round =>
    obtain ⟨k, hk, rfl, hM, hk1, hx⟩ := hrel
    rename World => wo
    clear hM1
    by_cases hlt : k < n1
    · have hd : decide ((k : Int) < (n1 : Int)) = true := decide_eq_true (by omega)
      have hkp : k < ps.length := by have := HN1.out; omega
      obtain ⟨b, off, rfl, _, hb, e0, e1⟩ := (HQ1.out wo hk1).rd.pair hkp
      have HS : Hid (inN (ps.take (k + 1)) = fun x => if x = ps[k].1 then some ps[k].2 else inN (ps.take k) x) := Lib.hid (by rw [take_snoc ps hkp, inN_snoc])
      have hbd := HB1.out _ (List.getElem_mem hkp)
      obtain ⟨p, hp⟩ : ∃ p, ps[k] = p := ⟨_, rfl⟩
      rw [hp] at e0 e1 HS hbd
      obtain ⟨p1, p2⟩ := p
      dsimp only at e0 e1 HS hbd
      have hlt' : (k : Int) < (n1 : Int) := by omega
      have h0 : (0 : Int) ≤ (k : Int) := by omega
      have hw : IntKind.i64.wrap ((k : Int) + 1) = (k : Int) + 1 := IntWalk.i64_in _ (by omega)
      have HM := Lib.hid hM
      have HBD := Lib.hid hbd
      clear hkp hp hM hbd
      go_wp2_with (refine list_mapPut rfl rfl (HM.out.ext ((Kp.refl _ wo).alloc _)) Tryz.underlying3 Tryz.underlying257 meI (by unfold maxLen; omega) (xx := (p1 : Int)) (by have := HBD.out; omega) (y := (p2 : Int)) (by have := HBD.out; unfold okI; omega) rfl rfl rfl ?_)
      intro w3 hM3 hk3
      rw [inI_put, ← HS.out] at hM3
      have hM4 := Lib.hid hM3
      have hk4 : Kp (fun k => k ≠ w.heap.size) w1 w3 := (hk1.alloc _).trans hk3
      have hx4 : Ext w w3 := (hx.alloc _).trans' hk3 fun k hk _ => Nat.ne_of_lt hk
      clear hM3 hk3 hk1 hx e0 e1
      go_wp2_with fail
      go_roundw
      case rel => exact ⟨k + 1, by omega, by go_num, hM4.out, hk4, hx4⟩
      case measure => simp [intOf]; omega
    · have hd : decide ((k : Int) < (n1 : Int)) = false := decide_eq_false (by omega)
      have hall : ps.take k = ps := List.take_of_length_le (by have := HN1.out; omega)
      rw [hall] at hM
      have HM := Lib.hid fun W (hW : Ext wo W) => hM.ext hW
      clear hM hall
      go_wp2_with fail
      refine (HP2.out _ hx).mono ?_
      rintro e w2 ⟨r2, rfl, hN2, hx2⟩
      obtain ⟨B2, d2, hr2, hO2⟩ := hN2.rd.open_
      subst hr2
      obtain ⟨n2, hn2⟩ : ∃ n, qs.length = n := ⟨_, rfl⟩
      rw [hn2] at hl2 ⊢
      have HN2 := Lib.hid hn2
      have HQ2 := Lib.hid fun W (hW : Ext w2 W) => hO2.kp (hW.mono fun k _ _ => trivial)
      have HM2 := Lib.hid fun W (hW : Ext w2 W) => HM.out W (hx2.trans hW)
      have hxw := hx.trans hx2
      clear hN2 hO2 hn2 HM hx hx2 hk1
      go_wp2_with fail
      go_loopw [10, 34] (fun o i wr => ∃ k : Nat, k ≤ n2 ∧ i = .int .i64 k ∧ New EPl 237 w2.heap.size wr o (standK (inN ps) (qs.take k)) ∧ Ext w2 wr) (fun _ i _ => n2 - (intOf i).toNat)
      case atStart => exact ⟨0, Nat.zero_le _, rfl, by simpa [standK] using New.nil _ _ _, Kp.refl _ _⟩
      case round =>
        obtain ⟨k, hk, rfl, hN, hx⟩ := hrel
        rename World => wp
        obtain ⟨Ao, no, co, ho⟩ := hN.1.slice
        subst ho
        by_cases hlt : k < n2
        · have hd : decide ((k : Int) < (n2 : Int)) = true := decide_eq_true (by omega)
          have hkp : k < qs.length := by have := HN2.out; omega
          obtain ⟨b, off, rfl, _, hb, e0, e1⟩ := (HQ2.out wp hx).rd.pair hkp
          have HS := Lib.hid (standK_snoc (inN ps) (qs.take k) qs[k])
          rw [← take_snoc qs hkp] at HS
          have hsl := standK_length (inN ps) (qs.take k)
          have htl : (qs.take k).length ≤ 400 := by rw [List.length_take]; omega
          have hbd := HB2.out _ (List.getElem_mem hkp)
          obtain ⟨p, hp⟩ : ∃ p, qs[k] = p := ⟨_, rfl⟩
          rw [hp] at e0 e1 HS hbd
          obtain ⟨p1, p2⟩ := p
          dsimp only at e0 e1 hbd
          obtain ⟨sk, hsk⟩ : ∃ s, standK (inN ps) (qs.take k) = s := ⟨_, rfl⟩
          rw [hsk] at HS hN hsl
          have HSL : Hid (sk.length ≤ 400) := Lib.hid (by omega)
          have hlt' : (k : Int) < (n2 : Int) := by omega
          have h0 : (0 : Int) ≤ (k : Int) := by omega
          have hw : IntKind.i64.wrap ((k : Int) + 1) = (k : Int) + 1 := IntWalk.i64_in _ (by omega)
          have hlk := (HM2.out (wp.alloc (.cells #[.int .i64 p1, .int .i64 p2] 260)) (hx.alloc _)).look2 (t := 257) Tryz.underlying3 Tryz.underlying257 meI (x := (p1 : Int)) (by omega)
          rw [inI_at] at hlk
          have hN' := hN.ext ((Kp.refl _ wp).alloc (.cells #[.int .i64 p1, .int .i64 p2] 260))
          have hx' : Ext w2 (wp.alloc (.cells #[.int .i64 p1, .int .i64 p2] 260)) := hx.alloc _
          unfold standOne at HS
          dsimp only at HS
          clear hkp hp hbd hsk hsl htl hN
          cases hj : inN ps p1 with
          | none =>
            rw [hj] at hlk HS
            have hlk' : (Instr.lookup 257 (.map (some w.heap.size)) (.int .i64 (p1 : Int)) true).run Tryz.prog (wp.alloc (.cells #[.int .i64 p1, .int .i64 p2] 260)) = .ok (.tuple #[.int .i64 0, .bool false]) (wp.alloc (.cells #[.int .i64 p1, .int .i64 p2] 260)) := hlk
            have HS2 : Hid (standK (inN ps) (qs.take (k + 1)) = sk) := Lib.hid (by rw [HS.out]; simp)
            have HN' := Lib.hid hN'
            clear hlk HS hj hN'
            go_wp2_with fail
            go_roundw
            case rel => exact ⟨k + 1, by omega, by go_num, by rw [HS2.out]; exact HN'.out, hx'⟩
            case measure => simp [intOf]; omega
          | some j =>
            rw [hj] at hlk HS
            have hlk' : (Instr.lookup 257 (.map (some w.heap.size)) (.int .i64 (p1 : Int)) true).run Tryz.prog (wp.alloc (.cells #[.int .i64 p1, .int .i64 p2] 260)) = .ok (.tuple #[.int .i64 j, .bool true]) (wp.alloc (.cells #[.int .i64 p1, .int .i64 p2] 260)) := hlk
            have HS2 : Hid (standK (inN ps) (qs.take (k + 1)) = sk ++ [⟨p1, p2, j⟩]) := Lib.hid HS.out
            have HN' := Lib.hid hN'
            clear hlk HS hj hN'
            go_wp2_with (at_builtin; refine stop ?_)
            refine list_append1 (w := (wp.alloc (.cells #[.int .i64 p1, .int .i64 p2] 260))) (u := .slice (some ⟨wp.heap.size + 1, 0, none⟩) 1 1) tiPl ⟨p1, p2, j⟩ rfl rfl rfl HN'.out hx' (by simp) rfl rfl (by have := HSL.out; omega) (by have := HSL.out; unfold maxLen; omega) ?_
            intro v' w' hN3 hx3
            obtain ⟨A4, n4, c4, hv4⟩ := hN3.1.slice
            subst hv4
            clear HN' hx' hlk' e0 e1
            go_wp2_with fail
            go_roundw
            case rel => exact ⟨k + 1, by omega, by go_num, by rw [HS2.out]; exact hN3, hx3⟩
            case measure => simp [intOf]; omega
        · have hd : decide ((k : Int) < (n2 : Int)) = false := decide_eq_false (by omega)
          have hall : qs.take k = qs := List.take_of_length_le (by have := HN2.out; omega)
          rw [hall] at hN
          have hsl := standK_length (inN ps) qs
          have HSF2 := HSF
          obtain ⟨sk, hsk⟩ : ∃ s, standK (inN ps) qs = s := ⟨_, rfl⟩
          rw [hsk] at HSF2 hN hsl
          have HSL : Hid (sk.length ≤ 400) := Lib.hid (by have := HN2.out; omega)
          clear HSF hall hsk hsl
          go_wp2_with (at_builtin; refine stop ?_)
          refine list_append1 (u := .slice (some ⟨wp.heap.size, 0, none⟩) 1 1) tiPl ⟨na, nb, nc⟩ rfl rfl rfl hN hx rfl rfl rfl (by have := HSL.out; omega) (by have := HSL.out; unfold maxLen; omega) ?_
          intro v' w' hN3 hx3
          obtain ⟨A4, n4, c4, hv4⟩ := hN3.1.slice
          subst hv4
          have hz : w.heap.size ≤ w2.heap.size := hxw.size
          clear hN hx
          go_wp2_with fail
          go_ret
          exact ⟨_, rfl, by rw [HSF2.out]; exact hN3.less hz, hxw.trans hx3⟩

end Go.Proofs.YtgjbfkaepalkiaaGreatDoor
