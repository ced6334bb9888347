/-
  slices.Clone, slices.Equal at texts; three.part. three.Parts: rows of pieces; its function. Plain: the places that stand in all three rise; so the pieces between them fit. three.Parts' function.
-/
import Derived.Test.YtgjbfkaepalkiaaGreatDoorStanding
import Derived.Test.YtgjbfkaepalkiaaGreatDoorShelf
import Derived.Deep.RegionHeld3
import Derived.Handy
import Derived.Laws.ResultCell
import Derived.Laws.Rows
import Derived.Test.YtgjbfkaepalkiaaGreatDoorConcat
import Derived.Deep.RegionLaw
namespace Go.Proofs.YtgjbfkaepalkiaaGreatDoor
open Go.RowKit
set_option linter.unusedVariables false
set_option linter.unusedSimpArgs false
attribute [local go_sem] Oper.semAt_some
attribute [local go_sem ↓] Go.wp_at_zero Go.wp_at_succ

theorem New.of_row {α : Type} {E : El α} {t : TypeId} {w : World} {n : Nat} {v : Value} {xs : List α} (h : w.ownsRow n t E.sz v xs.length (E.flat xs)) : New E t n w v xs := by
  obtain ⟨hl, h2⟩ := h
  refine ⟨⟨hl, ?_⟩, fun g hg => ?_⟩
  · rcases h2 with h2 | ⟨g, cap, cur, hv, hb, rest⟩
    · exact .inl h2
    · exact .inr ⟨g, cap, cur, hv, Nat.zero_le _, rest⟩
  · rcases h2 with ⟨rfl, _⟩ | ⟨g', cap, cur, rfl, hb, _⟩
    · cases hg
    · cases hg; exact hb
theorem ext_of_below {w w' : World} (h : Below w.heap.size w w') : Ext w w' := ⟨h.os, h.tape, h.output, h.size, fun k hk _ => h.block k hk⟩
theorem flatS (xs : List ByteArray) : ES.flat xs = xs.map Value.string := by
  unfold El.flat ES
  induction xs with
  | nil => rfl
  | cons x xs ih => rw [List.flatMap_cons, ih]; rfl

/-- slices.Clone at texts. -/
theorem cloneS_calls (v : Value) (xs : List ByteArray) (S : Fp) (w : World) (hR : Rd ES S w v xs) (hb : xs.length ≤ 1000000) :
    Calls Tryz.prog 247 #[v] w fun e w' => ∃ u, e = .returned u ∧ New ES 9 w.heap.size w' u xs ∧ Ext w w' := by
  obtain ⟨A, c, rfl, hO⟩ := hR.open_
  cases A with
  | none =>
    obtain ⟨rfl, rfl⟩ := hO.none_
    refine (Tryz.slices_Clone_string_nil 0 0 w).mono ?_
    rintro e w' ⟨rfl, rfl⟩
    exact ⟨_, rfl, New.nil _ _ _, Kp.refl _ _⟩
  | some a =>
    by_cases h0 : 0 < xs.length
    · obtain ⟨b, off, hA, _, hbl, hc⟩ := hO.rd h0
      cases hA
      refine (Tryz.slices_Clone_string b off xs.length c xs w (Nat.le_refl _) (by omega) (fun j hj => by
        obtain ⟨b', off', he, _, _, h⟩ := hO.rd.text hj
        cases he
        rw [h, List.getD_eq_getElem?_getD, List.getElem?_eq_getElem hj]; rfl)).mono ?_
      rintro e w' ⟨u, rfl, hown, _, hbw⟩
      rw [List.take_length, ← flatS] at hown
      exact ⟨u, rfl, New.of_row hown, ext_of_below hbw⟩
    · have hx : xs = [] := List.eq_nil_of_length_eq_zero (by omega)
      subst hx
      refine (Tryz.slices_Clone_string_zero a c w).mono ?_
      rintro e w' ⟨u, rfl, hown, _, hbw⟩
      exact ⟨u, rfl, New.of_row (E := ES) (xs := []) hown, ext_of_below hbw⟩

def sameT (xs ys : List ByteArray) : Bool := decide (xs = ys)
/-- slices.Equal at texts. -/
theorem equalS_calls (v u : Value) (xs ys : List ByteArray) (S T : Fp) (w : World) (hR : Rd ES S w v xs) (hR' : Rd ES T w u ys) :
    Calls Tryz.prog 236 #[v, u] w fun e w' => e = .returned (.bool (sameT xs ys)) ∧ Ext w w' := by
  obtain ⟨A, c, rfl, hO⟩ := hR.open_
  obtain ⟨A', c', rfl, hO'⟩ := hR'.open_
  have l1 := hO.len
  have l2 := hO'.len
  by_cases h0 : 0 < xs.length
  · by_cases h1 : 0 < ys.length
    · obtain ⟨b, off, hA, _, hbl, _⟩ := hO.rd h0
      obtain ⟨b', off', hA', _, hbl', _⟩ := hO'.rd h1
      cases hA; cases hA'
      refine (Tryz.slices_Equal_string b off xs.length c b' off' ys.length c' xs ys w (Nat.le_refl _) (Nat.le_refl _) l1 l2 (fun j hj => ?_) (fun j hj => ?_)).mono ?_
      · obtain ⟨b2, o2, he, _, _, h⟩ := hO.rd.text hj
        cases he
        rw [h, List.getD_eq_getElem?_getD, List.getElem?_eq_getElem hj]; rfl
      · obtain ⟨b2, o2, he, _, _, h⟩ := hO'.rd.text hj
        cases he
        rw [h, List.getD_eq_getElem?_getD, List.getElem?_eq_getElem hj]; rfl
      · rintro e w' ⟨rfl, q, rfl⟩
        rw [List.take_length, List.take_length]
        exact ⟨rfl, (Kp.refl _ w).drewN q⟩
    · have hy : ys = [] := List.eq_nil_of_length_eq_zero (by omega)
      subst hy
      refine (Tryz.slices_Equal_string_lens A A' xs.length c 0 c' w (by omega)).mono ?_
      rintro e w' ⟨rfl, rfl⟩
      refine ⟨?_, Kp.refl _ _⟩
      unfold sameT
      rw [decide_eq_false (fun e => by rw [e] at h0; exact absurd h0 (Nat.lt_irrefl _))]
  · have hx : xs = [] := List.eq_nil_of_length_eq_zero (by omega)
    subst hx
    refine (Tryz.slices_Equal_string_empty A A' c ys.length c' w l2).mono ?_
    rintro e w' ⟨rfl, rfl⟩
    refine ⟨?_, Kp.refl _ _⟩
    unfold sameT
    cases ys <;> simp

/-- A piece of a list. -/
def sub {α : Type} (xs : List α) (i j : Nat) : List α := (xs.drop i).take (j - i)
theorem sub_length {α : Type} (xs : List α) {i j : Nat} (h1 : i ≤ j) (h2 : j ≤ xs.length) : (sub xs i j).length = j - i := by unfold sub; rw [List.length_take, List.length_drop]; omega
theorem Opn.midRd {S : Fp} {w : World} {A : Option Addr} {c : Nat} {xs : List ByteArray} (h : Opn ES S w A c xs) {i j : Nat} (h1 : i ≤ j) (h2 : j ≤ xs.length) : Rd ES S w (sliced A i j c 1) (sub xs i j) := by
  have hl := sub_length xs h1 h2
  have hle := h.le
  have hmx := h.max
  refine ⟨_, c - i, by rw [hl]; rfl, by rw [hl]; omega, by unfold maxLen; omega, fun hn => ?_, fun hp => ?_⟩
  · split at hn
    · omega
    · have : A = none := by cases A <;> simp at hn ⊢
      have := h.nil this
      omega
  · rw [hl] at hp
    obtain ⟨b, off, hA, hS, hb, hc⟩ := h.rd (by omega)
    subst hA
    have hci : ¬ c = i := by omega
    refine ⟨b, off + i, ?_, hS, hb, fun k u hk => ?_⟩
    · rw [if_neg hci]
      unfold Addr.add
      by_cases h0 : i = 0
      · subst h0; simp
      · simp [h0]
    · rw [Nat.add_assoc]
      refine hc _ u ?_
      have e1 : ES.flat (sub xs i j) = ((ES.flat xs).drop i).take (j - i) := by
        rw [flatS, flatS]; unfold sub; rw [List.map_take, List.map_drop]
      rw [e1, List.getElem?_take] at hk
      split at hk
      · rw [List.getElem?_drop] at hk; exact hk
      · cases hk

/-- A piece of all three lists. -/
structure Pt where
  conflict : Bool
  base : List ByteArray
  a : List ByteArray
  b : List ByteArray
def partF (o a b : List ByteArray) (f t : Pl) : Pt := ⟨false, sub o f.base t.base, sub a f.a t.a, sub b f.b t.b⟩
/-- A piece's value: its slices read as its lists; they were made since the heap had n blocks. -/
def PtV (n : Nat) (w : World) (v : Value) (p : Pt) : Prop := ∃ s1 s2 s3, v = .agg #[.bool p.conflict, s1, s2, s3] ∧ New ES 9 n w s1 p.base ∧ New ES 9 n w s2 p.a ∧ New ES 9 n w s3 p.b
theorem PtV.ext {n : Nat} {w w' : World} {v : Value} {p : Pt} (h : PtV n w v p) (hx : Ext w w') : PtV n w' v p := by
  obtain ⟨s1, s2, s3, hv, h1, h2, h3⟩ := h
  exact ⟨s1, s2, s3, hv, h1.ext hx, h2.ext hx, h3.ext hx⟩
theorem PtV.less {n m : Nat} {w : World} {v : Value} {p : Pt} (h : PtV n w v p) (hx : m ≤ n) : PtV m w v p := by
  obtain ⟨s1, s2, s3, hv, h1, h2, h3⟩ := h
  exact ⟨s1, s2, s3, hv, h1.less hx, h2.less hx, h3.less hx⟩
def Fits (f t : Pl) (o a b : List ByteArray) : Prop := (f.base ≤ t.base ∧ t.base ≤ o.length) ∧ (f.a ≤ t.a ∧ t.a ≤ a.length) ∧ (f.b ≤ t.b ∧ t.b ≤ b.length)

set_option maxHeartbeats 2000000 in
set_option maxRecDepth 100000 in
/-- three.part. -/
theorem part_calls (v1 v2 v3 : Value) (xs ys zs : List ByteArray) (f t : Pl) (S : Fp) (w : World) (hA : Rd ES S w v1 xs) (hB : Rd ES S w v2 ys) (hC : Rd ES S w v3 zs) (hf : Fits f t xs ys zs) (h1 : xs.length ≤ 400) (h2 : ys.length ≤ 400) (h3 : zs.length ≤ 400) :
    Calls Tryz.prog 234 #[v1, v2, v3, .agg #[.int .i64 f.base, .int .i64 f.a, .int .i64 f.b], .agg #[.int .i64 t.base, .int .i64 t.a, .int .i64 t.b]] w fun e w' => ∃ r, e = .returned r ∧ PtV w.heap.size w' r (partF xs ys zs f t) ∧ Ext w w' := by
  obtain ⟨A1, c1, rfl, hO1⟩ := hA.open_
  obtain ⟨A2, c2, rfl, hO2⟩ := hB.open_
  obtain ⟨A3, c3, rfl, hO3⟩ := hC.open_
  obtain ⟨⟨i1, i2⟩, ⟨i3, i4⟩, ⟨i5, i6⟩⟩ := hf
  have R1 := Lib.hid fun W (hW : Ext w W) => (hO1.kp (hW.mono fun _ _ _ => trivial)).midRd i1 i2
  have R2 := Lib.hid fun W (hW : Ext w W) => (hO2.kp (hW.mono fun _ _ _ => trivial)).midRd i3 i4
  have R3 := Lib.hid fun W (hW : Ext w W) => (hO3.kp (hW.mono fun _ _ _ => trivial)).midRd i5 i6
  have L1 : Hid ((sub xs f.base t.base).length ≤ 400) := Lib.hid (by rw [sub_length xs i1 i2]; omega)
  have L2 : Hid ((sub ys f.a t.a).length ≤ 400) := Lib.hid (by rw [sub_length ys i3 i4]; omega)
  have L3 : Hid ((sub zs f.b t.b).length ≤ 400) := Lib.hid (by rw [sub_length zs i5 i6]; omega)
  have k1 := hO1.le
  have k2 := hO2.le
  have k3 := hO3.le
  have hsz : Tryz.prog.elem 52 = 9 := by kernel_rfl
  have S1 : ∀ W, (Instr.slice 52 (.slice A1 xs.length c1) (some (.int .i64 f.base)) (some (.int .i64 t.base)) none).run Tryz.prog W = .ok (sliced A1 f.base t.base c1 1) W := fun W => by
    rw [run_slice_lh _ _ _ _ _ (by kernel_rfl) .i64 .i64 _ _ (by omega) (by omega) (by omega), hsz, Tryz.sizeOf9]; rfl
  have S2 : ∀ W, (Instr.slice 52 (.slice A2 ys.length c2) (some (.int .i64 f.a)) (some (.int .i64 t.a)) none).run Tryz.prog W = .ok (sliced A2 f.a t.a c2 1) W := fun W => by
    rw [run_slice_lh _ _ _ _ _ (by kernel_rfl) .i64 .i64 _ _ (by omega) (by omega) (by omega), hsz, Tryz.sizeOf9]; rfl
  have S3 : ∀ W, (Instr.slice 52 (.slice A3 zs.length c3) (some (.int .i64 f.b)) (some (.int .i64 t.b)) none).run Tryz.prog W = .ok (sliced A3 f.b t.b c3 1) W := fun W => by
    rw [run_slice_lh _ _ _ _ _ (by kernel_rfl) .i64 .i64 _ _ (by omega) (by omega) (by omega), hsz, Tryz.sizeOf9]; rfl
  obtain ⟨q1, hq1⟩ : ∃ q, sliced A1 f.base t.base c1 1 = q := ⟨_, rfl⟩
  obtain ⟨q2, hq2⟩ : ∃ q, sliced A2 f.a t.a c2 1 = q := ⟨_, rfl⟩
  obtain ⟨q3, hq3⟩ : ∃ q, sliced A3 f.b t.b c3 1 = q := ⟨_, rfl⟩
  rw [hq1] at R1 S1
  rw [hq2] at R2 S2
  rw [hq3] at R3 S3
  unfold partF
  generalize sub xs f.base t.base = xs' at *
  generalize sub ys f.a t.a = ys' at *
  generalize sub zs f.b t.b = zs' at *
  generalize xs.length = n1 at *
  generalize ys.length = n2 at *
  generalize zs.length = n3 at *
  obtain ⟨f1, f2, f3⟩ := f
  obtain ⟨t1, t2, t3⟩ := t
  dsimp only at *
  clear hA hB hC hO1 hO2 hO3 hq1 hq2 hq3 k1 k2 k3 i1 i2 i3 i4 i5 i6 h1 h2 h3 hsz
  go_enter Tryz.func234, Tryz.ntmps234
  go_wp2_with fail
  have hBf : Blk (((w.alloc (.cells #[.int .i64 f1, .int .i64 f2, .int .i64 f3] 237)).alloc (.cells #[.int .i64 t1, .int .i64 t2, .int .i64 t3] 237)).alloc (.cells #[.bool false, .slice none 0 0, .slice none 0 0, .slice none 0 0] 219)) w.heap.size 237 #[.int .i64 f1, .int .i64 f2, .int .i64 f3] := ((Blk.new w _ _).ext ((Kp.refl _ _).alloc (.cells #[.int .i64 t1, .int .i64 t2, .int .i64 t3] 237))).ext ((Kp.refl _ _).alloc (.cells #[.bool false, .slice none 0 0, .slice none 0 0, .slice none 0 0] 219))
  have hBt : Blk (((w.alloc (.cells #[.int .i64 f1, .int .i64 f2, .int .i64 f3] 237)).alloc (.cells #[.int .i64 t1, .int .i64 t2, .int .i64 t3] 237)).alloc (.cells #[.bool false, .slice none 0 0, .slice none 0 0, .slice none 0 0] 219)) (w.heap.size + 1) 237 #[.int .i64 t1, .int .i64 t2, .int .i64 t3] := by
    have h := (Blk.new (w.alloc (.cells #[.int .i64 f1, .int .i64 f2, .int .i64 f3] 237)) 237 #[.int .i64 t1, .int .i64 t2, .int .i64 t3]).ext ((Kp.refl _ _).alloc (.cells #[.bool false, .slice none 0 0, .slice none 0 0, .slice none 0 0] 219))
    rw [World.size_alloc] at h
    exact h
  have hBr : Blk (((w.alloc (.cells #[.int .i64 f1, .int .i64 f2, .int .i64 f3] 237)).alloc (.cells #[.int .i64 t1, .int .i64 t2, .int .i64 t3] 237)).alloc (.cells #[.bool false, .slice none 0 0, .slice none 0 0, .slice none 0 0] 219)) (w.heap.size + 1 + 1) 219 #[.bool false, .slice none 0 0, .slice none 0 0, .slice none 0 0] := by
    have h := Blk.new ((w.alloc (.cells #[.int .i64 f1, .int .i64 f2, .int .i64 f3] 237)).alloc (.cells #[.int .i64 t1, .int .i64 t2, .int .i64 t3] 237)) 219 #[.bool false, .slice none 0 0, .slice none 0 0, .slice none 0 0]
    rw [World.size_alloc, World.size_alloc] at h
    exact h
  have hx0 : Ext w (((w.alloc (.cells #[.int .i64 f1, .int .i64 f2, .int .i64 f3] 237)).alloc (.cells #[.int .i64 t1, .int .i64 t2, .int .i64 t3] 237)).alloc (.cells #[.bool false, .slice none 0 0, .slice none 0 0, .slice none 0 0] 219)) := (((Kp.refl _ _).alloc _).alloc _).alloc _
  generalize (((w.alloc (.cells #[.int .i64 f1, .int .i64 f2, .int .i64 f3] 237)).alloc (.cells #[.int .i64 t1, .int .i64 t2, .int .i64 t3] 237)).alloc (.cells #[.bool false, .slice none 0 0, .slice none 0 0, .slice none 0 0] 219)) = w0 at hBf hBt hBr hx0 ⊢
  have HK : Hid (∀ W, Kp (fun k => k ≠ w.heap.size + 1 + 1) w0 W → (W.cell? ⟨w.heap.size, 0, none⟩ = some (.int .i64 f1) ∧ W.cell? ⟨w.heap.size, 1, none⟩ = some (.int .i64 f2) ∧ W.cell? ⟨w.heap.size, 2, none⟩ = some (.int .i64 f3) ∧ W.cell? ⟨w.heap.size + 1, 0, none⟩ = some (.int .i64 t1) ∧ W.cell? ⟨w.heap.size + 1, 1, none⟩ = some (.int .i64 t2) ∧ W.cell? ⟨w.heap.size + 1, 2, none⟩ = some (.int .i64 t3))) := Lib.hid fun W hW => by
    have a := hBf.kp hW (by omega)
    have b := hBt.kp hW (by omega)
    exact ⟨a.cell 0, a.cell 1, a.cell 2, b.cell 0, b.cell 1, b.cell 2⟩
  have HR := Lib.hid fun W (hW : Ext w0 W) => hBr.ext hW
  have hsz0 : w.heap.size + 1 + 1 < w0.heap.size := hBr.lt
  have HZ := Lib.hid hsz0
  have C1 := Lib.hid fun W (hW : Ext w0 W) => (cloneS_calls q1 xs' S W (R1.out W (hx0.trans hW)) (by have := L1.out; omega)).mono fun e W' h => show (∃ u, e = .returned u ∧ New ES 9 w0.heap.size W' u xs') ∧ Ext w0 W' ∧ Ext W W' from by obtain ⟨u, he, hN, hx⟩ := h; exact ⟨⟨u, he, hN.less hW.size⟩, hW.trans hx, hx⟩
  have C2 := Lib.hid fun W (hW : Ext w0 W) => (cloneS_calls q2 ys' S W (R2.out W (hx0.trans hW)) (by have := L2.out; omega)).mono fun e W' h => show (∃ u, e = .returned u ∧ New ES 9 w0.heap.size W' u ys') ∧ Ext w0 W' ∧ Ext W W' from by obtain ⟨u, he, hN, hx⟩ := h; exact ⟨⟨u, he, hN.less hW.size⟩, hW.trans hx, hx⟩
  have C3 := Lib.hid fun W (hW : Ext w0 W) => (cloneS_calls q3 zs' S W (R3.out W (hx0.trans hW)) (by have := L3.out; omega)).mono fun e W' h => show (∃ u, e = .returned u ∧ New ES 9 w0.heap.size W' u zs') ∧ Ext w0 W' ∧ Ext W W' from by obtain ⟨u, he, hN, hx⟩ := h; exact ⟨⟨u, he, hN.less hW.size⟩, hW.trans hx, hx⟩
  clear hBf hBt hBr R1 R2 R3 L1 L2 L3 hsz0
  go_region_held3 (fun w' => w'.cell? ⟨w.heap.size, 0, none⟩ = some (.int .i64 f1) ∧ w'.cell? ⟨w.heap.size, 1, none⟩ = some (.int .i64 f2) ∧ w'.cell? ⟨w.heap.size, 2, none⟩ = some (.int .i64 f3) ∧ w'.cell? ⟨w.heap.size + 1, 0, none⟩ = some (.int .i64 t1) ∧ w'.cell? ⟨w.heap.size + 1, 1, none⟩ = some (.int .i64 t2) ∧ w'.cell? ⟨w.heap.size + 1, 2, none⟩ = some (.int .i64 t3))
    (first | exact HK.out _ (hxC.mono fun _ _ _ => trivial) | exact HK.out _ (((((hxC.mono fun _ _ _ => trivial).setCell (.inr (by simp)) _).setCell (.inr (by simp)) _).setCell (.inr (by simp)) _).setCell (.inr (by simp)) _) | exact HK.out _ (hxB.mono fun _ _ _ => trivial) | exact HK.out _ (hxA.mono fun _ _ _ => trivial) | exact HK.out _ ((Kp.refl _ w0).drew) | fail)
    (first
      | (go_at_call 247; ((with_reducible refine Calls.mono (C1.out _ ?_) ?_)); (exact (Kp.refl _ w0).drew); rintro e wA ⟨⟨u1, rfl, hU1⟩, hxA, hyA⟩; obtain ⟨Au1, nu1, cu1, hu1⟩ := hU1.1.slice; subst hu1)
      | (go_at_call 247; ((with_reducible refine Calls.mono (C2.out _ ?_) ?_)); (exact hxA); rintro e wB ⟨⟨u2, rfl, hU2⟩, hxB, hyB⟩; obtain ⟨Au2, nu2, cu2, hu2⟩ := hU2.1.slice; subst hu2)
      | (go_at_call 247; ((with_reducible refine Calls.mono (C3.out _ ?_) ?_)); (exact hxB); rintro e wC ⟨⟨u3, rfl, hU3⟩, hxC, hyC⟩; obtain ⟨Au3, nu3, cu3, hu3⟩ := hU3.1.slice; subst hu3; have hF := HR.out wC hxC; have d0 := hF.cell 0; have d1 := hF.cell 1; have d2 := hF.cell 2; have d3 := hF.cell 3; have g0 := hF.frozen 0; have g1 := hF.frozen 1; have g2 := hF.frozen 2; have g3 := hF.frozen 3)
      | fail)
  have hB2 := (((hF.set_ 0 (.bool false)).set_ 1 (.slice Au1 nu1 cu1)).set_ 2 (.slice Au2 nu2 cu2)).set_ 3 (.slice Au3 nu3 cu3)
  have hkk : Kp (fun k => k ≠ w.heap.size + 1 + 1) wC ((((wC.setCell ⟨w.heap.size + 1 + 1, 0, none⟩ (.bool false)).setCell ⟨w.heap.size + 1 + 1, 1, none⟩ (.slice Au1 nu1 cu1)).setCell ⟨w.heap.size + 1 + 1, 2, none⟩ (.slice Au2 nu2 cu2)).setCell ⟨w.heap.size + 1 + 1, 3, none⟩ (.slice Au3 nu3 cu3)) := ((((Kp.refl _ _).setCell (.inr (by simp)) _).setCell (.inr (by simp)) _).setCell (.inr (by simp)) _).setCell (.inr (by simp)) _
  have N1 := Lib.hid ((((hU1.ext hyB).ext hyC).kp hkk fun g hg e => by have := hU1.2 g hg; have := HZ.out; omega).less hx0.size)
  have N2 := Lib.hid (((hU2.ext hyC).kp hkk fun g hg e => by have := hU2.2 g hg; have := HZ.out; omega).less hx0.size)
  have N3 := Lib.hid ((hU3.kp hkk fun g hg e => by have := hU3.2 g hg; have := HZ.out; omega).less hx0.size)
  have hxf := Lib.hid ((hx0.trans hxC).trans' hkk fun k hk _ e => by omega)
  clear hU1 hU2 hU3 hyA hyB hyC hkk hxA hxB hF d0 d1 d2 d3 g0 g1 g2 g3
  go_wp2_with fail
  refine bodyPost_ret (results_cell_row rfl _ _ (w.heap.size + 1 + 1) 219 #[.bool false, .slice Au1 nu1 cu1, .slice Au2 nu2 cu2, .slice Au3 nu3 cu3] (0, 0) _ (by rfl) hB2 Tryz.underlying219 (by rfl) (by kernel_rfl)) rfl ?_
  exact ⟨_, rfl, ⟨_, _, _, rfl, N1.out, N2.out, N3.out⟩, hxf.out⟩

end Go.Proofs.YtgjbfkaepalkiaaGreatDoor

namespace Go.Proofs.YtgjbfkaepalkiaaGreatDoor
open Go.RowKit
set_option linter.unusedVariables false
set_option linter.unusedSimpArgs false
attribute [local go_sem] Oper.semAt_some
attribute [local go_sem ↓] Go.wp_at_zero Go.wp_at_succ

/-! ### Plain -/
def fastP (o a b : List ByteArray) (l : List Pt) (at_ from_ : Pl) : List Pt := if from_.base < at_.base then l ++ [partF o a b from_ at_] else l
def flagP (p : Pt) : Pt := ⟨!sameT p.a p.b && (!sameT p.a p.base && !sameT p.b p.base), p.base, p.a, p.b⟩
def plB (p q : Pl) : Bool := (p.base == q.base) && ((p.a == q.a) && (p.b == q.b))
structure PS3 where
  l : List Pt
  at_ : Pl
  from_ : Pl
def stepP (o a b : List ByteArray) (s : PS3) (p : Pl) : PS3 :=
  if plB p s.at_ = true then ⟨s.l, ⟨p.base + 1, p.a + 1, p.b + 1⟩, s.from_⟩
  else ⟨fastP o a b s.l s.at_ s.from_ ++ [flagP (partF o a b s.at_ p)], ⟨p.base + 1, p.a + 1, p.b + 1⟩, p⟩
def zeroPl : Pl := ⟨0, 0, 0⟩
def partsK (o a b : List ByteArray) (ps : List Pl) : PS3 := ps.foldl (stepP o a b) ⟨[], zeroPl, zeroPl⟩
theorem partsK_snoc (o a b : List ByteArray) (ps : List Pl) (p : Pl) : partsK o a b (ps ++ [p]) = stepP o a b (partsK o a b ps) p := by simp [partsK, List.foldl_append]
/-- All pieces. -/
def partsF (o a b : List ByteArray) : List Pt :=
  let s := partsK o a b (standF o a b)
  fastP o a b s.l ⟨o.length, a.length, b.length⟩ s.from_
theorem fastP_length (o a b : List ByteArray) (l : List Pt) (s t : Pl) : (fastP o a b l s t).length ≤ l.length + 1 := by
  unfold fastP; split <;> simp
theorem stepP_length (o a b : List ByteArray) (s : PS3) (p : Pl) : (stepP o a b s p).l.length ≤ s.l.length + 2 := by
  unfold stepP
  split
  · exact Nat.le_add_right _ _
  · have := fastP_length o a b s.l s.at_ s.from_
    simp only [List.length_append, List.length_singleton]; omega
theorem partsK_length (o a b : List ByteArray) (ps : List Pl) : (partsK o a b ps).l.length ≤ 2 * ps.length := by
  refine snocInd (p := fun ps => (partsK o a b ps).l.length ≤ 2 * ps.length) (Nat.le_refl _) (fun l x ih => ?_) ps
  rw [partsK_snoc, List.length_append, List.length_singleton]
  have := stepP_length o a b (partsK o a b l) x
  omega

/-! ### Rows of pieces -/
structure PtS where
  c : Bool
  s1 : SliceV
  s2 : SliceV
  s3 : SliceV
def EPt : El PtS := ⟨fun p => [.bool p.c, p.s1.val, p.s2.val, p.s3.val], 4, fun _ => rfl, fun x u hu => by simp only [List.mem_cons, List.not_mem_nil, or_false] at hu; rcases hu with rfl | rfl | rfl | rfl <;> rfl⟩
theorem tiPt : TI EPt Tryz.prog 216 219 80 :=
  TI.mk' (z := .agg #[.bool false, .slice none 0 0, .slice none 0 0, .slice none 0 0]) Tryz.underlying216 (by kernel_rfl) (by rfl) (by decide)
structure RepP (n : Nat) (w : World) (p : PtS) (q : Pt) : Prop where
  c : p.c = q.conflict
  s1 : New ES 9 n w p.s1.val q.base
  s2 : New ES 9 n w p.s2.val q.a
  s3 : New ES 9 n w p.s3.val q.b
def RepPs (n : Nat) (w : World) : List PtS → List Pt → Prop
  | [], [] => True
  | p :: ps, q :: qs => RepP n w p q ∧ RepPs n w ps qs
  | _, _ => False
/-- Rows of elements of two types lie in blocks of their own. -/
theorem Own.apart {α β : Type} {E : El α} {F : El β} {t u : TypeId} {w : World} {v v' : Value} {xs : List α} {ys : List β} (h : Own E t w v xs) (h' : Own F u w v' ys) (hne : t ≠ u) {g : Nat} (hg : v.ownBlock = some g) : v'.ownBlock ≠ some g := by
  intro hg'
  rcases h.2 with ⟨rfl, _⟩ | ⟨g1, cap, cur, rfl, _, hb, _⟩
  · cases hg
  · rcases h'.2 with ⟨rfl, _⟩ | ⟨g2, cap2, cur2, rfl, _, hb2, _⟩
    · cases hg'
    · cases hg; cases hg'
      rw [hb] at hb2
      injection hb2 with hb2
      injection hb2 with _ ht
      exact hne ht
theorem RepP.kp {n : Nat} {w w' : World} {p : PtS} {q : Pt} (h : RepP n w p q) {S : Fp} (hk : Kp S w w') (hs : ∀ v xs, New ES 9 n w v xs → ∀ g, v.ownBlock = some g → S g) : RepP n w' p q :=
  ⟨h.c, h.s1.kp hk (hs _ _ h.s1), h.s2.kp hk (hs _ _ h.s2), h.s3.kp hk (hs _ _ h.s3)⟩
theorem RepPs.kp {n : Nat} {w w' : World} {S : Fp} (hk : Kp S w w') (hs : ∀ v xs, New ES 9 n w v xs → ∀ g, v.ownBlock = some g → S g) : ∀ {ps : List PtS} {qs : List Pt}, RepPs n w ps qs → RepPs n w' ps qs
  | [], [], _ => trivial
  | _ :: _, _ :: _, h => ⟨h.1.kp hk hs, RepPs.kp hk hs h.2⟩
  | [], _ :: _, h => h.elim
  | _ :: _, [], h => h.elim
theorem RepPs.ext {n : Nat} {w w' : World} (hk : Ext w w') {ps : List PtS} {qs : List Pt} (h : RepPs n w ps qs) : RepPs n w' ps qs := RepPs.kp hk (fun _ _ _ _ _ => trivial) h
theorem RepPs.snoc {n : Nat} {w : World} {p : PtS} {q : Pt} (hp : RepP n w p q) : ∀ {ps : List PtS} {qs : List Pt}, RepPs n w ps qs → RepPs n w (ps ++ [p]) (qs ++ [q])
  | [], [], _ => ⟨hp, trivial⟩
  | _ :: _, _ :: _, h => ⟨h.1, RepPs.snoc hp h.2⟩
  | [], _ :: _, h => h.elim
  | _ :: _, [], h => h.elim
theorem RepPs.len {n : Nat} {w : World} : ∀ {ps : List PtS} {qs : List Pt}, RepPs n w ps qs → ps.length = qs.length
  | [], [], _ => rfl
  | _ :: _, _ :: _, h => by simp [RepPs.len h.2]
  | [], _ :: _, h => h.elim
  | _ :: _, [], h => h.elim
theorem RepPs.get {n : Nat} {w : World} : ∀ {ps : List PtS} {qs : List Pt}, RepPs n w ps qs → ∀ {i : Nat} (h1 : i < ps.length) (h2 : i < qs.length), RepP n w ps[i] qs[i]
  | _ :: _, _ :: _, h, 0, _, _ => h.1
  | _ :: _, _ :: _, h, i + 1, h1, h2 => RepPs.get h.2 (by simpa using h1) (by simpa using h2)
  | [], [], _, i, h1, _ => by simp at h1
  | [], _ :: _, h, _, _, _ => h.elim
  | _ :: _, [], h, _, _, _ => h.elim
theorem PtV.rep {n : Nat} {w : World} {v : Value} {q : Pt} (h : PtV n w v q) : ∃ p : PtS, v = .agg #[.bool p.c, p.s1.val, p.s2.val, p.s3.val] ∧ RepP n w p q := by
  obtain ⟨s1, s2, s3, rfl, h1, h2, h3⟩ := h
  obtain ⟨A1, n1, c1, rfl⟩ := h1.1.slice
  obtain ⟨A2, n2, c2, rfl⟩ := h2.1.slice
  obtain ⟨A3, n3, c3, rfl⟩ := h3.1.slice
  exact ⟨⟨q.conflict, ⟨A1, n1, c1⟩, ⟨A2, n2, c2⟩, ⟨A3, n3, c3⟩⟩, rfl, rfl, h1, h2, h3⟩

/-- The variable at block bl holds a row of pieces, made since the heap had n blocks. -/
def PSl (n bl : Nat) (w : World) (lv : Value) (rows : List PtS) (parts : List Pt) : Prop := Blk w bl 216 #[lv] ∧ New EPt 219 n w lv rows ∧ RepPs n w rows parts ∧ bl < n
theorem PSl.kp {n bl : Nat} {w w' : World} {lv : Value} {rows : List PtS} {parts : List Pt} (h : PSl n bl w lv rows parts) {S : Fp} (hk : Kp S w w') (hs : ∀ k, n ≤ k → S k) (hb : S bl) : PSl n bl w' lv rows parts :=
  ⟨h.1.kp hk hb, h.2.1.kp hk fun g hg => hs g (h.2.1.2 g hg), RepPs.kp hk (fun v xs hn g hg => hs g (hn.2 g hg)) h.2.2.1, h.2.2.2⟩
theorem PSl.ext {n bl : Nat} {w w' : World} {lv : Value} {rows : List PtS} {parts : List Pt} (h : PSl n bl w lv rows parts) (hk : Ext w w') : PSl n bl w' lv rows parts := h.kp hk (fun _ _ => trivial) trivial
theorem PSl.push {n bl : Nat} {w w' : World} {lv lv' : Value} {rows : List PtS} {parts : List Pt} (h : PSl n bl w lv rows parts) {p : PtS} {q : Pt} (hp : RepP n w p q) (hN : New EPt 219 n w' lv' (rows ++ [p])) (hk : Kp (fun k => lv.ownBlock ≠ some k) w w') :
    PSl n bl (w'.setCell ⟨bl, 0, none⟩ lv') lv' (rows ++ [p]) (parts ++ [q]) := by
  obtain ⟨h1, h2, h3, h4⟩ := h
  have hb : lv.ownBlock ≠ some bl := fun e => by have := h2.2 _ e; omega
  have hd : ∀ v xs, New ES 9 n w v xs → ∀ g, v.ownBlock = some g → lv.ownBlock ≠ some g := fun v xs hn g hg => hn.1.apart h2.1 (by decide) hg
  have hks : Kp (fun k => k ≠ bl) w' (w'.setCell ⟨bl, 0, none⟩ lv') := (Kp.refl _ _).setCell (.inr (by simp)) _
  exact ⟨(h1.kp hk hb).set_ 0 _, hN.kp hks (fun g hg e => by have := hN.2 g hg; omega), RepPs.kp hks (fun v xs hn g hg e => by have := hn.2 g hg; omega) (RepPs.snoc (hp.kp hk hd) (RepPs.kp hk hd h3)), h4⟩

end Go.Proofs.YtgjbfkaepalkiaaGreatDoor

namespace Go.Proofs.YtgjbfkaepalkiaaGreatDoor
set_option linter.unusedVariables false
set_option linter.unusedSimpArgs false

def LtPair (p q : Nat × Nat) : Prop := p.1 < q.1 ∧ p.2 < q.2
theorem pairsL_rise (xs : List ByteArray) : ∀ (i j : Nat) (ys : List ByteArray), (pairsL xs i j ys).Pairwise LtPair := by
  induction xs with
  | nil => intro i j ys; exact List.Pairwise.nil
  | cons x xs ih =>
    intro i j ys
    induction ys generalizing j with
    | nil => exact List.Pairwise.nil
    | cons y ys ih2 =>
      rw [pairsL_cons]
      split
      · refine List.Pairwise.cons (fun p hp => ?_) (ih _ _ _)
        have := pairsL_le _ _ _ _ p hp
        exact ⟨by dsimp only; omega, by dsimp only; omega⟩
      · split
        · exact ih _ _ _
        · exact ih2 _
theorem pairsF_rise (a b : List ByteArray) : (pairsF a b).Pairwise LtPair := pairsL_rise _ _ _ _
theorem inN_mem {ps : List (Nat × Nat)} {x j : Nat} (h : inN ps x = some j) : (x, j) ∈ ps := by
  revert h
  refine snocInd (p := fun ps => inN ps x = some j → (x, j) ∈ ps) (fun h => by cases h) (fun l p ih h => ?_) ps
  rw [inN_snoc] at h
  dsimp only at h
  split at h
  · rename_i e
    injection h with h
    subst e h
    exact List.mem_append_right _ (List.mem_singleton.2 rfl)
  · exact List.mem_append_left _ (ih h)
theorem rise_snd {ps : List (Nat × Nat)} (h : ps.Pairwise LtPair) {x j x' j' : Nat} (h1 : (x, j) ∈ ps) (h2 : (x', j') ∈ ps) (hx : x < x') : j < j' := by
  obtain ⟨i, hi, e1⟩ := List.getElem_of_mem h1
  obtain ⟨k, hk, e2⟩ := List.getElem_of_mem h2
  have hp := List.pairwise_iff_getElem.1 h
  rcases Nat.lt_trichotomy i k with hlt | rfl | hgt
  · have := hp i k hi hk hlt; rw [e1, e2] at this; exact this.2
  · rw [e1] at e2; injection e2 with e2 _; omega
  · have := hp k i hk hi hgt; rw [e1, e2] at this; have := this.1; dsimp only at this; omega
structure LtP (p q : Pl) : Prop where
  base : p.base < q.base
  a : p.a < q.a
  b : p.b < q.b
structure LeP (p q : Pl) : Prop where
  base : p.base ≤ q.base
  a : p.a ≤ q.a
  b : p.b ≤ q.b
theorem standK_mem {f : Nat → Option Nat} {ps : List (Nat × Nat)} {q : Pl} (h : q ∈ standK f ps) : (q.base, q.a) ∈ ps ∧ f q.base = some q.b := by
  unfold standK at h
  obtain ⟨p, hp, hq⟩ := List.mem_flatMap.1 h
  unfold standOne at hq
  split at hq
  · rename_i j hj
    rw [List.mem_singleton.1 hq]
    exact ⟨hp, hj⟩
  · cases hq
theorem standK_rise {ps qs : List (Nat × Nat)} (hp : ps.Pairwise LtPair) (hq : qs.Pairwise LtPair) : (standK (inN ps) qs).Pairwise LtP := by
  induction qs with
  | nil => exact List.Pairwise.nil
  | cons q qs ih =>
    have e : standK (inN ps) (q :: qs) = standOne (inN ps) q ++ standK (inN ps) qs := by simp [standK]
    rw [e, List.pairwise_append]
    rw [List.pairwise_cons] at hq
    refine ⟨?_, ih hq.2, fun x hx y hy => ?_⟩
    · unfold standOne; split
      · exact List.pairwise_singleton _ _
      · exact List.Pairwise.nil
    · have hx' : x ∈ standK (inN ps) [q] := by simpa [standK] using hx
      obtain ⟨h1, h2⟩ := standK_mem hx'
      obtain ⟨h3, h4⟩ := standK_mem hy
      have hl := hq.1 _ h3
      have e1 := List.mem_singleton.1 h1
      rw [← e1] at hl
      exact ⟨hl.1, hl.2, rise_snd hp (inN_mem h2) (inN_mem h4) hl.1⟩
theorem standF_rise (o a b : List ByteArray) : (standF o a b).Pairwise LtP := by
  unfold standF
  rw [List.pairwise_append]
  refine ⟨standK_rise (pairsF_rise _ _) (pairsF_rise _ _), List.pairwise_singleton _ _, fun x hx y hy => ?_⟩
  rw [List.mem_singleton.1 hy]
  obtain ⟨h1, h2⟩ := standK_mem hx
  have l1 := pairsF_le o a _ h1
  have l2 := pairsF_le o b _ (inN_mem h2)
  exact ⟨l1.1, l1.2, l2.2⟩
theorem standF_le (o a b : List ByteArray) : ∀ p ∈ standF o a b, LeP p ⟨o.length, a.length, b.length⟩ := by
  intro p hp
  unfold standF at hp
  rcases List.mem_append.1 hp with hp | hp
  · obtain ⟨h1, h2⟩ := standK_mem hp
    have l1 := pairsF_le o a _ h1
    have l2 := pairsF_le o b _ (inN_mem h2)
    exact ⟨Nat.le_of_lt l1.1, Nat.le_of_lt l1.2, Nat.le_of_lt l2.2⟩
  · rw [List.mem_singleton.1 hp]; exact ⟨Nat.le_refl _, Nat.le_refl _, Nat.le_refl _⟩
theorem standF_length (o a b : List ByteArray) : (standF o a b).length ≤ o.length + 1 := by
  unfold standF
  rw [List.length_append, List.length_singleton]
  have h1 := standK_length (inN (pairsF o b)) (pairsF o a)
  have h2 := pairsF_length o a
  omega
theorem LeP.trans {p q r : Pl} (h : LeP p q) (k : LeP q r) : LeP p r := ⟨Nat.le_trans h.base k.base, Nat.le_trans h.a k.a, Nat.le_trans h.b k.b⟩
theorem LeP.fits {p q : Pl} {o a b : List ByteArray} (h : LeP p q) (k : LeP q ⟨o.length, a.length, b.length⟩) : Fits p q o a b := ⟨⟨h.base, k.base⟩, ⟨h.a, k.a⟩, ⟨h.b, k.b⟩⟩

/-- What the walk knows of the state behind k places. -/
structure StOk (o a b : List ByteArray) (ps : List Pl) (k : Nat) (s : PS3) : Prop where
  fa : LeP s.from_ s.at_
  an : ∀ h : k < ps.length, LeP s.at_ ps[k]
  fl : LeP s.from_ ⟨o.length, a.length, b.length⟩
  small : s.at_.base ≤ o.length + 1 ∧ s.at_.a ≤ a.length + 1 ∧ s.at_.b ≤ b.length + 1
theorem stOk (o a b : List ByteArray) {ps : List Pl} (hr : ps.Pairwise LtP) (hl : ∀ p ∈ ps, LeP p ⟨o.length, a.length, b.length⟩) : ∀ k, k ≤ ps.length → StOk o a b ps k (partsK o a b (ps.take k)) := by
  intro k
  induction k with
  | zero =>
    intro _
    exact ⟨⟨Nat.le_refl _, Nat.le_refl _, Nat.le_refl _⟩, fun _ => ⟨Nat.zero_le _, Nat.zero_le _, Nat.zero_le _⟩, ⟨Nat.zero_le _, Nat.zero_le _, Nat.zero_le _⟩, Nat.zero_le _, Nat.zero_le _, Nat.zero_le _⟩
  | succ k ih =>
    intro hk
    have hk' : k < ps.length := by omega
    have h := ih (by omega)
    rw [take_snoc ps hk', partsK_snoc]
    generalize partsK o a b (ps.take k) = s at h
    have hp := hl _ (List.getElem_mem hk')
    have hnext : ∀ h2 : k + 1 < ps.length, LeP ⟨ps[k].base + 1, ps[k].a + 1, ps[k].b + 1⟩ ps[k + 1] := fun h2 => by
      have := List.pairwise_iff_getElem.1 hr k (k + 1) hk' h2 (by omega)
      exact ⟨this.base, this.a, this.b⟩
    have hsm : ps[k].base + 1 ≤ o.length + 1 ∧ ps[k].a + 1 ≤ a.length + 1 ∧ ps[k].b + 1 ≤ b.length + 1 := ⟨by have := hp.base; dsimp only at this; omega, by have := hp.a; dsimp only at this; omega, by have := hp.b; dsimp only at this; omega⟩
    unfold stepP
    split
    · refine ⟨(h.fa.trans (h.an hk')).trans ⟨Nat.le_succ _, Nat.le_succ _, Nat.le_succ _⟩, hnext, h.fl, hsm⟩
    · exact ⟨⟨Nat.le_succ _, Nat.le_succ _, Nat.le_succ _⟩, hnext, hp, hsm⟩

end Go.Proofs.YtgjbfkaepalkiaaGreatDoor

namespace Go.Proofs.YtgjbfkaepalkiaaGreatDoor
open Go.RowKit
set_option linter.unusedVariables false
set_option linter.unusedSimpArgs false
attribute [local go_sem] Oper.semAt_some
attribute [local go_sem ↓] Go.wp_at_zero Go.wp_at_succ

theorem New.grew {α : Type} {E : El α} {t : TypeId} {n : Nat} {W w' : World} {v v' : Value} {xs ys : List α} (h : New E t n W v xs) (hn : n ≤ W.heap.size) (hown : Own E t w' v' ys) (hb : v'.ownBlock = v.ownBlock ∨ v'.ownBlock = some W.heap.size) : New E t n w' v' ys :=
  ⟨hown, fun g hg => by
    rcases hb with hb | hb
    · exact h.2 g (by rw [← hb]; exact hg)
    · rw [hb] at hg; injection hg with hg; omega⟩
/-- At an append, in a region that draws its order: onto a row made since the heap had n blocks. -/
theorem step_append_k {α : Type} {E : El α} {P : Program} {T e : TypeId} {bytes : Nat} (ti : TI E P T e bytes) {ops : Array Oper} {o : Oper} {a : Act} {W : World} {K : Act → World → Prop} {Q : Exit → Act → World → Prop} {EE : Prop} {s x : Operand} (hgd : o.guard = none)
    (ho : o.op = .call { callee := .builtin .append, args := #[s, x], argTypes := #[T, T] }) {v u : Value} {xs ys : List α} {S : Fp} {n : Nat} (hN : New E e n W v xs) (hn : n ≤ W.heap.size) (hrd : Rd E S W u ys) (hs : a.eval s = v) (hx : a.eval x = u)
    (hb : (xs.length + ys.length) * bytes ≤ 140737488355328) (hm : xs.length + ys.length ≤ maxLen)
    (h : ∀ v' w', New E e n w' v' (xs ++ ys) → Kp (fun k => v.ownBlock ≠ some k) W w' → K (a.put o.dst v') w') :
    if Region.wanted o (yielded ops a.tmps) = true then Oper.wp P o a W K Q else EE := by
  have hw : Region.wanted o (yielded ops a.tmps) = true := by simp [Region.wanted, hgd]
  rw [if_pos hw]
  refine wp_append ti ho hs hx hN.1 hrd hb hm ?_
  intro v' w' hO hK hB
  exact h v' w' (hN.grew hn hO hB) hK
/-- .. in a plain region. -/
theorem list_append_k {α : Type} {E : El α} {P : Program} {T e : TypeId} {bytes : Nat} (ti : TI E P T e bytes) {ops : Array Oper} {rest : List Oper} {o : Oper} {a : Act} {W : World} {Q : Exit → Act → World → Prop} {s x : Operand} (hgd : o.guard = none)
    (ho : o.op = .call { callee := .builtin .append, args := #[s, x], argTypes := #[T, T] }) {v u : Value} {xs ys : List α} {S : Fp} {n : Nat} (hN : New E e n W v xs) (hn : n ≤ W.heap.size) (hrd : Rd E S W u ys) (hs : a.eval s = v) (hx : a.eval x = u)
    (hb : (xs.length + ys.length) * bytes ≤ 140737488355328) (hm : xs.length + ys.length ≤ maxLen)
    (h : ∀ v' w', New E e n w' v' (xs ++ ys) → Kp (fun k => v.ownBlock ≠ some k) W w' → wpList P ops Q rest (a.put o.dst v') w') : wpList P ops Q (o :: rest) a W :=
  list_append ti hgd ho hs hx hN.1 hrd hb hm fun v' w' hO hK hB => h v' w' (hN.grew hn hO hB) hK

theorem RepP.less {n m : Nat} {w : World} {p : PtS} {q : Pt} (h : RepP n w p q) (hm : m ≤ n) : RepP m w p q := ⟨h.c, h.s1.less hm, h.s2.less hm, h.s3.less hm⟩
theorem RepP.ext {n : Nat} {w w' : World} {p : PtS} {q : Pt} (h : RepP n w p q) (hk : Ext w w') : RepP n w' p q := h.kp hk fun _ _ _ _ _ => trivial

theorem Own.apartB {α : Type} {E : El α} {t u : TypeId} {w : World} {v : Value} {xs : List α} {b : Nat} {cs : Array Value} (h : Own E t w v xs) (h' : Blk w b u cs) (hne : t ≠ u) : v.ownBlock ≠ some b := by
  intro hg
  rcases h.2 with ⟨rfl, _⟩ | ⟨g1, cap, cur, rfl, _, hb, _⟩
  · cases hg
  · cases hg
    unfold Blk at h'
    rw [hb] at h'
    injection h' with h'
    injection h' with _ ht
    exact hne ht
/-- A store into a block that none of these is. -/
theorem PSl.far {n bl : Nat} {w : World} {lv : Value} {rows : List PtS} {parts : List Pt} (h : PSl n bl w lv rows parts) {b : Nat} {t : TypeId} {cs : Array Value} (hb : Blk w b t cs) (ht : 9 ≠ t) (hbl : bl ≠ b) (hown : lv.ownBlock ≠ some b) (i : Nat) (u : Value) : PSl n bl (w.setCell ⟨b, i, none⟩ u) lv rows parts := by
  have hk : Kp (fun k => k ≠ b) w (w.setCell ⟨b, i, none⟩ u) := (Kp.refl _ _).setCell (.inr (by simp)) _
  exact ⟨h.1.kp hk hbl, h.2.1.kp hk fun g hg e => hown (e ▸ hg), RepPs.kp hk (fun v xs hn g hg e => hn.1.apartB hb ht (e ▸ hg)) h.2.2.1, h.2.2.2⟩

set_option maxHeartbeats 2000000 in
set_option maxRecDepth 100000 in
theorem fast_calls (bfr bat bl bo ba bb N : Nat) (xs ys zs : List ByteArray) (f t : Pl) (lv v1 v2 v3 : Value) (rows : List PtS) (parts : List Pt) (S : Fp) (W : World) (hfr : Blk W bfr 237 #[.int .i64 f.base, .int .i64 f.a, .int .i64 f.b]) (hat : Blk W bat 237 #[.int .i64 t.base, .int .i64 t.a, .int .i64 t.b])
    (hl : PSl N bl W lv rows parts) (ho : Blk W bo 52 #[v1]) (ha : Blk W ba 52 #[v2]) (hb : Blk W bb 52 #[v3]) (R1 : Rd ES S W v1 xs) (R2 : Rd ES S W v2 ys) (R3 : Rd ES S W v3 zs) (hfit : f.base < t.base → Fits f t xs ys zs)
    (h1 : xs.length ≤ 400) (h2 : ys.length ≤ 400) (h3 : zs.length ≤ 400) (hrl : rows.length ≤ 2000) (hNW : N ≤ W.heap.size) (hfb : f.base ≤ 1000000) (htb : t.base ≤ 1000000) (hbs : (bfr < N ∧ bfr ≠ bl) ∧ (bat < N ∧ bat ≠ bl) ∧ (bo < N ∧ bo ≠ bl) ∧ (ba < N ∧ ba ≠ bl) ∧ (bb < N ∧ bb ≠ bl)) :
    Calls Tryz.prog 233 #[.pointer (some ⟨bfr, 0, none⟩), .pointer (some ⟨bat, 0, none⟩), .pointer (some ⟨bl, 0, none⟩), .pointer (some ⟨bo, 0, none⟩), .pointer (some ⟨ba, 0, none⟩), .pointer (some ⟨bb, 0, none⟩)] W
      fun e W' => (∃ v, e = .returned v) ∧ (∃ lv' rows', PSl N bl W' lv' rows' (fastP xs ys zs parts t f)) ∧ Kp (fun k => k ≠ bl ∧ lv.ownBlock ≠ some k) W W' := by
  obtain ⟨A1, c1, rfl, _⟩ := R1.open_
  obtain ⟨A2, c2, rfl, _⟩ := R2.open_
  obtain ⟨A3, c3, rfl, _⟩ := R3.open_
  obtain ⟨f1, f2, f3⟩ := f
  obtain ⟨t1, t2, t3⟩ := t
  dsimp only at hfr hat hfb htb hfit
  have c0 : W.cell? ⟨bfr, 0, none⟩ = some (.int .i64 f1) := hfr.cell 0
  have c1' : W.cell? ⟨bfr, 1, none⟩ = some (.int .i64 f2) := hfr.cell 1
  have c2' : W.cell? ⟨bfr, 2, none⟩ = some (.int .i64 f3) := hfr.cell 2
  have d0 : W.cell? ⟨bat, 0, none⟩ = some (.int .i64 t1) := hat.cell 0
  have d1 : W.cell? ⟨bat, 1, none⟩ = some (.int .i64 t2) := hat.cell 1
  have d2 : W.cell? ⟨bat, 2, none⟩ = some (.int .i64 t3) := hat.cell 2
  unfold fastP
  dsimp only
  by_cases hlt : f1 < t1
  · rw [if_pos hlt]
    have hd : decide ((f1 : Int) < (t1 : Int)) = true := decide_eq_true (by omega)
    have hdn : decide (f1 < t1) = true := decide_eq_true hlt
    have hF := hfit hlt
    have CP := Lib.hid fun W' (hW : Ext W W') => (part_calls _ _ _ xs ys zs ⟨f1, f2, f3⟩ ⟨t1, t2, t3⟩ S W' (R1.kp (hW.mono fun _ _ _ => trivial)) (R2.kp (hW.mono fun _ _ _ => trivial)) (R3.kp (hW.mono fun _ _ _ => trivial)) hF h1 h2 h3).mono fun e w2 h => show (∃ r, e = .returned r ∧ PtV W.heap.size w2 r (partF xs ys zs ⟨f1, f2, f3⟩ ⟨t1, t2, t3⟩)) ∧ Ext W w2 from by obtain ⟨r, he, hp, hx⟩ := h; exact ⟨⟨r, he, hp.less hW.size⟩, hW.trans hx⟩
    have HL := Lib.hid hl
    have e0 := hl.1.cell0
    obtain ⟨Al, nl, cl, hlv⟩ := hl.2.1.1.slice
    subst hlv
    have fl := fun w2 (hx : Ext W w2) => (hl.ext hx).1.frozen 0
    have HCK : Hid (∀ w2, Ext W w2 → (w2.cell? ⟨bl, 0, none⟩ = some (.slice Al nl cl) ∧ w2.frozen? ⟨bl, 0, none⟩ = false)) := Lib.hid fun w2 hx => ⟨(hl.ext hx).1.cell0, (hl.ext hx).1.frozen 0⟩
    have hbn := hl.2.2.2
    have HK : Hid (∀ W', Kp (fun k => k < N ∧ k ≠ bl) W W' → (W'.cell? ⟨bo, 0, none⟩ = some (.slice A1 xs.length c1) ∧ W'.cell? ⟨ba, 0, none⟩ = some (.slice A2 ys.length c2) ∧ W'.cell? ⟨bb, 0, none⟩ = some (.slice A3 zs.length c3) ∧ W'.cell? ⟨bfr, 0, none⟩ = some (.int .i64 f1) ∧ W'.cell? ⟨bfr, 1, none⟩ = some (.int .i64 f2) ∧ W'.cell? ⟨bfr, 2, none⟩ = some (.int .i64 f3) ∧ W'.cell? ⟨bat, 0, none⟩ = some (.int .i64 t1) ∧ W'.cell? ⟨bat, 1, none⟩ = some (.int .i64 t2) ∧ W'.cell? ⟨bat, 2, none⟩ = some (.int .i64 t3))) := Lib.hid fun W' hW => by
      have a := ho.kp hW hbs.2.2.1
      have b := ha.kp hW hbs.2.2.2.1
      have c := hb.kp hW hbs.2.2.2.2
      have d := hfr.kp hW hbs.1
      have e := hat.kp hW hbs.2.1
      exact ⟨a.cell0, b.cell0, c.cell0, d.cell 0, d.cell 1, d.cell 2, e.cell 0, e.cell 1, e.cell 2⟩
    dsimp only at CP
    generalize xs.length = n1 at *
    generalize ys.length = n2 at *
    generalize zs.length = n3 at *
    clear hfr hat hl ho ha hb R1 R2 R3 hF hfit fl
    go_enter Tryz.func233, Tryz.ntmps233
    go_wp2_with fail
    refine wp_region_held_drew (S := (fun W' => W'.cell? ⟨bo, 0, none⟩ = some (.slice A1 n1 c1) ∧ W'.cell? ⟨ba, 0, none⟩ = some (.slice A2 n2 c2) ∧ W'.cell? ⟨bb, 0, none⟩ = some (.slice A3 n3 c3) ∧ W'.cell? ⟨bfr, 0, none⟩ = some (.int .i64 f1) ∧ W'.cell? ⟨bfr, 1, none⟩ = some (.int .i64 f2) ∧ W'.cell? ⟨bfr, 2, none⟩ = some (.int .i64 f3) ∧ W'.cell? ⟨bat, 0, none⟩ = some (.int .i64 t1) ∧ W'.cell? ⟨bat, 1, none⟩ = some (.int .i64 t2) ∧ W'.cell? ⟨bat, 2, none⟩ = some (.int .i64 t3))) (by kernel_rfl) ?_ (fun hHeld => ?_)
    · (first | exact HK.out _ (hkF.setCell (.inr (by simp)) _) | exact HK.out _ hkF | exact HK.out _ ((hxA.mono fun _ _ _ => trivial).alloc _) | exact HK.out _ (hxA.mono fun _ _ _ => trivial) | exact HK.out _ ((Kp.refl _ W).drew) | fail)
    refine wpAnyH_take (i := 1) (v := ?_) rfl (by kernel_rfl) (by kernel_rfl) (by kernel_rfl) (fun _ _ _ h => h) (Or.inl ⟨by rfl, ?_⟩) (by assumption) ?_
    rotate_left
    · intro w hSw; (try dsimp only at hSw); go_simp; with_reducible rfl
    try simp only [Act.put, List.setIfInBounds_toArray, List.set_cons_zero, List.set_cons_succ]
    refine wpAnyH_take (i := 2) (v := ?_) rfl (by kernel_rfl) (by kernel_rfl) (by kernel_rfl) (fun _ _ _ h => h) (Or.inl ⟨by rfl, ?_⟩) (by assumption) ?_
    rotate_left
    · intro w hSw; (try dsimp only at hSw); go_simp; with_reducible rfl
    try simp only [Act.put, List.setIfInBounds_toArray, List.set_cons_zero, List.set_cons_succ]
    refine wpAnyH_take (i := 3) (v := ?_) rfl (by kernel_rfl) (by kernel_rfl) (by kernel_rfl) (fun _ _ _ h => h) (Or.inl ⟨by rfl, ?_⟩) (by assumption) ?_
    rotate_left
    · intro w hSw; (try dsimp only at hSw); go_simp; with_reducible rfl
    try simp only [Act.put, List.setIfInBounds_toArray, List.set_cons_zero, List.set_cons_succ]
    refine wpAnyH_take (i := 4) (v := ?_) rfl (by kernel_rfl) (by kernel_rfl) (by kernel_rfl) (fun _ _ _ h => h) (Or.inl ⟨by rfl, ?_⟩) (by assumption) ?_
    rotate_left
    · intro w hSw; (try dsimp only at hSw); go_simp; with_reducible rfl
    try simp only [Act.put, List.setIfInBounds_toArray, List.set_cons_zero, List.set_cons_succ]
    refine wpAnyH_take (i := 5) (v := ?_) rfl (by kernel_rfl) (by kernel_rfl) (by kernel_rfl) (fun _ _ _ h => h) (Or.inl ⟨by rfl, ?_⟩) (by assumption) ?_
    rotate_left
    · intro w hSw; (try dsimp only at hSw); go_simp; with_reducible rfl
    try simp only [Act.put, List.setIfInBounds_toArray, List.set_cons_zero, List.set_cons_succ]
    refine wpAnyH_ready (rs := [0, 6]) (by kernel_rfl) (by simp) ?_
    refine AllReadyH.cons rfl (fun K hK => ?_) ?_
    · skip
      go_simp
      refine hK.out _ _ ?_ (fun hHeld => ?_)
      · (try dsimp only); (first | exact HK.out _ (hkF.setCell (.inr (by simp)) _) | exact HK.out _ hkF | exact HK.out _ ((hxA.mono fun _ _ _ => trivial).alloc _) | exact HK.out _ (hxA.mono fun _ _ _ => trivial) | exact HK.out _ ((Kp.refl _ W).drew) | fail)
      clear hK K
      try simp only [Act.put, List.setIfInBounds_toArray, List.set_cons_zero, List.set_cons_succ]
      refine wpAnyH_ready (rs := [6]) (by kernel_rfl) (by simp) ?_
      refine AllReadyH.cons rfl (fun K hK => ?_) ?_
      · skip
        go_simp
        go_at_call 234; ((with_reducible refine Calls.mono (CP.out _ ?_) ?_)); (first | exact (Kp.refl _ W).drew | exact Kp.refl _ W); rintro e wA ⟨⟨r, rfl, hr⟩, hxA⟩; obtain ⟨⟨pc, ⟨P1, m1, k1⟩, ⟨P2, m2, k2⟩, ⟨P3, m3, k3⟩⟩, rfl, hp⟩ := hr.rep; dsimp only [SliceV.val]; obtain ⟨ea, fa⟩ := HCK.out wA hxA; have ea2 := fun o => (HCK.out (wA.alloc o) (hxA.alloc o)).1; have fa2 := fun o => (HCK.out (wA.alloc o) (hxA.alloc o)).2
        (try go_wp2_with fail)
        refine hK.out _ _ ?_ (fun hHeld => ?_)
        · (try dsimp only); (first | exact HK.out _ (hkF.setCell (.inr (by simp)) _) | exact HK.out _ hkF | exact HK.out _ ((hxA.mono fun _ _ _ => trivial).alloc _) | exact HK.out _ (hxA.mono fun _ _ _ => trivial) | exact HK.out _ ((Kp.refl _ W).drew) | fail)
        clear hK K
        try simp only [Act.put, List.setIfInBounds_toArray, List.set_cons_zero, List.set_cons_succ]
        refine wpAnyH_ready (rs := [7]) (by kernel_rfl) (by simp) ?_
        refine AllReadyH.cons rfl (fun K hK => ?_) ?_
        · skip
          go_simp
          refine hK.out _ _ ?_ (fun hHeld => ?_)
          · (try dsimp only); (first | exact HK.out _ (hkF.setCell (.inr (by simp)) _) | exact HK.out _ hkF | exact HK.out _ ((hxA.mono fun _ _ _ => trivial).alloc _) | exact HK.out _ (hxA.mono fun _ _ _ => trivial) | exact HK.out _ ((Kp.refl _ W).drew) | fail)
          clear hK K
          try simp only [Act.put, List.setIfInBounds_toArray, List.set_cons_zero, List.set_cons_succ]
          refine wpAnyH_ready (rs := [8]) (by kernel_rfl) (by simp) ?_
          refine AllReadyH.cons rfl (fun K hK => ?_) ?_
          · skip
            (refine step_append_k (n := N) (v := .slice Al nl cl) (E := EPt) (ys := [⟨pc, ⟨P1, m1, k1⟩, ⟨P2, m2, k2⟩, ⟨P3, m3, k3⟩⟩]) tiPt (by rfl) (by rfl) ((HL.out.2.1.ext hxA).ext ((Kp.refl _ wA).alloc _)) (by have := hxA.size; simp; omega) (Own.made (E := EPt) wA 219 [⟨pc, ⟨P1, m1, k1⟩, ⟨P2, m2, k2⟩, ⟨P3, m3, k3⟩⟩] (by simp [maxLen])).rd (by rfl) (by rfl) (by simp; omega) (by simp [maxLen]; omega) ?_; intro lv' wF hN2 hk2; have hkF : Kp (fun k => k < N ∧ k ≠ bl) W wF := ((hxA.mono fun _ _ _ => trivial).alloc _).trans' hk2 (fun k _ hk e => by have := HL.out.2.1.2 k e; omega); have hBF := ((HL.out.1.ext hxA).ext ((Kp.refl _ wA).alloc (.cells #[.bool pc, .slice P1 m1 k1, .slice P2 m2 k2, .slice P3 m3 k3] 219))).kp hk2 (fun e => by have := HL.out.2.1.2 _ e; omega); have eb := hBF.cell0; have fb := hBF.frozen 0; obtain ⟨Af, nf, cf, hlf⟩ := hN2.1.slice; subst hlf)
            refine hK.out _ _ ?_ (fun hHeld => ?_)
            · (try dsimp only); (first | exact HK.out _ (hkF.setCell (.inr (by simp)) _) | exact HK.out _ hkF | exact HK.out _ ((hxA.mono fun _ _ _ => trivial).alloc _) | exact HK.out _ (hxA.mono fun _ _ _ => trivial) | exact HK.out _ ((Kp.refl _ W).drew) | fail)
            clear hK K
            try simp only [Act.put, List.setIfInBounds_toArray, List.set_cons_zero, List.set_cons_succ]
            refine wpAnyH_ready (rs := [9]) (by kernel_rfl) (by simp) ?_
            refine AllReadyH.cons rfl (fun K hK => ?_) ?_
            · skip
              go_simp
              refine hK.out _ _ ?_ (fun hHeld => ?_)
              · (try dsimp only); (first | exact HK.out _ (hkF.setCell (.inr (by simp)) _) | exact HK.out _ hkF | exact HK.out _ ((hxA.mono fun _ _ _ => trivial).alloc _) | exact HK.out _ (hxA.mono fun _ _ _ => trivial) | exact HK.out _ ((Kp.refl _ W).drew) | fail)
              clear hK K
              try simp only [Act.put, List.setIfInBounds_toArray, List.set_cons_zero, List.set_cons_succ]
              refine wpAnyH_done (by kernel_rfl) ?_ _
              (refine bodyPost_end (results_none rfl _ _ _) rfl ?_; exact ⟨⟨_, rfl⟩, ⟨_, _, PSl.push ((HL.out.ext hxA).ext ((Kp.refl _ wA).alloc _)) (p := ⟨pc, ⟨P1, m1, k1⟩, ⟨P2, m2, k2⟩, ⟨P3, m3, k3⟩⟩) ((hp.less hNW).ext ((Kp.refl _ wA).alloc _)) hN2 hk2⟩, (((hxA.mono (T := fun k => k ≠ bl ∧ Value.ownBlock (.slice Al nl cl) ≠ some k) fun _ _ _ => trivial).alloc _).trans' hk2 fun _ _ h => h.2).setCell (.inr (by simp)) _⟩)
            exact AllReadyH.nil
          exact AllReadyH.nil
        exact AllReadyH.nil
      exact AllReadyH.nil
    refine AllReadyH.cons rfl (fun K hK => ?_) ?_
    · skip
      go_simp
      go_at_call 234; ((with_reducible refine Calls.mono (CP.out _ ?_) ?_)); (first | exact (Kp.refl _ W).drew | exact Kp.refl _ W); rintro e wA ⟨⟨r, rfl, hr⟩, hxA⟩; obtain ⟨⟨pc, ⟨P1, m1, k1⟩, ⟨P2, m2, k2⟩, ⟨P3, m3, k3⟩⟩, rfl, hp⟩ := hr.rep; dsimp only [SliceV.val]; obtain ⟨ea, fa⟩ := HCK.out wA hxA; have ea2 := fun o => (HCK.out (wA.alloc o) (hxA.alloc o)).1; have fa2 := fun o => (HCK.out (wA.alloc o) (hxA.alloc o)).2
      (try go_wp2_with fail)
      refine hK.out _ _ ?_ (fun hHeld => ?_)
      · (try dsimp only); (first | exact HK.out _ (hkF.setCell (.inr (by simp)) _) | exact HK.out _ hkF | exact HK.out _ ((hxA.mono fun _ _ _ => trivial).alloc _) | exact HK.out _ (hxA.mono fun _ _ _ => trivial) | exact HK.out _ ((Kp.refl _ W).drew) | fail)
      clear hK K
      try simp only [Act.put, List.setIfInBounds_toArray, List.set_cons_zero, List.set_cons_succ]
      refine wpAnyH_ready (rs := [0, 7]) (by kernel_rfl) (by simp) ?_
      refine AllReadyH.cons rfl (fun K hK => ?_) ?_
      · skip
        go_simp
        refine hK.out _ _ ?_ (fun hHeld => ?_)
        · (try dsimp only); (first | exact HK.out _ (hkF.setCell (.inr (by simp)) _) | exact HK.out _ hkF | exact HK.out _ ((hxA.mono fun _ _ _ => trivial).alloc _) | exact HK.out _ (hxA.mono fun _ _ _ => trivial) | exact HK.out _ ((Kp.refl _ W).drew) | fail)
        clear hK K
        try simp only [Act.put, List.setIfInBounds_toArray, List.set_cons_zero, List.set_cons_succ]
        refine wpAnyH_ready (rs := [7]) (by kernel_rfl) (by simp) ?_
        refine AllReadyH.cons rfl (fun K hK => ?_) ?_
        · skip
          go_simp
          refine hK.out _ _ ?_ (fun hHeld => ?_)
          · (try dsimp only); (first | exact HK.out _ (hkF.setCell (.inr (by simp)) _) | exact HK.out _ hkF | exact HK.out _ ((hxA.mono fun _ _ _ => trivial).alloc _) | exact HK.out _ (hxA.mono fun _ _ _ => trivial) | exact HK.out _ ((Kp.refl _ W).drew) | fail)
          clear hK K
          try simp only [Act.put, List.setIfInBounds_toArray, List.set_cons_zero, List.set_cons_succ]
          refine wpAnyH_ready (rs := [8]) (by kernel_rfl) (by simp) ?_
          refine AllReadyH.cons rfl (fun K hK => ?_) ?_
          · skip
            (refine step_append_k (n := N) (v := .slice Al nl cl) (E := EPt) (ys := [⟨pc, ⟨P1, m1, k1⟩, ⟨P2, m2, k2⟩, ⟨P3, m3, k3⟩⟩]) tiPt (by rfl) (by rfl) ((HL.out.2.1.ext hxA).ext ((Kp.refl _ wA).alloc _)) (by have := hxA.size; simp; omega) (Own.made (E := EPt) wA 219 [⟨pc, ⟨P1, m1, k1⟩, ⟨P2, m2, k2⟩, ⟨P3, m3, k3⟩⟩] (by simp [maxLen])).rd (by rfl) (by rfl) (by simp; omega) (by simp [maxLen]; omega) ?_; intro lv' wF hN2 hk2; have hkF : Kp (fun k => k < N ∧ k ≠ bl) W wF := ((hxA.mono fun _ _ _ => trivial).alloc _).trans' hk2 (fun k _ hk e => by have := HL.out.2.1.2 k e; omega); have hBF := ((HL.out.1.ext hxA).ext ((Kp.refl _ wA).alloc (.cells #[.bool pc, .slice P1 m1 k1, .slice P2 m2 k2, .slice P3 m3 k3] 219))).kp hk2 (fun e => by have := HL.out.2.1.2 _ e; omega); have eb := hBF.cell0; have fb := hBF.frozen 0; obtain ⟨Af, nf, cf, hlf⟩ := hN2.1.slice; subst hlf)
            refine hK.out _ _ ?_ (fun hHeld => ?_)
            · (try dsimp only); (first | exact HK.out _ (hkF.setCell (.inr (by simp)) _) | exact HK.out _ hkF | exact HK.out _ ((hxA.mono fun _ _ _ => trivial).alloc _) | exact HK.out _ (hxA.mono fun _ _ _ => trivial) | exact HK.out _ ((Kp.refl _ W).drew) | fail)
            clear hK K
            try simp only [Act.put, List.setIfInBounds_toArray, List.set_cons_zero, List.set_cons_succ]
            refine wpAnyH_ready (rs := [9]) (by kernel_rfl) (by simp) ?_
            refine AllReadyH.cons rfl (fun K hK => ?_) ?_
            · skip
              go_simp
              refine hK.out _ _ ?_ (fun hHeld => ?_)
              · (try dsimp only); (first | exact HK.out _ (hkF.setCell (.inr (by simp)) _) | exact HK.out _ hkF | exact HK.out _ ((hxA.mono fun _ _ _ => trivial).alloc _) | exact HK.out _ (hxA.mono fun _ _ _ => trivial) | exact HK.out _ ((Kp.refl _ W).drew) | fail)
              clear hK K
              try simp only [Act.put, List.setIfInBounds_toArray, List.set_cons_zero, List.set_cons_succ]
              refine wpAnyH_done (by kernel_rfl) ?_ _
              (refine bodyPost_end (results_none rfl _ _ _) rfl ?_; exact ⟨⟨_, rfl⟩, ⟨_, _, PSl.push ((HL.out.ext hxA).ext ((Kp.refl _ wA).alloc _)) (p := ⟨pc, ⟨P1, m1, k1⟩, ⟨P2, m2, k2⟩, ⟨P3, m3, k3⟩⟩) ((hp.less hNW).ext ((Kp.refl _ wA).alloc _)) hN2 hk2⟩, (((hxA.mono (T := fun k => k ≠ bl ∧ Value.ownBlock (.slice Al nl cl) ≠ some k) fun _ _ _ => trivial).alloc _).trans' hk2 fun _ _ h => h.2).setCell (.inr (by simp)) _⟩)
            exact AllReadyH.nil
          exact AllReadyH.nil
        exact AllReadyH.nil
      refine AllReadyH.cons rfl (fun K hK => ?_) ?_
      · skip
        go_simp
        refine hK.out _ _ ?_ (fun hHeld => ?_)
        · (try dsimp only); (first | exact HK.out _ (hkF.setCell (.inr (by simp)) _) | exact HK.out _ hkF | exact HK.out _ ((hxA.mono fun _ _ _ => trivial).alloc _) | exact HK.out _ (hxA.mono fun _ _ _ => trivial) | exact HK.out _ ((Kp.refl _ W).drew) | fail)
        clear hK K
        try simp only [Act.put, List.setIfInBounds_toArray, List.set_cons_zero, List.set_cons_succ]
        refine wpAnyH_ready (rs := [0]) (by kernel_rfl) (by simp) ?_
        refine AllReadyH.cons rfl (fun K hK => ?_) ?_
        · skip
          go_simp
          refine hK.out _ _ ?_ (fun hHeld => ?_)
          · (try dsimp only); (first | exact HK.out _ (hkF.setCell (.inr (by simp)) _) | exact HK.out _ hkF | exact HK.out _ ((hxA.mono fun _ _ _ => trivial).alloc _) | exact HK.out _ (hxA.mono fun _ _ _ => trivial) | exact HK.out _ ((Kp.refl _ W).drew) | fail)
          clear hK K
          try simp only [Act.put, List.setIfInBounds_toArray, List.set_cons_zero, List.set_cons_succ]
          refine wpAnyH_ready (rs := [8]) (by kernel_rfl) (by simp) ?_
          refine AllReadyH.cons rfl (fun K hK => ?_) ?_
          · skip
            (refine step_append_k (n := N) (v := .slice Al nl cl) (E := EPt) (ys := [⟨pc, ⟨P1, m1, k1⟩, ⟨P2, m2, k2⟩, ⟨P3, m3, k3⟩⟩]) tiPt (by rfl) (by rfl) ((HL.out.2.1.ext hxA).ext ((Kp.refl _ wA).alloc _)) (by have := hxA.size; simp; omega) (Own.made (E := EPt) wA 219 [⟨pc, ⟨P1, m1, k1⟩, ⟨P2, m2, k2⟩, ⟨P3, m3, k3⟩⟩] (by simp [maxLen])).rd (by rfl) (by rfl) (by simp; omega) (by simp [maxLen]; omega) ?_; intro lv' wF hN2 hk2; have hkF : Kp (fun k => k < N ∧ k ≠ bl) W wF := ((hxA.mono fun _ _ _ => trivial).alloc _).trans' hk2 (fun k _ hk e => by have := HL.out.2.1.2 k e; omega); have hBF := ((HL.out.1.ext hxA).ext ((Kp.refl _ wA).alloc (.cells #[.bool pc, .slice P1 m1 k1, .slice P2 m2 k2, .slice P3 m3 k3] 219))).kp hk2 (fun e => by have := HL.out.2.1.2 _ e; omega); have eb := hBF.cell0; have fb := hBF.frozen 0; obtain ⟨Af, nf, cf, hlf⟩ := hN2.1.slice; subst hlf)
            refine hK.out _ _ ?_ (fun hHeld => ?_)
            · (try dsimp only); (first | exact HK.out _ (hkF.setCell (.inr (by simp)) _) | exact HK.out _ hkF | exact HK.out _ ((hxA.mono fun _ _ _ => trivial).alloc _) | exact HK.out _ (hxA.mono fun _ _ _ => trivial) | exact HK.out _ ((Kp.refl _ W).drew) | fail)
            clear hK K
            try simp only [Act.put, List.setIfInBounds_toArray, List.set_cons_zero, List.set_cons_succ]
            refine wpAnyH_ready (rs := [9]) (by kernel_rfl) (by simp) ?_
            refine AllReadyH.cons rfl (fun K hK => ?_) ?_
            · skip
              go_simp
              refine hK.out _ _ ?_ (fun hHeld => ?_)
              · (try dsimp only); (first | exact HK.out _ (hkF.setCell (.inr (by simp)) _) | exact HK.out _ hkF | exact HK.out _ ((hxA.mono fun _ _ _ => trivial).alloc _) | exact HK.out _ (hxA.mono fun _ _ _ => trivial) | exact HK.out _ ((Kp.refl _ W).drew) | fail)
              clear hK K
              try simp only [Act.put, List.setIfInBounds_toArray, List.set_cons_zero, List.set_cons_succ]
              refine wpAnyH_done (by kernel_rfl) ?_ _
              (refine bodyPost_end (results_none rfl _ _ _) rfl ?_; exact ⟨⟨_, rfl⟩, ⟨_, _, PSl.push ((HL.out.ext hxA).ext ((Kp.refl _ wA).alloc _)) (p := ⟨pc, ⟨P1, m1, k1⟩, ⟨P2, m2, k2⟩, ⟨P3, m3, k3⟩⟩) ((hp.less hNW).ext ((Kp.refl _ wA).alloc _)) hN2 hk2⟩, (((hxA.mono (T := fun k => k ≠ bl ∧ Value.ownBlock (.slice Al nl cl) ≠ some k) fun _ _ _ => trivial).alloc _).trans' hk2 fun _ _ h => h.2).setCell (.inr (by simp)) _⟩)
            exact AllReadyH.nil
          exact AllReadyH.nil
        exact AllReadyH.nil
      exact AllReadyH.nil
    exact AllReadyH.nil
  · rw [if_neg hlt]
    have hd : decide ((f1 : Int) < (t1 : Int)) = false := decide_eq_false (by omega)
    have hdn : decide (f1 < t1) = false := decide_eq_false hlt
    have HL := Lib.hid hl
    clear hfr hat hl ho ha hb R1 R2 R3 hfit
    go_enter Tryz.func233, Tryz.ntmps233
    go_wp2_with fail
    refine bodyPost_end (results_none rfl _ _ _) rfl ?_
    exact ⟨⟨_, rfl⟩, ⟨_, _, HL.out⟩, Kp.refl _ _⟩

end Go.Proofs.YtgjbfkaepalkiaaGreatDoor
