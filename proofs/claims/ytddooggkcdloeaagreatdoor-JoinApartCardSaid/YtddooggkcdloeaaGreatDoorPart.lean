/-
  slices.Clone, slices.Equal at texts; three.part.
-/
import Derived.Test.YtddooggkcdloeaaGreatDoorStanding
import Derived.Test.YtddooggkcdloeaaGreatDoorShelf
import Derived.Deep.RegionHeld3
import Derived.Handy
import Derived.Laws.ResultCell
import Derived.Laws.Rows
namespace Go.Proofs.YtddooggkcdloeaaGreatDoor
open Go.RowKit
set_option linter.unusedVariables false
set_option linter.unusedSimpArgs false
attribute [local go_sem] Oper.semAt_some
attribute [local go_sem ↓] Go.wp_at_zero Go.wp_at_succ

theorem New.of_row {α : Type} {E : El α} {t : TypeId} {w : World} {n : Nat} {v : Value} {xs : List α} (h : w.ownsRow n t E.sz v xs.length (E.flat xs)) : New E t n w v xs := by
  obtain ⟨hl, h2⟩ := h
  refine ⟨⟨hl, ?_⟩, fun g hg => ?_⟩
  · rcases h2 with h2 | ⟨g, cap, cur, hv, hb, rest⟩
    · exact .inl h2
    · exact .inr ⟨g, cap, cur, hv, Nat.zero_le _, rest⟩
  · rcases h2 with ⟨rfl, _⟩ | ⟨g', cap, cur, rfl, hb, _⟩
    · cases hg
    · cases hg; exact hb
theorem ext_of_below {w w' : World} (h : Below w.heap.size w w') : Ext w w' := ⟨h.os, h.tape, h.output, h.size, fun k hk _ => h.block k hk⟩
theorem flatS (xs : List ByteArray) : ES.flat xs = xs.map Value.string := by
  unfold El.flat ES
  induction xs with
  | nil => rfl
  | cons x xs ih => rw [List.flatMap_cons, ih]; rfl

/-- slices.Clone at texts. -/
theorem cloneS_calls (v : Value) (xs : List ByteArray) (S : Fp) (w : World) (hR : Rd ES S w v xs) (hb : xs.length ≤ 1000000) :
    Calls Tryz.prog 160 #[v] w fun e w' => ∃ u, e = .returned u ∧ New ES 9 w.heap.size w' u xs ∧ Ext w w' := by
  obtain ⟨A, c, rfl, hO⟩ := hR.open_
  cases A with
  | none =>
    obtain ⟨rfl, rfl⟩ := hO.none_
    refine (Tryz.slices_Clone_string_nil 0 0 w).mono ?_
    rintro e w' ⟨rfl, rfl⟩
    exact ⟨_, rfl, New.nil _ _ _, Kp.refl _ _⟩
  | some a =>
    by_cases h0 : 0 < xs.length
    · obtain ⟨b, off, hA, _, hbl, hc⟩ := hO.rd h0
      cases hA
      refine (Tryz.slices_Clone_string b off xs.length c xs w (Nat.le_refl _) (by omega) (fun j hj => by
        obtain ⟨b', off', he, _, _, h⟩ := hO.rd.text hj
        cases he
        rw [h, List.getD_eq_getElem?_getD, List.getElem?_eq_getElem hj]; rfl)).mono ?_
      rintro e w' ⟨u, rfl, hown, _, hbw⟩
      rw [List.take_length, ← flatS] at hown
      exact ⟨u, rfl, New.of_row hown, ext_of_below hbw⟩
    · have hx : xs = [] := List.eq_nil_of_length_eq_zero (by omega)
      subst hx
      refine (Tryz.slices_Clone_string_zero a c w).mono ?_
      rintro e w' ⟨u, rfl, hown, _, hbw⟩
      exact ⟨u, rfl, New.of_row (E := ES) (xs := []) hown, ext_of_below hbw⟩

def sameT (xs ys : List ByteArray) : Bool := decide (xs = ys)
/-- slices.Equal at texts. -/
theorem equalS_calls (v u : Value) (xs ys : List ByteArray) (S T : Fp) (w : World) (hR : Rd ES S w v xs) (hR' : Rd ES T w u ys) :
    Calls Tryz.prog 149 #[v, u] w fun e w' => e = .returned (.bool (sameT xs ys)) ∧ Ext w w' := by
  obtain ⟨A, c, rfl, hO⟩ := hR.open_
  obtain ⟨A', c', rfl, hO'⟩ := hR'.open_
  have l1 := hO.len
  have l2 := hO'.len
  by_cases h0 : 0 < xs.length
  · by_cases h1 : 0 < ys.length
    · obtain ⟨b, off, hA, _, hbl, _⟩ := hO.rd h0
      obtain ⟨b', off', hA', _, hbl', _⟩ := hO'.rd h1
      cases hA; cases hA'
      refine (Tryz.slices_Equal_string b off xs.length c b' off' ys.length c' xs ys w (Nat.le_refl _) (Nat.le_refl _) l1 l2 (fun j hj => ?_) (fun j hj => ?_)).mono ?_
      · obtain ⟨b2, o2, he, _, _, h⟩ := hO.rd.text hj
        cases he
        rw [h, List.getD_eq_getElem?_getD, List.getElem?_eq_getElem hj]; rfl
      · obtain ⟨b2, o2, he, _, _, h⟩ := hO'.rd.text hj
        cases he
        rw [h, List.getD_eq_getElem?_getD, List.getElem?_eq_getElem hj]; rfl
      · rintro e w' ⟨rfl, q, rfl⟩
        rw [List.take_length, List.take_length]
        exact ⟨rfl, (Kp.refl _ w).drewN q⟩
    · have hy : ys = [] := List.eq_nil_of_length_eq_zero (by omega)
      subst hy
      refine (Tryz.slices_Equal_string_lens A A' xs.length c 0 c' w (by omega)).mono ?_
      rintro e w' ⟨rfl, rfl⟩
      refine ⟨?_, Kp.refl _ _⟩
      unfold sameT
      rw [decide_eq_false (fun e => by rw [e] at h0; exact absurd h0 (Nat.lt_irrefl _))]
  · have hx : xs = [] := List.eq_nil_of_length_eq_zero (by omega)
    subst hx
    refine (Tryz.slices_Equal_string_empty A A' c ys.length c' w l2).mono ?_
    rintro e w' ⟨rfl, rfl⟩
    refine ⟨?_, Kp.refl _ _⟩
    unfold sameT
    cases ys <;> simp

/-- A piece of a list. -/
def sub {α : Type} (xs : List α) (i j : Nat) : List α := (xs.drop i).take (j - i)
theorem sub_length {α : Type} (xs : List α) {i j : Nat} (h1 : i ≤ j) (h2 : j ≤ xs.length) : (sub xs i j).length = j - i := by unfold sub; rw [List.length_take, List.length_drop]; omega
theorem Opn.midRd {S : Fp} {w : World} {A : Option Addr} {c : Nat} {xs : List ByteArray} (h : Opn ES S w A c xs) {i j : Nat} (h1 : i ≤ j) (h2 : j ≤ xs.length) : Rd ES S w (sliced A i j c 1) (sub xs i j) := by
  have hl := sub_length xs h1 h2
  have hle := h.le
  have hmx := h.max
  refine ⟨_, c - i, by rw [hl]; rfl, by rw [hl]; omega, by unfold maxLen; omega, fun hn => ?_, fun hp => ?_⟩
  · split at hn
    · omega
    · have : A = none := by cases A <;> simp at hn ⊢
      have := h.nil this
      omega
  · rw [hl] at hp
    obtain ⟨b, off, hA, hS, hb, hc⟩ := h.rd (by omega)
    subst hA
    have hci : ¬ c = i := by omega
    refine ⟨b, off + i, ?_, hS, hb, fun k u hk => ?_⟩
    · rw [if_neg hci]
      unfold Addr.add
      by_cases h0 : i = 0
      · subst h0; simp
      · simp [h0]
    · rw [Nat.add_assoc]
      refine hc _ u ?_
      have e1 : ES.flat (sub xs i j) = ((ES.flat xs).drop i).take (j - i) := by
        rw [flatS, flatS]; unfold sub; rw [List.map_take, List.map_drop]
      rw [e1, List.getElem?_take] at hk
      split at hk
      · rw [List.getElem?_drop] at hk; exact hk
      · cases hk

/-- A piece of all three lists. -/
structure Pt where
  conflict : Bool
  base : List ByteArray
  a : List ByteArray
  b : List ByteArray
def partF (o a b : List ByteArray) (f t : Pl) : Pt := ⟨false, sub o f.base t.base, sub a f.a t.a, sub b f.b t.b⟩
/-- A piece's value: its slices read as its lists; they were made since the heap had n blocks. -/
def PtV (n : Nat) (w : World) (v : Value) (p : Pt) : Prop := ∃ s1 s2 s3, v = .agg #[.bool p.conflict, s1, s2, s3] ∧ New ES 9 n w s1 p.base ∧ New ES 9 n w s2 p.a ∧ New ES 9 n w s3 p.b
theorem PtV.ext {n : Nat} {w w' : World} {v : Value} {p : Pt} (h : PtV n w v p) (hx : Ext w w') : PtV n w' v p := by
  obtain ⟨s1, s2, s3, hv, h1, h2, h3⟩ := h
  exact ⟨s1, s2, s3, hv, h1.ext hx, h2.ext hx, h3.ext hx⟩
theorem PtV.less {n m : Nat} {w : World} {v : Value} {p : Pt} (h : PtV n w v p) (hx : m ≤ n) : PtV m w v p := by
  obtain ⟨s1, s2, s3, hv, h1, h2, h3⟩ := h
  exact ⟨s1, s2, s3, hv, h1.less hx, h2.less hx, h3.less hx⟩
def Fits (f t : Pl) (o a b : List ByteArray) : Prop := (f.base ≤ t.base ∧ t.base ≤ o.length) ∧ (f.a ≤ t.a ∧ t.a ≤ a.length) ∧ (f.b ≤ t.b ∧ t.b ≤ b.length)

set_option maxHeartbeats 2000000 in
set_option maxRecDepth 100000 in
/-- three.part. -/
theorem part_calls (v1 v2 v3 : Value) (xs ys zs : List ByteArray) (f t : Pl) (S : Fp) (w : World) (hA : Rd ES S w v1 xs) (hB : Rd ES S w v2 ys) (hC : Rd ES S w v3 zs) (hf : Fits f t xs ys zs) (h1 : xs.length ≤ 400) (h2 : ys.length ≤ 400) (h3 : zs.length ≤ 400) :
    Calls Tryz.prog 147 #[v1, v2, v3, .agg #[.int .i64 f.base, .int .i64 f.a, .int .i64 f.b], .agg #[.int .i64 t.base, .int .i64 t.a, .int .i64 t.b]] w fun e w' => ∃ r, e = .returned r ∧ PtV w.heap.size w' r (partF xs ys zs f t) ∧ Ext w w' := by
  obtain ⟨A1, c1, rfl, hO1⟩ := hA.open_
  obtain ⟨A2, c2, rfl, hO2⟩ := hB.open_
  obtain ⟨A3, c3, rfl, hO3⟩ := hC.open_
  obtain ⟨⟨i1, i2⟩, ⟨i3, i4⟩, ⟨i5, i6⟩⟩ := hf
  have R1 := Lib.hid fun W (hW : Ext w W) => (hO1.kp (hW.mono fun _ _ _ => trivial)).midRd i1 i2
  have R2 := Lib.hid fun W (hW : Ext w W) => (hO2.kp (hW.mono fun _ _ _ => trivial)).midRd i3 i4
  have R3 := Lib.hid fun W (hW : Ext w W) => (hO3.kp (hW.mono fun _ _ _ => trivial)).midRd i5 i6
  have L1 : Hid ((sub xs f.base t.base).length ≤ 400) := Lib.hid (by rw [sub_length xs i1 i2]; omega)
  have L2 : Hid ((sub ys f.a t.a).length ≤ 400) := Lib.hid (by rw [sub_length ys i3 i4]; omega)
  have L3 : Hid ((sub zs f.b t.b).length ≤ 400) := Lib.hid (by rw [sub_length zs i5 i6]; omega)
  have k1 := hO1.le
  have k2 := hO2.le
  have k3 := hO3.le
  have hsz : Tryz.prog.elem 26 = 9 := by kernel_rfl
  have S1 : ∀ W, (Instr.slice 26 (.slice A1 xs.length c1) (some (.int .i64 f.base)) (some (.int .i64 t.base)) none).run Tryz.prog W = .ok (sliced A1 f.base t.base c1 1) W := fun W => by
    rw [run_slice_lh _ _ _ _ _ (by kernel_rfl) .i64 .i64 _ _ (by omega) (by omega) (by omega), hsz, Tryz.sizeOf9]; rfl
  have S2 : ∀ W, (Instr.slice 26 (.slice A2 ys.length c2) (some (.int .i64 f.a)) (some (.int .i64 t.a)) none).run Tryz.prog W = .ok (sliced A2 f.a t.a c2 1) W := fun W => by
    rw [run_slice_lh _ _ _ _ _ (by kernel_rfl) .i64 .i64 _ _ (by omega) (by omega) (by omega), hsz, Tryz.sizeOf9]; rfl
  have S3 : ∀ W, (Instr.slice 26 (.slice A3 zs.length c3) (some (.int .i64 f.b)) (some (.int .i64 t.b)) none).run Tryz.prog W = .ok (sliced A3 f.b t.b c3 1) W := fun W => by
    rw [run_slice_lh _ _ _ _ _ (by kernel_rfl) .i64 .i64 _ _ (by omega) (by omega) (by omega), hsz, Tryz.sizeOf9]; rfl
  obtain ⟨q1, hq1⟩ : ∃ q, sliced A1 f.base t.base c1 1 = q := ⟨_, rfl⟩
  obtain ⟨q2, hq2⟩ : ∃ q, sliced A2 f.a t.a c2 1 = q := ⟨_, rfl⟩
  obtain ⟨q3, hq3⟩ : ∃ q, sliced A3 f.b t.b c3 1 = q := ⟨_, rfl⟩
  rw [hq1] at R1 S1
  rw [hq2] at R2 S2
  rw [hq3] at R3 S3
  unfold partF
  generalize sub xs f.base t.base = xs' at *
  generalize sub ys f.a t.a = ys' at *
  generalize sub zs f.b t.b = zs' at *
  generalize xs.length = n1 at *
  generalize ys.length = n2 at *
  generalize zs.length = n3 at *
  obtain ⟨f1, f2, f3⟩ := f
  obtain ⟨t1, t2, t3⟩ := t
  dsimp only at *
  clear hA hB hC hO1 hO2 hO3 hq1 hq2 hq3 k1 k2 k3 i1 i2 i3 i4 i5 i6 h1 h2 h3 hsz
  go_enter Tryz.func147, Tryz.ntmps147
  go_wp2_with fail
  have hBf : Blk (((w.alloc (.cells #[.int .i64 f1, .int .i64 f2, .int .i64 f3] 146)).alloc (.cells #[.int .i64 t1, .int .i64 t2, .int .i64 t3] 146)).alloc (.cells #[.bool false, .slice none 0 0, .slice none 0 0, .slice none 0 0] 127)) w.heap.size 146 #[.int .i64 f1, .int .i64 f2, .int .i64 f3] := ((Blk.new w _ _).ext ((Kp.refl _ _).alloc (.cells #[.int .i64 t1, .int .i64 t2, .int .i64 t3] 146))).ext ((Kp.refl _ _).alloc (.cells #[.bool false, .slice none 0 0, .slice none 0 0, .slice none 0 0] 127))
  have hBt : Blk (((w.alloc (.cells #[.int .i64 f1, .int .i64 f2, .int .i64 f3] 146)).alloc (.cells #[.int .i64 t1, .int .i64 t2, .int .i64 t3] 146)).alloc (.cells #[.bool false, .slice none 0 0, .slice none 0 0, .slice none 0 0] 127)) (w.heap.size + 1) 146 #[.int .i64 t1, .int .i64 t2, .int .i64 t3] := by
    have h := (Blk.new (w.alloc (.cells #[.int .i64 f1, .int .i64 f2, .int .i64 f3] 146)) 146 #[.int .i64 t1, .int .i64 t2, .int .i64 t3]).ext ((Kp.refl _ _).alloc (.cells #[.bool false, .slice none 0 0, .slice none 0 0, .slice none 0 0] 127))
    rw [World.size_alloc] at h
    exact h
  have hBr : Blk (((w.alloc (.cells #[.int .i64 f1, .int .i64 f2, .int .i64 f3] 146)).alloc (.cells #[.int .i64 t1, .int .i64 t2, .int .i64 t3] 146)).alloc (.cells #[.bool false, .slice none 0 0, .slice none 0 0, .slice none 0 0] 127)) (w.heap.size + 1 + 1) 127 #[.bool false, .slice none 0 0, .slice none 0 0, .slice none 0 0] := by
    have h := Blk.new ((w.alloc (.cells #[.int .i64 f1, .int .i64 f2, .int .i64 f3] 146)).alloc (.cells #[.int .i64 t1, .int .i64 t2, .int .i64 t3] 146)) 127 #[.bool false, .slice none 0 0, .slice none 0 0, .slice none 0 0]
    rw [World.size_alloc, World.size_alloc] at h
    exact h
  have hx0 : Ext w (((w.alloc (.cells #[.int .i64 f1, .int .i64 f2, .int .i64 f3] 146)).alloc (.cells #[.int .i64 t1, .int .i64 t2, .int .i64 t3] 146)).alloc (.cells #[.bool false, .slice none 0 0, .slice none 0 0, .slice none 0 0] 127)) := (((Kp.refl _ _).alloc _).alloc _).alloc _
  generalize (((w.alloc (.cells #[.int .i64 f1, .int .i64 f2, .int .i64 f3] 146)).alloc (.cells #[.int .i64 t1, .int .i64 t2, .int .i64 t3] 146)).alloc (.cells #[.bool false, .slice none 0 0, .slice none 0 0, .slice none 0 0] 127)) = w0 at hBf hBt hBr hx0 ⊢
  have HK : Hid (∀ W, Kp (fun k => k ≠ w.heap.size + 1 + 1) w0 W → (W.cell? ⟨w.heap.size, 0, none⟩ = some (.int .i64 f1) ∧ W.cell? ⟨w.heap.size, 1, none⟩ = some (.int .i64 f2) ∧ W.cell? ⟨w.heap.size, 2, none⟩ = some (.int .i64 f3) ∧ W.cell? ⟨w.heap.size + 1, 0, none⟩ = some (.int .i64 t1) ∧ W.cell? ⟨w.heap.size + 1, 1, none⟩ = some (.int .i64 t2) ∧ W.cell? ⟨w.heap.size + 1, 2, none⟩ = some (.int .i64 t3))) := Lib.hid fun W hW => by
    have a := hBf.kp hW (by omega)
    have b := hBt.kp hW (by omega)
    exact ⟨a.cell 0, a.cell 1, a.cell 2, b.cell 0, b.cell 1, b.cell 2⟩
  have HR := Lib.hid fun W (hW : Ext w0 W) => hBr.ext hW
  have hsz0 : w.heap.size + 1 + 1 < w0.heap.size := hBr.lt
  have HZ := Lib.hid hsz0
  have C1 := Lib.hid fun W (hW : Ext w0 W) => (cloneS_calls q1 xs' S W (R1.out W (hx0.trans hW)) (by have := L1.out; omega)).mono fun e W' h => show (∃ u, e = .returned u ∧ New ES 9 w0.heap.size W' u xs') ∧ Ext w0 W' ∧ Ext W W' from by obtain ⟨u, he, hN, hx⟩ := h; exact ⟨⟨u, he, hN.less hW.size⟩, hW.trans hx, hx⟩
  have C2 := Lib.hid fun W (hW : Ext w0 W) => (cloneS_calls q2 ys' S W (R2.out W (hx0.trans hW)) (by have := L2.out; omega)).mono fun e W' h => show (∃ u, e = .returned u ∧ New ES 9 w0.heap.size W' u ys') ∧ Ext w0 W' ∧ Ext W W' from by obtain ⟨u, he, hN, hx⟩ := h; exact ⟨⟨u, he, hN.less hW.size⟩, hW.trans hx, hx⟩
  have C3 := Lib.hid fun W (hW : Ext w0 W) => (cloneS_calls q3 zs' S W (R3.out W (hx0.trans hW)) (by have := L3.out; omega)).mono fun e W' h => show (∃ u, e = .returned u ∧ New ES 9 w0.heap.size W' u zs') ∧ Ext w0 W' ∧ Ext W W' from by obtain ⟨u, he, hN, hx⟩ := h; exact ⟨⟨u, he, hN.less hW.size⟩, hW.trans hx, hx⟩
  clear hBf hBt hBr R1 R2 R3 L1 L2 L3 hsz0
  go_region_held3 (fun w' => w'.cell? ⟨w.heap.size, 0, none⟩ = some (.int .i64 f1) ∧ w'.cell? ⟨w.heap.size, 1, none⟩ = some (.int .i64 f2) ∧ w'.cell? ⟨w.heap.size, 2, none⟩ = some (.int .i64 f3) ∧ w'.cell? ⟨w.heap.size + 1, 0, none⟩ = some (.int .i64 t1) ∧ w'.cell? ⟨w.heap.size + 1, 1, none⟩ = some (.int .i64 t2) ∧ w'.cell? ⟨w.heap.size + 1, 2, none⟩ = some (.int .i64 t3))
    (first | exact HK.out _ (hxC.mono fun _ _ _ => trivial) | exact HK.out _ (((((hxC.mono fun _ _ _ => trivial).setCell (.inr (by simp)) _).setCell (.inr (by simp)) _).setCell (.inr (by simp)) _).setCell (.inr (by simp)) _) | exact HK.out _ (hxB.mono fun _ _ _ => trivial) | exact HK.out _ (hxA.mono fun _ _ _ => trivial) | exact HK.out _ ((Kp.refl _ w0).drew) | fail)
    (first
      | (go_at_call 160; ((with_reducible refine Calls.mono (C1.out _ ?_) ?_)); (exact (Kp.refl _ w0).drew); rintro e wA ⟨⟨u1, rfl, hU1⟩, hxA, hyA⟩; obtain ⟨Au1, nu1, cu1, hu1⟩ := hU1.1.slice; subst hu1)
      | (go_at_call 160; ((with_reducible refine Calls.mono (C2.out _ ?_) ?_)); (exact hxA); rintro e wB ⟨⟨u2, rfl, hU2⟩, hxB, hyB⟩; obtain ⟨Au2, nu2, cu2, hu2⟩ := hU2.1.slice; subst hu2)
      | (go_at_call 160; ((with_reducible refine Calls.mono (C3.out _ ?_) ?_)); (exact hxB); rintro e wC ⟨⟨u3, rfl, hU3⟩, hxC, hyC⟩; obtain ⟨Au3, nu3, cu3, hu3⟩ := hU3.1.slice; subst hu3; have hF := HR.out wC hxC; have d0 := hF.cell 0; have d1 := hF.cell 1; have d2 := hF.cell 2; have d3 := hF.cell 3; have g0 := hF.frozen 0; have g1 := hF.frozen 1; have g2 := hF.frozen 2; have g3 := hF.frozen 3)
      | fail)
  have hB2 := (((hF.set_ 0 (.bool false)).set_ 1 (.slice Au1 nu1 cu1)).set_ 2 (.slice Au2 nu2 cu2)).set_ 3 (.slice Au3 nu3 cu3)
  have hkk : Kp (fun k => k ≠ w.heap.size + 1 + 1) wC ((((wC.setCell ⟨w.heap.size + 1 + 1, 0, none⟩ (.bool false)).setCell ⟨w.heap.size + 1 + 1, 1, none⟩ (.slice Au1 nu1 cu1)).setCell ⟨w.heap.size + 1 + 1, 2, none⟩ (.slice Au2 nu2 cu2)).setCell ⟨w.heap.size + 1 + 1, 3, none⟩ (.slice Au3 nu3 cu3)) := ((((Kp.refl _ _).setCell (.inr (by simp)) _).setCell (.inr (by simp)) _).setCell (.inr (by simp)) _).setCell (.inr (by simp)) _
  have N1 := Lib.hid ((((hU1.ext hyB).ext hyC).kp hkk fun g hg e => by have := hU1.2 g hg; have := HZ.out; omega).less hx0.size)
  have N2 := Lib.hid (((hU2.ext hyC).kp hkk fun g hg e => by have := hU2.2 g hg; have := HZ.out; omega).less hx0.size)
  have N3 := Lib.hid ((hU3.kp hkk fun g hg e => by have := hU3.2 g hg; have := HZ.out; omega).less hx0.size)
  have hxf := Lib.hid ((hx0.trans hxC).trans' hkk fun k hk _ e => by omega)
  clear hU1 hU2 hU3 hyA hyB hyC hkk hxA hxB hF d0 d1 d2 d3 g0 g1 g2 g3
  go_wp2_with fail
  refine bodyPost_ret (results_cell_row rfl _ _ (w.heap.size + 1 + 1) 127 #[.bool false, .slice Au1 nu1 cu1, .slice Au2 nu2 cu2, .slice Au3 nu3 cu3] (0, 0) _ (by rfl) hB2 Tryz.underlying127 (by rfl) (by kernel_rfl)) rfl ?_
  exact ⟨_, rfl, ⟨_, _, _, rfl, N1.out, N2.out, N3.out⟩, hxf.out⟩

end Go.Proofs.YtddooggkcdloeaaGreatDoor
