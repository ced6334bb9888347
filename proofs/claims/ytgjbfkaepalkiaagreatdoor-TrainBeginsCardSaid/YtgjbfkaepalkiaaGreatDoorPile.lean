/-
  pile at numbers: New, put, Put, First, Pop, Len: a row that never rises.
-/
import Derived.Test.YtgjbfkaepalkiaaGreatDoorSeqI
import Derived.Deep.QuietTactic
import Derived.Handy
namespace Go.Proofs.YtgjbfkaepalkiaaGreatDoor
open Go.RowKit
set_option linter.unusedVariables false
set_option linter.unusedSimpArgs false
attribute [local go_sem] Oper.semAt_some

abbrev lessV : Value := .func (.func 105) #[] #[]
/-- A pile at block pb whose row is l; it and its row lie in D. -/
def PileAt (D : Fp) (w : World) (pb : Nat) (l : List Int) : Prop :=
  (∃ lv, Blk w pb 166 #[lessV, lv] ∧ Own EI 3 w lv l ∧ D pb ∧ ∀ g, lv.ownBlock = some g → D g ∧ g ≠ pb) ∧ ∀ k, D k → k < w.heap.size
section
variable {D S : Fp} {w w' : World} {pb : Nat} {l : List Int}
theorem PileAt.kp (h : PileAt D w pb l) (hk : Kp S w w') (hs : ∀ k, D k → S k) : PileAt D w' pb l := by
  obtain ⟨⟨lv, a, b, c, d⟩, e⟩ := h
  exact ⟨⟨lv, a.kp hk (hs _ c), b.kp hk fun g hg => hs _ (d g hg).1, c, d⟩, fun k hk' => hk.lt (e k hk')⟩
theorem PileAt.ext (h : PileAt D w pb l) (hk : Ext w w') : PileAt D w' pb l := h.kp hk fun _ _ => trivial
theorem PileAt.lt (h : PileAt D w pb l) : pb < w.heap.size := by obtain ⟨⟨lv, a, _⟩, _⟩ := h; exact a.lt
/-- Its length, as the world tells. -/
def pileLen (w : World) (pb : Nat) : Nat := match w.cell? ⟨pb, 1, none⟩ with
  | some (.slice _ n _) => n
  | _ => 0
theorem PileAt.len (h : PileAt D w pb l) : pileLen w pb = l.length := by
  obtain ⟨⟨lv, a, b, _⟩, _⟩ := h
  obtain ⟨A, c, rfl, _⟩ := b.rd.open_
  unfold pileLen
  rw [show w.cell? ⟨pb, 1, none⟩ = some (.slice A l.length c) from a.cell 1]

theorem less_calls (x y : Int) (w : World) : Calls Tryz.prog 105 #[.int .i64 x, .int .i64 y] w fun e w' => e = .returned (.bool (decide (y < x))) ∧ w = w' := by
  go_enter Tryz.func105, Tryz.ntmps105
  go_wp2_with fail
  go_ret
  exact ⟨rfl, rfl⟩

theorem newPile_calls (w : World) : Calls Tryz.prog 104 #[lessV] w fun e w' => e = .returned (.pointer (some ⟨w.heap.size, 0, none⟩)) ∧ PileAt (fun k => k = w.heap.size) w' w.heap.size [] ∧ Ext w w' ∧ w'.heap.size = w.heap.size + 1 := by
  have hnil := run_eql_func_nil (P := Tryz.prog) 132 ⟨_, _, _, Tryz.underlying132⟩
  go_enter Tryz.func104, Tryz.ntmps104
  go_wp2_with fail
  go_ret
  exact ⟨rfl, ⟨⟨_, Blk.new _ _ _, Own.nil _ _, rfl, fun g hg => by simp [Value.ownBlock] at hg⟩, fun k hk => by subst hk; simp⟩, (Kp.refl _ w).alloc _, by simp⟩

theorem lenPile_calls (h : PileAt D w pb l) : Calls Tryz.prog 107 #[.pointer (some ⟨pb, 0, none⟩)] w fun e w' => e = .returned (.int .i64 l.length) ∧ w = w' := by
  obtain ⟨⟨lv, a, b, _⟩, _⟩ := h
  obtain ⟨A, c, rfl, _⟩ := b.rd.open_
  have c1 : w.cell? ⟨pb, 1, none⟩ = some (.slice A l.length c) := a.cell 1
  clear a b
  go_enter Tryz.func107, Tryz.ntmps107
  go_wp2_with fail
  go_ret
  exact ⟨rfl, rfl⟩

/-- First, of one at least. -/
theorem firstPile_calls (h : PileAt D w pb l) (x : Int) (r : List Int) (hl : l = x :: r) : Calls Tryz.prog 145 #[.pointer (some ⟨pb, 0, none⟩)] w fun e w' => e = .returned (.tuple #[.int .i64 x, .bool true]) ∧ w = w' := by
  obtain ⟨⟨lv, a, b, _⟩, _⟩ := h
  obtain ⟨A, c, rfl, hO⟩ := b.rd.open_
  have c1 : w.cell? ⟨pb, 1, none⟩ = some (.slice A l.length c) := a.cell 1
  obtain ⟨bb, off, rfl, _, _, hc⟩ := hO.rd.num (i := 0) (by rw [hl]; simp)
  subst hl
  have hc' : w.cell? ⟨bb, off, none⟩ = some (.int .i64 x) := hc
  obtain ⟨n, hn⟩ : ∃ n, (x :: r).length = n := ⟨_, rfl⟩
  have hn0 : 0 < n := by rw [← hn]; simp
  rw [hn] at c1
  have h0 : (0 : Int) < (n : Int) := by omega
  have hd : ((n : Int) == 0) = false := by rw [beq_eq_false_iff_ne]; omega
  clear hO a b hc hn
  go_enter Tryz.func145, Tryz.ntmps145
  go_wp2_with fail
  go_returns
  exact ⟨rfl, rfl⟩

/-- Behind a store of a row of the same block, or of a new one, into the pile. -/
theorem PileAt.put_ {w1 w2 : World} {lv v' : Value} {l' : List Int} (hB : Blk w pb 166 #[lessV, lv]) (hD : D pb) (hg : ∀ g, lv.ownBlock = some g → D g ∧ g ≠ pb) (hd : ∀ k, D k → k < w.heap.size)
    (hx : Ext w w1) (hown : Own EI 3 w2 v' l') (hk : Kp (fun k => lv.ownBlock ≠ some k) w1 w2) (hb : v'.ownBlock = lv.ownBlock ∨ v'.ownBlock = some w1.heap.size) :
    ∃ D', PileAt D' (w2.setCell ⟨pb, 1, none⟩ v') pb l' ∧ Sub D D' w (w2.setCell ⟨pb, 1, none⟩ v') ∧ Kp (fun k => ¬ D k) w (w2.setCell ⟨pb, 1, none⟩ v') := by
  have hs1 := hx.size
  have hs2 := hk.size
  have hrb := hB.lt
  have hown' : ∀ g, v'.ownBlock = some g → (D g ∨ g = w1.heap.size) ∧ g ≠ pb ∧ g < w2.heap.size := by
    intro g e
    have hl := hown.lt e
    rcases hb with hb | hb
    · rw [hb] at e; exact ⟨.inl (hg g e).1, (hg g e).2, hl⟩
    · rw [hb] at e; simp at e; exact ⟨.inr (by omega), by omega, hl⟩
  have hkS : Kp (fun k => k ≠ pb) w2 (w2.setCell ⟨pb, 1, none⟩ v') := (Kp.refl _ w2).setCell (.inr (by simp)) _
  have hB2 : Blk w2 pb 166 #[lessV, lv] := (hB.ext hx).kp hk fun e => (hg pb e).2 rfl
  refine ⟨fun k => D k ∨ k = w1.heap.size ∧ v'.ownBlock = some k, ⟨⟨v', hB2.set_ 1 v', hown.kp hkS fun g e => (hown' g e).2.1, .inl hD, fun g e => ?_⟩, ?_⟩, ?_, ?_⟩
  · obtain ⟨h1, h2, h3⟩ := hown' g e
    rcases h1 with h1 | h1
    · exact ⟨.inl h1, h2⟩
    · exact ⟨.inr ⟨h1, e⟩, h2⟩
  · rintro k (hd' | ⟨hd', he⟩)
    · have := hd k hd'; simp; omega
    · have := (hown' k he).2.2; simpa using this
  · rintro k (hd' | ⟨hd', he⟩)
    · exact .inl hd'
    · have := (hown' k he).2.2; exact .inr ⟨by omega, by simpa using this⟩
  · exact ((Kp.of_ext hx).trans' hk fun k _ hn e => hn (hg k e).1).trans' hkS fun k _ hn e => hn (e ▸ hD)

def PopPost (D : Fp) (w : World) (pb : Nat) (x : Int) (r : List Int) (e : Ending) (w' : World) : Prop := e = .returned (.tuple #[.int .i64 x, .bool true]) ∧ ∃ D', PileAt D' w' pb r ∧ Sub D D' w w' ∧ Kp (fun k => ¬ D k) w w'
/-- Pop, of one at least. -/
theorem popPile_calls (h : PileAt D w pb l) (x : Int) (r : List Int) (hl : l = x :: r) (hn : l.length ≤ 1000) : Calls Tryz.prog 108 #[.pointer (some ⟨pb, 0, none⟩)] w (PopPost D w pb x r) := by
  have hF := firstPile_calls h x r hl
  obtain ⟨⟨lv, a, b, hD, hg⟩, hd⟩ := h
  have hDl := delI_calls lv l w b (by rw [hl]; simp) (by omega)
  obtain ⟨A, n, c, rfl⟩ := b.slice
  have c1 : w.cell? ⟨pb, 1, none⟩ = some (.slice A n c) := a.cell 1
  have HF := Lib.hid hF
  have HDl := Lib.hid hDl
  have HA := Lib.hid a
  have HG := Lib.hid hg
  have HLV := Lib.hid hl
  have HDD := Lib.hid hD
  have HDL := Lib.hid hd
  clear hF hDl a b hg hl hD hd hn
  go_enter Tryz.func108, Tryz.ntmps108
  go_wp2_with fail
  refine HF.out.mono ?_
  rintro e w1 ⟨rfl, rfl⟩
  clear HF
  go_wp2_with fail
  refine HDl.out.mono ?_
  rintro e w2 ⟨v', rfl, hO2, hk2, hb2⟩
  have hB2 : Blk w2 pb 166 #[lessV, .slice A n c] := HA.out.kp hk2 fun e => (HG.out pb e).2 rfl
  have c12 : w2.cell? ⟨pb, 1, none⟩ = some (.slice A n c) := hB2.cell 1
  have f12 := hB2.frozen 1
  obtain ⟨A2, n2, cc2, hv⟩ := hO2.slice
  subst hv
  have hfin := PileAt.put_ HA.out HDD.out HG.out HDL.out (Kp.refl _ w) hO2 hk2 (.inl hb2)
  have HFin := Lib.hid hfin
  clear HDl hO2 hk2 hb2 hB2 hfin
  go_wp2_with fail
  go_returns
  refine ⟨rfl, ?_⟩
  obtain ⟨D', h1, h2, h3⟩ := HFin.out
  rw [HLV.out] at h1
  exact ⟨D', h1, h2, h3⟩

def PutPost (D : Fp) (w : World) (pb : Nat) (l xs : List Int) (e : Ending) (w' : World) : Prop := (∃ r, e = .returned r) ∧ ∃ l' D', PileAt D' w' pb l' ∧ Sub D D' w w' ∧ Kp (fun k => ¬ D k) w w' ∧ l'.Pairwise (· ≥ ·) ∧ (∀ y, y ∈ l' ↔ y ∈ xs ∨ y ∈ l) ∧ l'.length = l.length + xs.length

theorem put_sorted {l : List Int} (hs : l.Pairwise (· ≥ ·)) {x : Int} {k : Nat} (hk : k ≤ l.length) (h1 : ∀ j (h : j < l.length), k ≤ j → l[j] < x) (h2 : ∀ j (h : j < l.length), j < k → x ≤ l[j]) : (l.take k ++ x :: l.drop k).Pairwise (· ≥ ·) := by
  rw [List.pairwise_append, List.pairwise_cons]
  refine ⟨hs.sublist (List.take_sublist ..), ⟨fun y hy => ?_, hs.sublist (List.drop_sublist ..)⟩, fun a ha b hb => ?_⟩
  · obtain ⟨j, hj, rfl⟩ := List.getElem_of_mem hy
    rw [List.getElem_drop]
    rw [List.length_drop] at hj
    have := h1 (k + j) (by omega) (by omega)
    show x ≥ _
    omega
  · obtain ⟨j, hj, rfl⟩ := List.getElem_of_mem ha
    rw [List.length_take] at hj
    rw [List.getElem_take]
    have h3 := h2 j (by omega) (by omega)
    rcases List.mem_cons.1 hb with rfl | hb
    · exact h3
    · obtain ⟨i, hi, rfl⟩ := List.getElem_of_mem hb
      rw [List.length_drop] at hi
      rw [List.getElem_drop]
      have := h1 (k + i) (by omega) (by omega)
      show l[j] ≥ _
      omega

theorem put_mem (l : List Int) (k : Nat) (x y : Int) : y ∈ l.take k ++ x :: l.drop k ↔ y ∈ [x] ∨ y ∈ l := by
  rw [List.mem_append, List.mem_cons]
  conv => rhs; rw [← List.take_append_drop k l, List.mem_append]
  rw [List.mem_singleton]
  constructor
  · rintro (h | h | h)
    · exact .inr (.inl h)
    · exact .inl h
    · exact .inr (.inr h)
  · rintro (h | h | h)
    · exact .inr (.inl h)
    · exact .inl h
    · exact .inr (.inr h)

set_option maxHeartbeats 2000000 in
theorem put_calls (h : PileAt D w pb l) (hs : l.Pairwise (· ≥ ·)) (hn : l.length ≤ 1000) (x : Int) : Calls Tryz.prog 144 #[.pointer (some ⟨pb, 0, none⟩), .int .i64 x] w (PutPost D w pb l [x]) := by
  obtain ⟨⟨lv, a, b, hD, hg⟩, hd⟩ := h
  obtain ⟨A, c, rfl, hO⟩ := b.rd.open_
  have c0 : w.cell? ⟨pb, 0, none⟩ = some lessV := a.cell 0
  have c1 : w.cell? ⟨pb, 1, none⟩ = some (.slice A l.length c) := a.cell 1
  have hpb := a.lt
  have hle := hO.le
  have HIns := Lib.hid fun (i : Nat) (hi : i ≤ l.length) W (hW : Ext w W) (vb : Nat) (hB : Blk W vb 3 #[.int .i64 x]) (hne : (Value.slice A l.length c).ownBlock ≠ some vb) => insI_calls (.slice A l.length c) l i x vb W (b.kp hW fun _ _ => trivial) hi (by omega) hB hne
  have HA := Lib.hid a
  have HO := Lib.hid hO
  have HOwn := Lib.hid b
  have HG := Lib.hid hg
  have HDD := Lib.hid hD
  have HDL := Lib.hid hd
  have HS := Lib.hid hs
  obtain ⟨n, hln⟩ : ∃ n, l.length = n := ⟨_, rfl⟩
  have HN := Lib.hid hln
  rw [hln] at c1 hle hn HIns HA HG
  clear a b hg hD hd hO hs hln
  have hlim : c ≤ 9223372036854775807 := HO.out.max
  go_enter Tryz.func144, Tryz.ntmps144
  go_wp2_with fail
  go_loopw [4] (fun i wr => ∃ k : Nat, k ≤ n ∧ i = .int .i64 k ∧ (∀ j (h : j < l.length), k ≤ j → l[j] < x) ∧ Ext w wr) (fun i _ => (intOf i).toNat)
  case atStart => exact ⟨n, Nat.le_refl _, rfl, fun j h1 h2 => by have := HN.out; omega, Kp.refl _ _⟩
  case round =>
    obtain ⟨k, hk, rfl, hi, hx⟩ := hrel
    rename_i wr
    have d0 : wr.cell? ⟨pb, 0, none⟩ = some lessV := (hx.cell (p := ⟨pb, 0, none⟩) hpb trivial).trans c0
    have d1 : wr.cell? ⟨pb, 1, none⟩ = some (.slice A n c) := (hx.cell (p := ⟨pb, 1, none⟩) hpb trivial).trans c1
    have HI := Lib.hid hi
    cases k with
    | succ i =>
      have hd0 : decide ((0 : Int) < (i : Int) + 1) = true := decide_eq_true (by omega)
      have hkl : i < l.length := by have := HN.out; omega
      obtain ⟨bb, off, rfl, _, hbl, e0⟩ := HO.out.rd.num hkl
      have e1 : wr.cell? ⟨bb, off + i, none⟩ = some (.int .i64 l[i]) := (hx.cell (p := ⟨bb, off + i, none⟩) hbl trivial).trans e0
      have hw : IntKind.i64.wrap (i : Int) = (i : Int) := IntWalk.i64_in _ (by omega)
      have h1 : (0 : Int) ≤ (i : Int) := by omega
      have h2 : (i : Int) < (n : Int) := by omega
      obtain ⟨y, hy⟩ : ∃ y, l[i] = y := ⟨_, rfl⟩
      rw [hy] at e1
      have HY : Hid (∀ h : i < l.length, l[i] = y) := Lib.hid fun _ => hy
      clear hi e0 hy hkl
      by_cases hlt : y < x
      · have hdl : decide (y < x) = true := decide_eq_true hlt
        go_wp2_with fail
        go_quiet ((go_at_call 105; exact Calls.quiet_of_same ((less_calls _ _ _).mono fun _ _ h => ⟨h.1, h.2.symm⟩)))
        go_wp2_with fail
        go_roundw
        case rel => exact ⟨i, by omega, rfl, fun j h hj => by
          by_cases he : j = i
          · subst he; rw [HY.out h]; exact hlt
          · exact HI.out j h (by omega), hx.drewN _⟩
        case measure => simp [intOf]
      · have hdl : decide (y < x) = false := decide_eq_false hlt
        have HSO : Hid ((l.take (i + 1) ++ x :: l.drop (i + 1)).Pairwise (· ≥ ·)) := Lib.hid (put_sorted HS.out (by have := HN.out; omega) HI.out fun j h hj => by
          have hk1 : i < l.length := by have := HN.out; omega
          have hyy := HY.out hk1
          by_cases he : j = i
          · subst he; rw [hyy]; omega
          · have : l[j] ≥ l[i] := List.pairwise_iff_getElem.1 HS.out j i h hk1 (by omega)
            omega)
        go_wp2_with fail
        go_quiet ((go_at_call 105; exact Calls.quiet_of_same ((less_calls _ _ _).mono fun _ _ h => ⟨h.1, h.2.symm⟩)))
        clear e1 d0
        have HX : Ext w (wr.drewN nq) := hx.drewN _
        go_wp2_with fail
        have hins := HIns.out (i + 1) (by have := HN.out; omega) ((wr.drewN nq).alloc (.cells #[.int .i64 x] 3)) (HX.alloc _) (wr.drewN nq).heap.size (Blk.new _ _ _) (fun e => by have := HOwn.out.lt (by rw [HN.out]; exact e); have := HX.size; omega)
        refine hins.mono ?_
        clear hins
        rintro e w5 ⟨v', rfl, hO5, hk5, hb5⟩
        have hB5 : Blk w5 pb 166 #[lessV, .slice (some ⟨bb, off, none⟩) n c] := (HA.out.ext (HX.alloc _)).kp hk5 fun e => (HG.out pb e).2 rfl
        have c15 : w5.cell? ⟨pb, 1, none⟩ = some (.slice (some ⟨bb, off, none⟩) n c) := hB5.cell 1
        have f15 := hB5.frozen 1
        obtain ⟨A5, n5, c5, hv⟩ := hO5.slice
        subst hv
        have hfin := PileAt.put_ HA.out HDD.out HG.out HDL.out (HX.alloc (.cells #[.int .i64 x] 3)) hO5 hk5 hb5
        have HFin := Lib.hid hfin
        clear HIns hO5 hk5 hb5 hB5 hfin
        go_wp2_with fail
        go_returns
        refine ⟨⟨_, rfl⟩, ?_⟩
        obtain ⟨D', g1, g2, g3⟩ := HFin.out
        refine ⟨_, D', g1, g2, g3, HSO.out, fun y => put_mem l (i + 1) x y, ?_⟩
        have := HN.out
        rw [List.length_append, List.length_cons, List.length_take, List.length_drop, List.length_singleton]
        omega
    | zero =>
      have HSO : Hid ((l.take 0 ++ x :: l.drop 0).Pairwise (· ≥ ·)) := Lib.hid (put_sorted HS.out (by have := HN.out; omega) HI.out fun j h hj => by omega)
      clear hi
      go_wp2_with fail
      go_quiet ((go_at_call 105; exact Calls.quiet_of_same ((less_calls _ _ _).mono fun _ _ h => ⟨h.1, h.2.symm⟩)))
      clear d0
      have HX : Ext w (wr.drewN nq) := hx.drewN _
      go_wp2_with fail
      have hins := HIns.out 0 (by have := HN.out; omega) ((wr.drewN nq).alloc (.cells #[.int .i64 x] 3)) (HX.alloc _) (wr.drewN nq).heap.size (Blk.new _ _ _) (fun e => by have := HOwn.out.lt (by rw [HN.out]; exact e); have := HX.size; omega)
      refine hins.mono ?_
      clear hins
      rintro e w5 ⟨v', rfl, hO5, hk5, hb5⟩
      have hB5 : Blk w5 pb 166 #[lessV, .slice A n c] := (HA.out.ext (HX.alloc _)).kp hk5 fun e => (HG.out pb e).2 rfl
      have c15 : w5.cell? ⟨pb, 1, none⟩ = some (.slice A n c) := hB5.cell 1
      have f15 := hB5.frozen 1
      obtain ⟨A5, n5, c5, hv⟩ := hO5.slice
      subst hv
      have hfin := PileAt.put_ HA.out HDD.out HG.out HDL.out (HX.alloc (.cells #[.int .i64 x] 3)) hO5 hk5 hb5
      have HFin := Lib.hid hfin
      clear HIns hO5 hk5 hb5 hB5 hfin
      go_wp2_with fail
      go_returns
      refine ⟨⟨_, rfl⟩, ?_⟩
      obtain ⟨D', g1, g2, g3⟩ := HFin.out
      refine ⟨_, D', g1, g2, g3, HSO.out, fun y => put_mem l 0 x y, ?_⟩
      have := HN.out
      rw [List.length_append, List.length_cons, List.length_take, List.length_drop, List.length_singleton]
      omega
/-- Put, of a row that lies apart from the pile. -/
theorem putAll_calls (h : PileAt D w pb l) (hs : l.Pairwise (· ≥ ·)) (v : Value) (xs : List Int) (hR : Rd EI S w v xs) (hSD : ∀ k, S k → ¬ D k) (hn : l.length + xs.length ≤ 1000) : Calls Tryz.prog 106 #[.pointer (some ⟨pb, 0, none⟩), v] w (PutPost D w pb l xs) := by
  obtain ⟨A, c, rfl, hO⟩ := hR.open_
  have hlen := hO.len
  have HO := Lib.hid hO
  have H := Lib.hid h
  have HS := Lib.hid hs
  have HD := Lib.hid hSD
  obtain ⟨n, hln⟩ : ∃ n, xs.length = n := ⟨_, rfl⟩
  have HN := Lib.hid hln
  have HL := Lib.hid hn
  rw [hln] at hlen ⊢
  clear hO h hs hSD hln hn hR
  go_enter Tryz.func106, Tryz.ntmps106
  go_wp2_with fail
  go_loopw [10] (fun i wr => ∃ (k : Nat) (l' : List Int) (D' : Fp), k ≤ n ∧ i = .int .i64 k ∧ PileAt D' wr pb l' ∧ Sub D D' w wr ∧ Kp (fun k => ¬ D k) w wr ∧ l'.Pairwise (· ≥ ·) ∧ (∀ y, y ∈ l' ↔ y ∈ xs.take k ∨ y ∈ l) ∧ l'.length = l.length + k) (fun i _ => n - (intOf i).toNat)
  case atStart => exact ⟨0, l, D, Nat.zero_le _, rfl, H.out, Sub.refl _ _, Kp.refl _ _, HS.out, by simp, rfl⟩
  case round =>
    obtain ⟨k, l', D', hk, rfl, hP, hsub, hkp, hs', hm, hl'⟩ := hrel
    have HP := Lib.hid hP
    have HSub := Lib.hid hsub
    have HKp := Lib.hid hkp
    have HS' := Lib.hid hs'
    have HM := Lib.hid hm
    have HL' := Lib.hid hl'
    have hks : Kp S w wr := hkp.mono fun k _ h => HD.out k h
    clear hP hsub hkp hs' hm hl'
    by_cases hlt : k < n
    · have hd : decide ((k : Int) < (n : Int)) = true := decide_eq_true (by omega)
      have hkl : k < xs.length := by have := HN.out; omega
      obtain ⟨bb, off, rfl, _, hbl, e1⟩ := (HO.out.rd.kp hks).num hkl
      have hw : IntKind.i64.wrap ((k : Int) + 1) = (k : Int) + 1 := IntWalk.i64_in _ (by have := HL.out; have := HN.out; omega)
      have h1 : (0 : Int) ≤ (k : Int) := by omega
      have h2 : (k : Int) < (n : Int) := by omega
      have hcl := put_calls HP.out HS'.out (by have := HL.out; have := HN.out; have := HL'.out; omega) xs[k]
      have HT : Hid (xs.take (k + 1) = xs.take k ++ [xs[k]]) := Lib.hid (by rw [List.take_succ_eq_append_getElem hkl])
      clear hks
      generalize xs[k] = x at e1 hcl HT
      have HC := Lib.hid hcl
      clear hcl hkl
      go_wp2_with (go_at_call 144; refine HC.out.mono ?_; rintro e w2 ⟨⟨r, rfl⟩, l2, D2, hP2, hs2, hk2, hp2, hm2, hl2⟩)
      go_roundw
      case rel =>
        refine ⟨k + 1, l2, D2, by omega, by go_num, hP2, ?_, ?_, hp2, fun y => ?_, ?_⟩
        · exact HSub.out.trans hs2 HKp.out.size hk2.size
        · refine HKp.out.trans' hk2 fun j hj hn hd => ?_
          rcases HSub.out j hd with h | h
          · exact hn h
          · omega
        · rw [hm2, HM.out, HT.out, List.mem_append]
          constructor
          · rintro (h | h | h)
            · exact .inl (.inr h)
            · exact .inl (.inl h)
            · exact .inr h
          · rintro ((h | h) | h)
            · exact .inr (.inl h)
            · exact .inl h
            · exact .inr (.inr h)
        · rw [hl2, HL'.out, List.length_singleton]; omega
      case measure => simp [intOf]; omega
    · have hd : decide ((k : Int) < (n : Int)) = false := decide_eq_false (by omega)
      go_wp2_with fail
      go_returns
      refine ⟨⟨_, rfl⟩, l', D', HP.out, HSub.out, HKp.out, HS'.out, fun y => ?_, by rw [HL'.out]; have := HN.out; omega⟩
      rw [HM.out, List.take_of_length_le (by have := HN.out; omega)]
end

end Go.Proofs.YtgjbfkaepalkiaaGreatDoor
