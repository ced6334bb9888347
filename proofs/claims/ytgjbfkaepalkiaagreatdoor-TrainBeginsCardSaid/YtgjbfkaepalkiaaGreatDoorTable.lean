/-
  Plain: how long the longest list is that two lists have both, from each place on; rows of cells given by a function. diff.long, diff.table at texts.
-/
import Derived.Test.YtgjbfkaepalkiaaGreatDoorBase
import Derived.Laws.OwnMore
import Derived.Test.YtgjbfkaepalkiaaGreatDoorSameX
import Derived.Deep.OwnRows
import Derived.StillTailTactics
import Derived.Deep.DrawnRows
import Derived.BigQuiet
namespace Go.Proofs.YtgjbfkaepalkiaaGreatDoor
open Go.RowKit
set_option linter.unusedVariables false
set_option linter.unusedSimpArgs false

def lcsIn (x : ByteArray) (f : List ByteArray → Nat) : List ByteArray → Nat
  | [] => 0
  | y :: ys => if x = y then f ys + 1 else max (f (y :: ys)) (lcsIn x f ys)
def lcsL : List ByteArray → List ByteArray → Nat
  | [] => fun _ => 0
  | x :: xs => lcsIn x (lcsL xs)
theorem lcsL_nil_r (xs : List ByteArray) : lcsL xs [] = 0 := by cases xs <;> rfl
theorem lcsL_cons (x y : ByteArray) (xs ys : List ByteArray) : lcsL (x :: xs) (y :: ys) = if x = y then lcsL xs ys + 1 else max (lcsL xs (y :: ys)) (lcsL (x :: xs) ys) := rfl
theorem lcsL_le (xs : List ByteArray) : ∀ ys, lcsL xs ys ≤ xs.length := by
  induction xs with
  | nil => exact fun _ => Nat.le_refl _
  | cons x xs ih =>
    intro ys
    induction ys with
    | nil => exact Nat.zero_le _
    | cons y ys ih2 =>
      rw [lcsL_cons]
      have h1 := ih ys
      have h2 := ih (y :: ys)
      simp only [List.length_cons] at ih2 ⊢
      split <;> omega
/-- From the places i and j on. -/
def lcsAt (a b : List ByteArray) (i j : Nat) : Nat := lcsL (a.drop i) (b.drop j)
theorem lcsAt_le (a b : List ByteArray) (i j : Nat) : lcsAt a b i j ≤ a.length := Nat.le_trans (lcsL_le _ _) (by rw [List.length_drop]; omega)
theorem lcsAt_end_a (a b : List ByteArray) (i j : Nat) (h : a.length ≤ i) : lcsAt a b i j = 0 := by unfold lcsAt; rw [List.drop_of_length_le h]; rfl
theorem lcsAt_end_b (a b : List ByteArray) (i j : Nat) (h : b.length ≤ j) : lcsAt a b i j = 0 := by unfold lcsAt; rw [List.drop_of_length_le h]; exact lcsL_nil_r _
theorem lcsAt_step (a b : List ByteArray) {i j : Nat} (hi : i < a.length) (hj : j < b.length) : lcsAt a b i j = if a[i] = b[j] then lcsAt a b (i + 1) (j + 1) + 1 else max (lcsAt a b (i + 1) j) (lcsAt a b i (j + 1)) := by
  unfold lcsAt
  rw [List.drop_eq_getElem_cons hi, List.drop_eq_getElem_cons hj, lcsL_cons]

/-- A row of cells by a function. -/
def rowOf (n : Nat) (f : Nat → Value) : Array Value := ((List.range n).map f).toArray
theorem rowOf_size (n : Nat) (f : Nat → Value) : (rowOf n f).size = n := by simp [rowOf]
theorem rowOf_get {n i : Nat} (f : Nat → Value) (h : i < n) : (rowOf n f)[i]? = some (f i) := by simp [rowOf, h]
theorem rowOf_set {n i : Nat} (f : Nat → Value) (v : Value) : (rowOf n f).setIfInBounds i v = rowOf n (fun k => if k = i then v else f k) := by
  apply Array.ext
  · simp [rowOf]
  · intro k h1 h2
    rw [Array.getElem_setIfInBounds]
    by_cases hk : i = k
    · subst hk; simp [rowOf]
    · rw [if_neg hk]
      have hk' : ¬ k = i := fun e => hk e.symm
      simp [rowOf, hk']
    · simpa [rowOf] using h2
theorem rowOf_congr {n : Nat} {f g : Nat → Value} (h : ∀ k, k < n → f k = g k) : rowOf n f = rowOf n g := by
  unfold rowOf
  congr 1
  exact List.map_congr_left fun k hk => h k (List.mem_range.1 hk)
theorem madeCells_row (z : Value) (n : Nat) : madeCells #[z] n = rowOf n fun _ => z := by
  apply Array.ext'
  rw [toList_madeCells_one]
  unfold rowOf
  simp [List.map_const']

end Go.Proofs.YtgjbfkaepalkiaaGreatDoor

namespace Go.Proofs.YtgjbfkaepalkiaaGreatDoor
open Go.RowKit
set_option linter.unusedVariables false
set_option linter.unusedSimpArgs false
attribute [local go_sem] Oper.semAt_some

theorem long_calls (A1 A2 : Option Addr) (n1 n2 c1 c2 : Nat) (h1 : n1 ≤ 400) (h2 : n2 ≤ 400) (w : World) :
    Calls Tryz.prog 254 #[.slice A1 n1 c1, .slice A2 n2 c2] w fun e w' => e = .returned (.bool false) ∧ w = w' := by
  have hd1 : decide ((400 : Int) < (n1 : Int)) = false := decide_eq_false (by omega)
  have hd2 : decide ((400 : Int) < (n2 : Int)) = false := decide_eq_false (by omega)
  go_enter Tryz.func254, Tryz.ntmps254
  go_wp2_with fail
  go_ret
  exact ⟨rfl, rfl⟩

def hdr (g mb i : Nat) : Value := .slice (some ⟨g + 1 + i, 0, none⟩) mb mb
/-- A table of ma rows of mb numbers: rows' headers in block g, the rows in those behind it. -/
structure Tab (w : World) (g ma mb : Nat) (f : Nat → Nat → Nat) : Prop where
  hd : Blk w g 40 (rowOf ma (hdr g mb))
  row : ∀ i, i < ma → Blk w (g + 1 + i) 3 (rowOf mb fun j => .int .i64 (f i j))
theorem Tab.kp {w w' : World} {g ma mb : Nat} {f : Nat → Nat → Nat} {S : Fp} (h : Tab w g ma mb f) (hk : Kp S w w') (hs : ∀ k, g ≤ k → k ≤ g + ma → S k) : Tab w' g ma mb f :=
  ⟨h.hd.kp hk (hs _ (Nat.le_refl _) (by omega)), fun i hi => (h.row i hi).kp hk (hs _ (by omega) (by omega))⟩
theorem Tab.drewN_ {w : World} {g ma mb : Nat} {f : Nat → Nat → Nat} (h : Tab w g ma mb f) (n : Nat) : Tab (w.drewN n) g ma mb f := ⟨h.hd, h.row⟩
theorem Tab.cellH {w : World} {g ma mb : Nat} {f : Nat → Nat → Nat} (h : Tab w g ma mb f) {i : Nat} (hi : i < ma) : w.cell? ⟨g, i, none⟩ = some (.slice (some ⟨g + 1 + i, 0, none⟩) mb mb) := by
  rw [h.hd.cell i, rowOf_get _ hi]; rfl
theorem Tab.cellR {w : World} {g ma mb : Nat} {f : Nat → Nat → Nat} (h : Tab w g ma mb f) {i j : Nat} (hi : i < ma) (hj : j < mb) : w.cell? ⟨g + 1 + i, j, none⟩ = some (.int .i64 (f i j)) := by
  rw [(h.row i hi).cell j, rowOf_get _ hj]
theorem Tab.set {w : World} {g ma mb : Nat} {f f' : Nat → Nat → Nat} (h : Tab w g ma mb f) {i j v : Nat} (hi : i < ma) (hf : ∀ i' j', i' < ma → j' < mb → f' i' j' = if i' = i ∧ j' = j then v else f i' j') : Tab (w.setCell ⟨g + 1 + i, j, none⟩ (.int .i64 v)) g ma mb f' := by
  refine ⟨h.hd.far (by simp; omega) _, fun k hk => ?_⟩
  by_cases he : k = i
  · subst he
    have := (h.row k hk).set_ j (.int .i64 v)
    rw [rowOf_set] at this
    rw [rowOf_congr (g := fun j' => if j' = j then .int .i64 v else .int .i64 (f k j')) fun j' hj' => by rw [hf k j' hk hj']; by_cases hh : j' = j <;> simp [hh]]
    exact this
  · rw [rowOf_congr (g := fun j' => .int .i64 (f k j')) fun j' hj' => by rw [hf k j' hk hj', if_neg (by omega)]]
    exact (h.row k hk).far (by simp; omega) _

set_option maxHeartbeats 2000000 in
set_option maxRecDepth 100000 in
theorem table_calls (v u : Value) (xs ys : List ByteArray) (S T : Fp) (w : World) (hA : Rd ES S w v xs) (hB : Rd ES T w u ys) (h1 : xs.length ≤ 400) (h2 : ys.length ≤ 400) :
    Calls Tryz.prog 255 #[v, u] w fun e w' => e = .returned (.slice (some ⟨w.heap.size, 0, none⟩) (xs.length + 1) (xs.length + 1)) ∧ Tab w' w.heap.size (xs.length + 1) (ys.length + 1) (lcsAt xs ys) ∧ Ext w w' ∧ w'.heap.size = w.heap.size + 1 + (xs.length + 1) := by
  obtain ⟨A1, c1, rfl, hO1⟩ := hA.open_
  obtain ⟨A2, c2, rfl, hO2⟩ := hB.open_
  obtain ⟨na, hna⟩ : ∃ n, xs.length = n := ⟨_, rfl⟩
  obtain ⟨nb, hnb⟩ : ∃ n, ys.length = n := ⟨_, rfl⟩
  obtain ⟨ma, hma⟩ : ∃ n, na + 1 = n := ⟨_, rfl⟩
  obtain ⟨mb, hmb⟩ : ∃ n, nb + 1 = n := ⟨_, rfl⟩
  rw [hna] at h1 ⊢
  rw [hnb] at h2 ⊢
  rw [hma, hmb]
  have HNA := Lib.hid hna
  have HNB := Lib.hid hnb
  have HMA := Lib.hid hma
  have HMB := Lib.hid hmb
  have HA := Lib.hid fun W (hW : Ext w W) => hO1.kp (hW.mono fun _ _ _ => trivial)
  have HB := Lib.hid fun W (hW : Ext w W) => hO2.kp (hW.mono fun _ _ _ => trivial)
  have m1 : ∀ W : World, (Instr.makeSlice 263 (.int .i64 ((na : Int) + 1)) (.int .i64 ((na : Int) + 1))).run Tryz.prog W = .ok (.slice (some ⟨W.heap.size, 0, none⟩) ma ma) (W.alloc (.cells (rowOf ma fun _ => .slice none 0 0) 40)) := by
    intro W
    have h := run_make_row' (P := Tryz.prog) 263 40 (.slice none 0 0) 24 Tryz.underlying263 (by kernel_rfl) (by rfl) .i64 .i64 (na + 1) (by omega) (by omega) W
    rw [madeCells_row, hma] at h
    rw [← hma, Int.natCast_add] at h
    rw [← hma]; exact h
  have m2 : ∀ W : World, (Instr.makeSlice 40 (.int .i64 ((nb : Int) + 1)) (.int .i64 ((nb : Int) + 1))).run Tryz.prog W = .ok (.slice (some ⟨W.heap.size, 0, none⟩) mb mb) (W.alloc (.cells (rowOf mb fun _ => .int .i64 0) 3)) := by
    intro W
    have h := run_make_row' (P := Tryz.prog) 40 3 (.int .i64 0) 8 Tryz.underlying40 (by kernel_rfl) (by rfl) .i64 .i64 (nb + 1) (by omega) (by omega) W
    rw [madeCells_row, hmb] at h
    rw [← hmb, Int.natCast_add] at h
    rw [← hmb]; exact h
  have hma4 : ma ≤ 401 := by omega
  have hmb4 : mb ≤ 401 := by omega
  clear hA hB hO1 hO2 hna hnb hma hmb
  go_enter Tryz.func255, Tryz.ntmps255
  go_wp2_with fail
  go_loopw [15] (fun i wr => ∃ k : Nat, k ≤ ma ∧ i = .int .i64 k ∧ wr.heap.size = w.heap.size + 1 + k ∧ Blk wr w.heap.size 40 (rowOf ma fun i' => if i' < k then hdr w.heap.size mb i' else .slice none 0 0) ∧ (∀ i', i' < k → Blk wr (w.heap.size + 1 + i') 3 (rowOf mb fun _ => .int .i64 0)) ∧ Ext w wr) (fun i _ => ma - (intOf i).toNat)
  case atStart => exact ⟨0, Nat.zero_le _, rfl, by simp, Blk.new w _ _, fun i' h => by omega, (Kp.refl _ w).alloc _⟩
  case round =>
    obtain ⟨k, hk, rfl, hsz, hH, hRw, hx⟩ := hrel
    rename World => wo
    have HSZ := Lib.hid hsz
    clear hsz
    by_cases hlt : k < ma
    · have hd : decide ((k : Int) < (ma : Int)) = true := decide_eq_true (by omega)
      have hlt' : (k : Int) < (ma : Int) := by omega
      have h0 : (0 : Int) ≤ (k : Int) := by omega
      have hw : IntKind.i64.wrap ((k : Int) + 1) = (k : Int) + 1 := IntWalk.i64_in _ (by omega)
      have hH2 := hH.ext ((Kp.refl _ wo).alloc (.cells (rowOf mb fun _ => .int .i64 0) 3))
      have c0 : (wo.alloc (.cells (rowOf mb fun _ => .int .i64 0) 3)).cell? ⟨w.heap.size, k, none⟩ = some (.slice none 0 0) := by
        rw [hH2.cell k, rowOf_get _ hlt, if_neg (Nat.lt_irrefl k)]
      have f0 := hH2.frozen k
      have hnew := Blk.new wo 3 (rowOf mb fun _ => Value.int .i64 0)
      have hH3 := hH2.set_ k (.slice (some ⟨wo.heap.size, 0, none⟩) mb mb)
      rw [rowOf_set] at hH3
      rw [rowOf_congr (n := ma) (g := fun i' => if i' < k + 1 then hdr w.heap.size mb i' else .slice none 0 0) fun i' hi' => by
        by_cases he : i' = k
        · subst he; rw [if_pos rfl, if_pos (Nat.lt_succ_self _)]; unfold hdr; rw [HSZ.out]
        · rw [if_neg he]
          by_cases hl : i' < k
          · rw [if_pos hl, if_pos (by omega)]
          · rw [if_neg hl, if_neg (by omega)]] at hH3
      have hR3 : ∀ i', i' < k + 1 → Blk ((wo.alloc (.cells (rowOf mb fun _ => .int .i64 0) 3)).setCell ⟨w.heap.size, k, none⟩ (.slice (some ⟨wo.heap.size, 0, none⟩) mb mb)) (w.heap.size + 1 + i') 3 (rowOf mb fun _ => .int .i64 0) := by
        intro i' hi'
        refine Blk.far ?_ (by simp; omega) _
        by_cases he : i' = k
        · subst he
          rw [HSZ.out] at hnew; exact hnew
        · exact (hRw i' (by omega)).ext ((Kp.refl _ wo).alloc _)
      have hx3 : Ext w ((wo.alloc (.cells (rowOf mb fun _ => .int .i64 0) 3)).setCell ⟨w.heap.size, k, none⟩ (.slice (some ⟨wo.heap.size, 0, none⟩) mb mb)) := (hx.alloc _).setCell (.inl (Nat.le_refl _)) _
      have HH := Lib.hid hH3
      have HR := Lib.hid hR3
      clear hH hRw hH2 hnew hH3 hR3 hx
      go_wp2_with fail
      go_roundw
      case rel => exact ⟨k + 1, by omega, by go_num, by have := HSZ.out; simp; omega, HH.out, HR.out, hx3⟩
      case measure => first | (simp [intOf]; omega) | simp [intOf]
    · have hd : decide ((k : Int) < (ma : Int)) = false := decide_eq_false (by omega)
      have hkm : k = ma := by omega
      subst hkm
      have hT : Tab wo w.heap.size k mb (fun _ _ => 0) := ⟨by rw [← rowOf_congr fun i' hi' => if_pos hi']; exact hH, fun i hi => hRw i hi⟩
      clear hH hRw hd hlt
      go_wp2_with fail
      have HT := Lib.hid hT
      clear hT m1 m2
      go_loopw [7] (fun i wr => ∃ p : Nat, p ≤ na ∧ i = .int .i64 ((p : Int) - 1) ∧ Tab wr w.heap.size k mb (fun i' j' => if p ≤ i' then lcsAt xs ys i' j' else 0) ∧ wr.heap.size = wo.heap.size ∧ Ext w wr) (fun i _ => ((intOf i) + 1).toNat)
      case atStart =>
        refine ⟨na, Nat.le_refl _, rfl, ?_, rfl, hx⟩
        have h := HT.out
        refine ⟨h.hd, fun i hi => ?_⟩
        rw [rowOf_congr (n := mb) (g := fun _ => .int .i64 ((0 : Nat) : Int)) fun j' _ => by
          by_cases he : na ≤ i
          · rw [if_pos he, lcsAt_end_a _ _ _ _ (by rw [HNA.out]; exact he)]
          · rw [if_neg he]]
        exact h.row i hi
      case round =>
        obtain ⟨p, hp, rfl, hT2, hsz2, hx2⟩ := hrel
        rename World => wp
        have HT2 := Lib.hid hT2
        have HSZ2 := Lib.hid hsz2
        clear hT2 hsz2 HT
        rcases p with _ | p
        · have hd : decide ((0 : Int) ≤ ((0 : Nat) : Int) - 1) = false := by decide
          rw [show ((0 : Nat) : Int) - 1 = -1 from rfl]
          clear hd
          have hfin : Tab wp w.heap.size k mb (lcsAt xs ys) := by
            have h := HT2.out
            simpa using h
          clear HT2
          go_wp2_with fail
          go_ret
          exact ⟨rfl, hfin, hx2, by rw [HSZ2.out, HSZ.out]⟩
        · rw [show ((p + 1 : Nat) : Int) - 1 = (p : Int) by omega]
          have hd : decide ((0 : Int) ≤ (p : Int)) = true := decide_eq_true (by omega)
          have hpk : p + 1 < k := by have := HMA.out; omega
          go_wp2_with fail
          go_loopw [8] (fun j wr => ∃ q : Nat, q ≤ nb ∧ j = .int .i64 ((q : Int) - 1) ∧ Tab wr w.heap.size k mb (fun i' j' => if p + 1 ≤ i' ∨ (i' = p ∧ q ≤ j') then lcsAt xs ys i' j' else 0) ∧ wr.heap.size = wo.heap.size ∧ Ext w wr) (fun j _ => ((intOf j) + 1).toNat)
          case atStart =>
            refine ⟨nb, Nat.le_refl _, rfl, ?_, HSZ2.out, hx2⟩
            have h := HT2.out
            refine ⟨h.hd, fun i hi => ?_⟩
            rw [rowOf_congr (n := mb) (g := fun j' => .int .i64 ((if p + 1 ≤ i then lcsAt xs ys i j' else 0 : Nat) : Int)) fun j' hj' => by
              by_cases he : p + 1 ≤ i
              · rw [if_pos (.inl he), if_pos he]
              · rw [if_neg he]
                by_cases h2 : i = p ∧ nb ≤ j'
                · rw [if_pos (.inr h2), lcsAt_end_b _ _ _ _ (by rw [HNB.out]; exact h2.2)]
                · rw [if_neg (by omega)]]
            exact h.row i hi
          case round =>
            obtain ⟨q, hq, rfl, hT3, hsz3, hx3⟩ := hrel
            rename World => wq
            have HT3 := Lib.hid hT3
            have HSZ3 := Lib.hid hsz3
            clear hT3 hsz3 HT2 HSZ2 hx2
            rcases q with _ | q
            · rw [show ((0 : Nat) : Int) - 1 = -1 from rfl]
              have HT4 : Hid (Tab wq w.heap.size k mb (fun i' j' => if p ≤ i' then lcsAt xs ys i' j' else 0)) := Lib.hid (by
                have h := HT3.out
                refine ⟨h.hd, fun i hi => ?_⟩
                rw [rowOf_congr (n := mb) (g := fun j' => .int .i64 ((if p + 1 ≤ i ∨ (i = p ∧ 0 ≤ j') then lcsAt xs ys i j' else 0 : Nat) : Int)) fun j' hj' => by
                  by_cases he : p ≤ i
                  · rw [if_pos he, if_pos (by omega)]
                  · rw [if_neg he, if_neg (by omega)]]
                exact h.row i hi)
              clear HT3
              go_wp2_with fail
              go_roundw
              case rel => exact ⟨p, by omega, by go_num, HT4.out, HSZ3.out, hx3⟩
              case measure => first | (simp [intOf]; omega) | simp [intOf]
            · rw [show ((q + 1 : Nat) : Int) - 1 = (q : Int) by omega]
              have hd2 : decide ((0 : Int) ≤ (q : Int)) = true := decide_eq_true (by omega)
              have hqm : q + 1 < mb := by have := HMB.out; omega
              have hpx : p < xs.length := by have := HNA.out; omega
              have hqx : q < ys.length := by have := HNB.out; omega
              obtain ⟨b1, o1, rfl, _, hb1, c0⟩ := (HA.out wq hx3).rd.text hpx
              obtain ⟨b2, o2, rfl, _, hb2, d0⟩ := (HB.out wq hx3).rd.text hqx
              have HST := Lib.hid (lcsAt_step xs ys hpx hqx)
              obtain ⟨x, hxx⟩ : ∃ x, xs[p] = x := ⟨_, rfl⟩
              obtain ⟨y, hyy⟩ : ∃ y, ys[q] = y := ⟨_, rfl⟩
              rw [hxx] at c0 HST
              rw [hyy] at d0 HST
              have i1 : (0 : Int) ≤ (p : Int) := by omega
              have i2 : (p : Int) < (na : Int) := by omega
              have i3 : (0 : Int) ≤ (q : Int) := by omega
              have i4 : (q : Int) < (nb : Int) := by omega
              clear hxx hyy hpx hqx
              go_wp2_with fail
              go_quiet (fail)
              have HT3' : Hid (Tab (wq.drewN nq) w.heap.size k mb (fun i' j' => if p + 1 ≤ i' ∨ (i' = p ∧ q + 1 ≤ j') then lcsAt xs ys i' j' else 0)) := Lib.hid (Tab.drewN_ HT3.out nq)
              have hx3' : Ext w (wq.drewN nq) := hx3.drewN nq
              have HSZ3' : Hid ((wq.drewN nq).heap.size = wo.heap.size) := Lib.hid HSZ3.out
              clear HT3 hx3 HSZ3 c0 d0
              have HT3 := HT3'
              have hx3 := hx3'
              have HSZ3 := HSZ3'
              clear HT3' hx3' HSZ3'
              generalize wq.drewN nq = wq at HT3 hx3 HSZ3 ⊢
              cases hxy : (x.toList == y.toList) with
              | true =>
                have heq : (x = y) ↔ True := by constructor <;> intro _ <;> first | trivial | exact toList_inj (by simpa using hxy)
                have HV : Hid (lcsAt xs ys p q = lcsAt xs ys (p + 1) (q + 1) + 1) := Lib.hid (by have h := HST.out; rw [if_pos (heq.2 trivial)] at h; exact h)
                have HF11 : Hid (wq.cell? ⟨w.heap.size + 1 + (p + 1), q + 1, none⟩ = some (.int .i64 (lcsAt xs ys (p + 1) (q + 1)))) := Lib.hid (by have h := HT3.out.cellR (i := p + 1) (j := q + 1) (by omega) (by omega); rw [if_pos (.inl (Nat.le_refl _))] at h; exact h)
                have c2 := HT3.out.cellH (i := p) (by omega)
                have c3 := HT3.out.cellH (i := p + 1) (by omega)
                have f2 := (HT3.out.row p (by omega)).frozen q
                have e2 := HT3.out.cellR (i := p) (j := q) (by omega) (by omega)
                have hl := lcsAt_le xs ys (p + 1) (q + 1)
                have HL : Hid (lcsAt xs ys (p + 1) (q + 1) ≤ 400) := Lib.hid (by have := HNA.out; omega)
                obtain ⟨L1, hL1⟩ : ∃ L, lcsAt xs ys (p + 1) (q + 1) = L := ⟨_, rfl⟩
                rw [hL1] at HF11 HL HV
                have c4 := HF11.out
                have hL2 := HL.out
                clear hl hL1 HF11 HL
                have HT5 : Hid (Tab (wq.setCell ⟨w.heap.size + 1 + p, q, none⟩ (.int .i64 ((L1 : Int) + 1))) w.heap.size k mb (fun i' j' => if p + 1 ≤ i' ∨ (i' = p ∧ q ≤ j') then lcsAt xs ys i' j' else 0)) := Lib.hid (HT3.out.set (v := L1 + 1) (by omega) fun i' j' _ _ => by
                  by_cases he : i' = p ∧ j' = q
                  · obtain ⟨rfl, rfl⟩ := he
                    rw [if_pos (.inr ⟨rfl, Nat.le_refl _⟩), if_pos ⟨rfl, rfl⟩]; exact HV.out
                  · rw [if_neg he]
                    by_cases h3 : p + 1 ≤ i' ∨ (i' = p ∧ q + 1 ≤ j')
                    · rw [if_pos h3, if_pos (by omega)]
                    · rw [if_neg h3, if_neg (by omega)])
                have HX5 := Lib.hid (hx3.setCell (p := ⟨w.heap.size + 1 + p, q, none⟩) (.inl (by simp; omega)) (.int .i64 ((L1 : Int) + 1)))
                have j1 : (0 : Int) ≤ (p : Int) + 1 := by omega
                have j2 : (p : Int) + 1 < (k : Int) := by omega
                have j3 : (0 : Int) ≤ (q : Int) + 1 := by omega
                have j4 : (q : Int) + 1 < (mb : Int) := by omega
                have j5 : (p : Int) < (k : Int) := by omega
                have j6 : (q : Int) < (mb : Int) := by omega
                have t1 : ((p : Int) + 1).toNat = p + 1 := by omega
                have t2 : ((q : Int) + 1).toNat = q + 1 := by omega
                clear heq HST HT3
                go_wp2_with fail
                have w3 : IntKind.i64.wrap ((L1 : Int) + 1) = (L1 : Int) + 1 := IntWalk.i64_in _ (by omega)
                have b1' : -9223372036854775808 ≤ (p : Int) + 1 ∧ (p : Int) + 1 ≤ 9223372036854775807 := by omega
                have b2' : -9223372036854775808 ≤ (q : Int) + 1 ∧ (q : Int) + 1 ≤ 9223372036854775807 := by omega
                have w1 : IntKind.i64.wrap ((p : Int) + 1) = (p : Int) + 1 := IntWalk.i64_in _ b1'
                have w2 := (IntWalk.i64_in ((q : Int) + 1) b2' : IntKind.i64.wrap ((q : Int) + 1) = (q : Int) + 1)
                go_still_tail 16, (by kernel_rfl)
                clear w3 w1 w2 b1' b2'
                go_wp2_with fail
                go_roundw
                case rel => exact ⟨q, by omega, by go_num, by first | exact HT5.out | exact ⟨HT5.out.hd, HT5.out.row⟩, by first | exact HSZ3.out | (simp; exact HSZ3.out), by first | exact HX5.out | exact HX5.out.drew | exact ⟨HX5.out.os, HX5.out.tape, HX5.out.output, HX5.out.size, HX5.out.block⟩⟩
                case measure => first | (simp [intOf]; omega) | simp [intOf]
              | false =>
                have heq : ¬ x = y := fun e => by rw [e] at hxy; simp at hxy
                have HV : Hid (lcsAt xs ys p q = max (lcsAt xs ys (p + 1) q) (lcsAt xs ys p (q + 1))) := Lib.hid (by have h := HST.out; rw [if_neg heq] at h; exact h)
                have HF10 : Hid (wq.cell? ⟨w.heap.size + 1 + (p + 1), q, none⟩ = some (.int .i64 (lcsAt xs ys (p + 1) q))) := Lib.hid (by have h := HT3.out.cellR (i := p + 1) (j := q) (by omega) (by omega); rw [if_pos (.inl (Nat.le_refl _))] at h; exact h)
                have HF01 : Hid (wq.cell? ⟨w.heap.size + 1 + p, q + 1, none⟩ = some (.int .i64 (lcsAt xs ys p (q + 1)))) := Lib.hid (by have h := HT3.out.cellR (i := p) (j := q + 1) (by omega) (by omega); rw [if_pos (.inr ⟨rfl, Nat.le_refl _⟩)] at h; exact h)
                have c2 := HT3.out.cellH (i := p) (by omega)
                have c3 := HT3.out.cellH (i := p + 1) (by omega)
                have f2 := (HT3.out.row p (by omega)).frozen q
                have e2 := HT3.out.cellR (i := p) (j := q) (by omega) (by omega)
                have hl := lcsAt_le xs ys (p + 1) q
                have hl' := lcsAt_le xs ys p (q + 1)
                have HL : Hid (lcsAt xs ys (p + 1) q ≤ 400 ∧ lcsAt xs ys p (q + 1) ≤ 400) := Lib.hid (by have := HNA.out; omega)
                obtain ⟨L1, hL1⟩ : ∃ L, lcsAt xs ys (p + 1) q = L := ⟨_, rfl⟩
                obtain ⟨L2, hL2⟩ : ∃ L, lcsAt xs ys p (q + 1) = L := ⟨_, rfl⟩
                rw [hL1] at HF10 HL HV
                rw [hL2] at HF01 HL HV
                have c4 := HF10.out
                have c5 := HF01.out
                have hmx : max (L1 : Int) (L2 : Int) = ((max L1 L2 : Nat) : Int) := by omega
                obtain ⟨L3, hL3⟩ : ∃ L, max L1 L2 = L := ⟨_, rfl⟩
                rw [hL3] at hmx HV
                clear hl hl' hL1 hL2 hL3 HF10 HF01 HL
                have HT5 : Hid (Tab (wq.setCell ⟨w.heap.size + 1 + p, q, none⟩ (.int .i64 (L3 : Int))) w.heap.size k mb (fun i' j' => if p + 1 ≤ i' ∨ (i' = p ∧ q ≤ j') then lcsAt xs ys i' j' else 0)) := Lib.hid (HT3.out.set (v := L3) (by omega) fun i' j' _ _ => by
                  by_cases he : i' = p ∧ j' = q
                  · obtain ⟨rfl, rfl⟩ := he
                    rw [if_pos (.inr ⟨rfl, Nat.le_refl _⟩), if_pos ⟨rfl, rfl⟩]; exact HV.out
                  · rw [if_neg he]
                    by_cases h3 : p + 1 ≤ i' ∨ (i' = p ∧ q + 1 ≤ j')
                    · rw [if_pos h3, if_pos (by omega)]
                    · rw [if_neg h3, if_neg (by omega)])
                have HX5 := Lib.hid (hx3.setCell (p := ⟨w.heap.size + 1 + p, q, none⟩) (.inl (by simp; omega)) (.int .i64 (L3 : Int)))
                have j1 : (0 : Int) ≤ (p : Int) + 1 := by omega
                have j2 : (p : Int) + 1 < (k : Int) := by omega
                have j3 : (0 : Int) ≤ (q : Int) + 1 := by omega
                have j4 : (q : Int) + 1 < (mb : Int) := by omega
                have j5 : (p : Int) < (k : Int) := by omega
                have j6 : (q : Int) < (mb : Int) := by omega
                have t1 : ((p : Int) + 1).toNat = p + 1 := by omega
                have t2 : ((q : Int) + 1).toNat = q + 1 := by omega
                clear heq HST HT3
                go_wp2_with fail
                have b1' : -9223372036854775808 ≤ (p : Int) + 1 ∧ (p : Int) + 1 ≤ 9223372036854775807 := by omega
                have b2' : -9223372036854775808 ≤ (q : Int) + 1 ∧ (q : Int) + 1 ≤ 9223372036854775807 := by omega
                have w1 : IntKind.i64.wrap ((p : Int) + 1) = (p : Int) + 1 := IntWalk.i64_in _ b1'
                have w2 := (IntWalk.i64_in ((q : Int) + 1) b2' : IntKind.i64.wrap ((q : Int) + 1) = (q : Int) + 1)
                go_still_tail 23, (by kernel_rfl)
                clear w1 w2 b1' b2'
                go_wp2_with fail
                go_roundw
                case rel => exact ⟨q, by omega, by go_num, by first | exact HT5.out | exact ⟨HT5.out.hd, HT5.out.row⟩, by first | exact HSZ3.out | (simp; exact HSZ3.out), by first | exact HX5.out | exact HX5.out.drew | exact ⟨HX5.out.os, HX5.out.tape, HX5.out.output, HX5.out.size, HX5.out.block⟩⟩
                case measure => first | (simp [intOf]; omega) | simp [intOf]

end Go.Proofs.YtgjbfkaepalkiaaGreatDoor
