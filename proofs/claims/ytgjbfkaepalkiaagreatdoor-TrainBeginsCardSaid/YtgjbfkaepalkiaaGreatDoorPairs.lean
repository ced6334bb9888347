/-
  diff.Pairs at texts.
-/
import Derived.Test.YtgjbfkaepalkiaaGreatDoorTable
import Derived.Test.YtgjbfkaepalkiaaGreatDoorConcat
namespace Go.Proofs.YtgjbfkaepalkiaaGreatDoor
open Go.RowKit
set_option linter.unusedVariables false
set_option linter.unusedSimpArgs false
attribute [local go_sem] Oper.semAt_some

/-! ### Plain -/
def pairsIn (x : ByteArray) (xs : List ByteArray) (f : Nat → List ByteArray → List (Nat × Nat)) (i : Nat) : Nat → List ByteArray → List (Nat × Nat)
  | _, [] => []
  | j, y :: ys => if x = y then (i, j) :: f (j + 1) ys else if lcsL (x :: xs) ys ≤ lcsL xs (y :: ys) then f j (y :: ys) else pairsIn x xs f i (j + 1) ys
def pairsL : List ByteArray → Nat → Nat → List ByteArray → List (Nat × Nat)
  | [], _ => fun _ _ => []
  | x :: xs, i => pairsIn x xs (pairsL xs (i + 1)) i
theorem pairsL_nil (xs : List ByteArray) (i j : Nat) : pairsL xs i j [] = [] := by cases xs <;> rfl
theorem pairsL_cons (x y : ByteArray) (xs ys : List ByteArray) (i j : Nat) : pairsL (x :: xs) i j (y :: ys) = if x = y then (i, j) :: pairsL xs (i + 1) (j + 1) ys else if lcsL (x :: xs) ys ≤ lcsL xs (y :: ys) then pairsL xs (i + 1) j (y :: ys) else pairsL (x :: xs) i (j + 1) ys := rfl
def pairsAt (a b : List ByteArray) (i j : Nat) : List (Nat × Nat) := pairsL (a.drop i) i j (b.drop j)
/-- The places of the longest list that both have. -/
def pairsF (a b : List ByteArray) : List (Nat × Nat) := pairsAt a b 0 0
theorem pairsAt_end_a (a b : List ByteArray) (i j : Nat) (h : a.length ≤ i) : pairsAt a b i j = [] := by unfold pairsAt; rw [List.drop_of_length_le h]; rfl
theorem pairsAt_end_b (a b : List ByteArray) (i j : Nat) (h : b.length ≤ j) : pairsAt a b i j = [] := by unfold pairsAt; rw [List.drop_of_length_le h]; exact pairsL_nil _ _ _
theorem pairsAt_step (a b : List ByteArray) {i j : Nat} (hi : i < a.length) (hj : j < b.length) : pairsAt a b i j = if a[i] = b[j] then (i, j) :: pairsAt a b (i + 1) (j + 1) else if lcsAt a b i (j + 1) ≤ lcsAt a b (i + 1) j then pairsAt a b (i + 1) j else pairsAt a b i (j + 1) := by
  unfold pairsAt lcsAt
  rw [List.drop_eq_getElem_cons hi, List.drop_eq_getElem_cons hj, pairsL_cons]

/-- Pairs of numbers as elements. -/
def EP : El (Nat × Nat) := ⟨fun p => [.int .i64 p.1, .int .i64 p.2], 2, fun _ => rfl, fun x u hu => by simp only [List.mem_cons, List.not_mem_nil, or_false] at hu; rcases hu with rfl | rfl <;> rfl⟩
theorem tiP : TI EP Tryz.prog 258 260 16 :=
  TI.mk' (z := .agg #[.int .i64 0, .int .i64 0]) Tryz.underlying258 (by kernel_rfl) (by rfl) (by decide)
theorem RdA.pair {S : Fp} {w : World} {A : Option Addr} {xs : List (Nat × Nat)} (h : RdA EP S w A xs) {i : Nat} (hi : i < xs.length) :
    ∃ b off, A = some ⟨b, off, none⟩ ∧ S b ∧ b < w.heap.size ∧ w.cell? ⟨b, off + i * 2, none⟩ = some (.int .i64 xs[i].1) ∧ w.cell? ⟨b, off + i * 2 + 1, none⟩ = some (.int .i64 xs[i].2) := by
  obtain ⟨b, off, hA, hs, hb, hc⟩ := h.at_ hi
  exact ⟨b, off, hA, hs, hb, hc 0 _ rfl, hc 1 _ rfl⟩

set_option maxHeartbeats 2000000 in
set_option maxRecDepth 100000 in
/-- diff.Pairs. -/
theorem pairs_calls (v u : Value) (xs ys : List ByteArray) (S T : Fp) (w : World) (hA : Rd ES S w v xs) (hB : Rd ES T w u ys) (h1 : xs.length ≤ 400) (h2 : ys.length ≤ 400) :
    Calls Tryz.prog 248 #[v, u] w fun e w' => ∃ r, e = .returned r ∧ New EP 260 w.heap.size w' r (pairsF xs ys) ∧ Ext w w' := by
  obtain ⟨A1, c1, rfl, hO1⟩ := hA.open_
  obtain ⟨A2, c2, rfl, hO2⟩ := hB.open_
  have hTab := table_calls _ _ xs ys S T w hA hB h1 h2
  obtain ⟨na, hna⟩ : ∃ n, xs.length = n := ⟨_, rfl⟩
  obtain ⟨nb, hnb⟩ : ∃ n, ys.length = n := ⟨_, rfl⟩
  rw [hna] at h1 hTab ⊢
  rw [hnb] at h2 hTab ⊢
  have HNA := Lib.hid hna
  have HNB := Lib.hid hnb
  have HTB := Lib.hid hTab
  have HA := Lib.hid fun W (hW : Ext w W) => hO1.kp (hW.mono fun _ _ _ => trivial)
  have HB := Lib.hid fun W (hW : Ext w W) => hO2.kp (hW.mono fun _ _ _ => trivial)
  clear hA hB hO1 hO2 hna hnb hTab
  go_enter Tryz.func248, Tryz.ntmps248
  go_wp2_with fail
  refine (long_calls _ _ na nb _ _ h1 h2 w).mono ?_
  rintro e w' ⟨rfl, rfl⟩
  go_wp2_with fail
  refine HTB.out.mono ?_
  clear HTB
  rintro e w1 ⟨rfl, hT, hx1, hsz⟩
  have HT := Lib.hid fun W (hW : Ext w1 W) => hT.kp hW (fun _ _ _ => trivial)
  have HMA : Hid (∃ ma, na + 1 = ma) := Lib.hid ⟨_, rfl⟩
  obtain ⟨ma, hma⟩ := HMA.out
  obtain ⟨mb, hmb⟩ : ∃ mb, nb + 1 = mb := ⟨_, rfl⟩
  rw [hma, hmb] at HT
  rw [hma]
  have HA1 := Lib.hid hma
  have HB1 := Lib.hid hmb
  clear hT hsz hma hmb HMA
  go_wp2_with fail
  go_loopw [6, 7, 8] (fun l i j wr => ∃ (p q : Nat) (acc : List (Nat × Nat)), p ≤ na ∧ q ≤ nb ∧ i = .int .i64 p ∧ j = .int .i64 q ∧ acc.length ≤ p ∧ pairsF xs ys = acc ++ pairsAt xs ys p q ∧ New EP 260 w1.heap.size wr l acc ∧ Ext w1 wr) (fun l i j _ => (na - (intOf i).toNat) + (nb - (intOf j).toNat))
  case atStart => exact ⟨0, 0, [], Nat.zero_le _, Nat.zero_le _, rfl, rfl, Nat.le_refl _, rfl, New.nil _ _ _, Kp.refl _ _⟩
  case round =>
    obtain ⟨p, q, acc, hp, hq, rfl, rfl, hal, hpa, hN, hx⟩ := hrel
    rename World => wo
    obtain ⟨Ao, no, co, hl⟩ := hN.1.slice
    subst hl
    have HPA := Lib.hid hpa
    clear hpa
    by_cases hlp : p < na
    · have hd1 : decide ((p : Int) < (na : Int)) = true := decide_eq_true (by omega)
      by_cases hlq : q < nb
      · have hd2 : decide ((q : Int) < (nb : Int)) = true := decide_eq_true (by omega)
        have hpx : p < xs.length := by have := HNA.out; omega
        have hqx : q < ys.length := by have := HNB.out; omega
        obtain ⟨b1, o1, rfl, _, hb1, c0⟩ := (HA.out wo (hx1.trans hx)).rd.text hpx
        obtain ⟨b2, o2, rfl, _, hb2, d0⟩ := (HB.out wo (hx1.trans hx)).rd.text hqx
        have HST := Lib.hid (pairsAt_step xs ys hpx hqx)
        obtain ⟨x, hxx⟩ : ∃ x, xs[p] = x := ⟨_, rfl⟩
        obtain ⟨y, hyy⟩ : ∃ y, ys[q] = y := ⟨_, rfl⟩
        rw [hxx] at c0 HST
        rw [hyy] at d0 HST
        have i1 : (0 : Int) ≤ (p : Int) := by omega
        have i2 : (p : Int) < (na : Int) := by omega
        have i3 : (0 : Int) ≤ (q : Int) := by omega
        have i4 : (q : Int) < (nb : Int) := by omega
        clear hxx hyy hpx hqx
        go_wp2_with fail
        go_quiet (fail)
        have hx' : Ext w1 (wo.drewN nq) := hx.drewN nq
        have hN' : New EP 260 w1.heap.size (wo.drewN nq) (.slice Ao no co) acc := hN.ext ((Kp.refl _ wo).drewN nq)
        clear hx hN c0 d0
        generalize wo.drewN nq = wq at hx' hN' ⊢
        cases hxy : (x.toList == y.toList) with
        | true =>
          have HE : Hid (pairsF xs ys = (acc ++ [(p, q)]) ++ pairsAt xs ys (p + 1) (q + 1)) := Lib.hid (by
            have h := HST.out
            rw [if_pos (toList_inj (by simpa using hxy))] at h
            rw [HPA.out, h]; simp)
          clear HST HPA
          go_wp2_with (at_builtin; refine stop ?_)
          refine list_append1 (u := .slice (some ⟨wq.heap.size, 0, none⟩) 1 1) tiP (p, q) rfl rfl rfl hN' hx' rfl rfl rfl (by omega) (by unfold maxLen; omega) ?_
          intro v' w' hN2 hx2
          obtain ⟨A3, n3, c3, hv3⟩ := hN2.1.slice
          subst hv3
          have HL : Hid ((acc ++ [(p, q)]).length ≤ p + 1) := Lib.hid (by rw [List.length_append]; simp; omega)
          obtain ⟨ac2, hac⟩ : ∃ l, acc ++ [(p, q)] = l := ⟨_, rfl⟩
          rw [hac] at HE HL hN2
          clear hN' hx' hac hal
          go_wp2_with fail
          go_roundw
          case rel => exact ⟨p + 1, q + 1, ac2, by omega, by omega, by go_num, by go_num, HL.out, HE.out, hN2, hx2⟩
          case measure => simp [intOf]; omega
        | false =>
          have HNE : Hid (¬ x = y) := Lib.hid fun e => by rw [e] at hxy; simp at hxy
          have T1 := (HT.out wq hx').cellH (i := p) (by have := HA1.out; omega)
          have T2 := (HT.out wq hx').cellH (i := p + 1) (by have := HA1.out; omega)
          have T3 := (HT.out wq hx').cellR (i := p + 1) (j := q) (by have := HA1.out; omega) (by have := HB1.out; omega)
          have T4 := (HT.out wq hx').cellR (i := p) (j := q + 1) (by have := HA1.out; omega) (by have := HB1.out; omega)
          have HST2 := HST
          obtain ⟨L1, hL1⟩ : ∃ L, lcsAt xs ys (p + 1) q = L := ⟨_, rfl⟩
          obtain ⟨L2, hL2⟩ : ∃ L, lcsAt xs ys p (q + 1) = L := ⟨_, rfl⟩
          rw [hL1] at T3 HST2
          rw [hL2] at T4 HST2
          have j1 : (0 : Int) ≤ (p : Int) + 1 := by omega
          have j2 : (p : Int) + 1 < (ma : Int) := by have := HA1.out; omega
          have j3 : (0 : Int) ≤ (q : Int) + 1 := by omega
          have j4 : (q : Int) + 1 < (mb : Int) := by have := HB1.out; omega
          have j5 : (p : Int) < (ma : Int) := by omega
          have j6 : (q : Int) < (mb : Int) := by omega
          have t1 : ((p : Int) + 1).toNat = p + 1 := by omega
          have t2 : ((q : Int) + 1).toNat = q + 1 := by omega
          have b1' : -9223372036854775808 ≤ (p : Int) + 1 ∧ (p : Int) + 1 ≤ 9223372036854775807 := by omega
          have b2' : -9223372036854775808 ≤ (q : Int) + 1 ∧ (q : Int) + 1 ≤ 9223372036854775807 := by omega
          have HE : Hid (pairsF xs ys = acc ++ (if L2 ≤ L1 then pairsAt xs ys (p + 1) q else pairsAt xs ys p (q + 1))) := Lib.hid (by
            have h := HST2.out
            rw [if_neg HNE.out] at h
            rw [HPA.out, h])
          clear HST HST2 HPA HNE hL1 hL2
          by_cases hll : L2 ≤ L1
          · have hd3 : decide ((L2 : Int) ≤ (L1 : Int)) = true := decide_eq_true (by omega)
            have HE2 : Hid (pairsF xs ys = acc ++ pairsAt xs ys (p + 1) q) := Lib.hid (by rw [HE.out, if_pos hll])
            have hd4 : decide (L2 ≤ L1) = true := decide_eq_true hll
            clear HE
            go_wp2_with fail
            have w1' : IntKind.i64.wrap ((p : Int) + 1) = (p : Int) + 1 := IntWalk.i64_in _ b1'
            have w2' : IntKind.i64.wrap ((q : Int) + 1) = (q : Int) + 1 := IntWalk.i64_in _ b2'
            go_quiet (fail)
            clear w1' w2' b1' b2'
            go_wp2_with fail
            go_roundw
            case rel => exact ⟨p + 1, q, acc, by omega, by omega, by go_num, by go_num, by omega, HE2.out, hN'.ext ((Kp.refl _ wq).drewN _), hx'.drewN _⟩
            case measure => simp [intOf]; omega
          · have hd3 : decide ((L2 : Int) ≤ (L1 : Int)) = false := decide_eq_false (by omega)
            have hd4 : decide (L2 ≤ L1) = false := decide_eq_false hll
            have hd5 : ¬ L2 ≤ L1 := hll
            have HE2 : Hid (pairsF xs ys = acc ++ pairsAt xs ys p (q + 1)) := Lib.hid (by rw [HE.out, if_neg hll])
            clear HE
            go_wp2_with fail
            have w1' : IntKind.i64.wrap ((p : Int) + 1) = (p : Int) + 1 := IntWalk.i64_in _ b1'
            have w2' : IntKind.i64.wrap ((q : Int) + 1) = (q : Int) + 1 := IntWalk.i64_in _ b2'
            go_quiet (fail)
            clear w1' w2' b1' b2'
            go_wp2_with fail
            go_roundw
            case rel => exact ⟨p, q + 1, acc, by omega, by omega, by go_num, by go_num, by omega, HE2.out, hN'.ext ((Kp.refl _ wq).drewN _), hx'.drewN _⟩
            case measure => simp [intOf]; omega
      · have hd2 : decide ((q : Int) < (nb : Int)) = false := decide_eq_false (by omega)
        have hfin := HPA.out
        rw [pairsAt_end_b _ _ _ _ (by have := HNB.out; omega), List.append_nil] at hfin
        have HF := Lib.hid hfin
        clear hfin
        go_wp2_with fail
        go_ret
        exact ⟨_, rfl, by rw [HF.out]; exact hN.less hx1.size, hx1.trans hx⟩
    · have hd1 : decide ((p : Int) < (na : Int)) = false := decide_eq_false (by omega)
      have hfin := HPA.out
      rw [pairsAt_end_a _ _ _ _ (by have := HNA.out; omega), List.append_nil] at hfin
      have HF := Lib.hid hfin
      clear hfin
      go_wp2_with fail
      go_ret
      exact ⟨_, rfl, by rw [HF.out]; exact hN.less hx1.size, hx1.trans hx⟩

end Go.Proofs.YtgjbfkaepalkiaaGreatDoor
