/-
  cortegelaw8.PatchBack.
-/
import Derived.Test.YtinafpbdlblcaaaDoorTurn
import Derived.Test.YtinafpbdlblcaaaDoorAwake8
import Derived.Test.YtinafpbdlblcaaaDoorMay2
namespace Go.Proofs.YtinafpbdlblcaaaDoor
open Go.RowKit
set_option linter.unusedVariables false
set_option linter.unusedSimpArgs false
attribute [local go_sem] Oper.semAt_some

set_option maxHeartbeats 4000000 in
set_option maxRecDepth 100000 in
theorem back8_calls (va vb : Value) (xs ys : List File) (S : Fp) (w : World) (hA : Rd EF S w va xs) (hB : Rd EF S w vb ys) :
    Calls Tryd.prog 9 #[va, vb] w fun e w' => e = .returned (.bool true) ∧ Ext w w' := by
  have HG1 := Lib.hid (greatFiles_calls va xs 12 S w hA (by omega))
  have HG2 := Lib.hid (greatFiles_calls vb ys 12 S w hB (by omega))
  obtain ⟨A1, c1, ha, hO1⟩ := hA.open_
  obtain ⟨A2, c2, hb, hO2⟩ := hB.open_
  subst ha hb
  obtain ⟨n1, hn1⟩ : ∃ n, xs.length = n := ⟨_, rfl⟩
  obtain ⟨n2, hn2⟩ : ∃ n, ys.length = n := ⟨_, rfl⟩
  rw [hn1] at hA HG1 ⊢
  rw [hn2] at hB HG2 ⊢
  have H1 := Lib.hid hn1
  have H2 := Lib.hid hn2
  have HO1 := Lib.hid hO1
  have HO2 := Lib.hid hO2
  have HA := Lib.hid fun W (hW : Ext w W) => hA.kp (hW.mono fun _ _ _ => trivial)
  have HB := Lib.hid fun W (hW : Ext w W) => hB.kp (hW.mono fun _ _ _ => trivial)
  clear hn1 hn2 hA hB hO1 hO2
  go_enter Tryd.func9, Tryd.ntmps9
  go_wp2_with fail
  refine HG1.out.mono ?_
  rintro e w1 ⟨rfl, rfl⟩
  cases e1 : greatB xs 12 with
  | true =>
    go_wp2_with fail
    refine (awake8_calls w).mono ?_
    rintro e wz ⟨rfl, hxz⟩
    go_wp2_with fail
    go_ret
    exact ⟨rfl, hxz⟩
  | false =>
    have hl1 := (greatB_false e1).1
    have HP1 := Lib.hid (greatB_false e1).2
    rw [H1.out] at hl1
    clear e1 HG1
    go_wp2_with fail
    refine HG2.out.mono ?_
    rintro e w1 ⟨rfl, rfl⟩
    cases e2 : greatB ys 12 with
    | true =>
      go_wp2_with fail
      refine (awake8_calls w).mono ?_
      rintro e wz ⟨rfl, hxz⟩
      go_wp2_with fail
      go_ret
      exact ⟨rfl, hxz⟩
    | false =>
      have hl2 := (greatB_false e2).1
      have HP2 := Lib.hid (greatB_false e2).2
      rw [H2.out] at hl2
      clear e2 HG2
      go_wp2_with fail
      refine (may_calls _ xs _ w (HA.out w (Kp.refl _ w)) (by rw [H1.out]; omega) (fun y hy => by have := (HP1.out y hy).1; omega)).mono ?_
      rintro e m1 ⟨rfl, hm1⟩
      cases t1 : mayB xs with
      | false =>
        go_wp2_with fail
        refine (awake8_calls m1).mono ?_
        rintro e wz ⟨rfl, hxz⟩
        go_wp2_with fail
        go_ret
        exact ⟨rfl, hm1.trans hxz⟩
      | true =>
        have T1 := Lib.hid ((mayB_iff _).1 t1).rise
        have hx1c : Ext w m1 := hm1
        clear hm1 t1
        go_wp2_with fail
        refine (may_calls _ ys _ m1 (HB.out m1 hx1c) (by rw [H2.out]; omega) (fun y hy => by have := (HP2.out y hy).1; omega)).mono ?_
        rintro e m2 ⟨rfl, hm2⟩
        cases t2 : mayB ys with
        | false =>
          go_wp2_with fail
          refine (awake8_calls m2).mono ?_
          rintro e wz ⟨rfl, hxz⟩
          go_wp2_with fail
          go_ret
          exact ⟨rfl, (hx1c.trans hm2).trans hxz⟩
        | true =>
          have T2 := Lib.hid ((mayB_iff _).1 t2).rise
          have hx2c : Ext w m2 := (hx1c.trans hm2)
          clear hm2 t2 hx1c
          have hlen := ofF_length xs ys
          rw [H1.out, H2.out] at hlen
          have F1 := apply_ofF T1.out T2.out
          have F2 := apply_turn T1.out T2.out
          have F3 := apply_other xs ys
          have F4 := ofF_turn xs ys
          have F5 := ofF_paths xs ys
          have F7 : sameB xs ys = decide ((ofF xs ys).length = 0) := by
            have h := ofF_self_iff T1.out T2.out
            have h2 := sameB_iff xs ys
            rw [Bool.eq_iff_iff, decide_eq_true_iff, List.length_eq_zero_iff, h, h2]
          obtain ⟨cs, hcs⟩ : ∃ cs, ofF xs ys = cs := ⟨_, rfl⟩
          rw [hcs] at hlen F1 F2 F3 F4 F5 F7
          obtain ⟨m, hm⟩ : ∃ m, cs.length = m := ⟨_, rfl⟩
          rw [hm] at hlen F3 F7
          obtain ⟨zb, hzb⟩ : ∃ zb, decide (m = 0) = zb := ⟨_, rfl⟩
          rw [hzb] at F3 F7
          have z1 : decide ((m : Int) = 0) = zb := by rw [← hzb]; simp
          have z2 : ((m : Int) == 0) = zb := by rw [← z1]; rfl
          have z3 : (m == 0) = zb := by rw [← hzb]; rfl
          have HF1 := Lib.hid F1
          have HF2 := Lib.hid F2
          have HF3 := Lib.hid F3
          have HF4 := Lib.hid F4
          have HF5 := Lib.hid F5
          have HF7 := Lib.hid F7
          have HCS := Lib.hid hcs
          have HM := Lib.hid hm
          have HZ := Lib.hid hzb
          have HTL : Hid ((cs.map Ch.turn).reverse.length = m) := Lib.hid (by simp [hm])
          have hm24 : m ≤ 24 := by omega
          clear F1 F2 F3 F4 F5 F7 hcs hm hlen hzb
          go_wp2_with fail
          refine (of_patch_calls _ _ xs ys _ _ m2 (HA.out m2 hx2c) (HB.out m2 hx2c) (by rw [H1.out]; omega) (by rw [H2.out]; omega)).mono ?_
          rintro e w2 ⟨o1, rfl, hO1, hx2⟩
          rw [HCS.out] at hO1
          obtain ⟨Ao1, co1, hvo1, hOp1⟩ := hO1.rd.open_
          subst hvo1
          rw [HM.out] at hO1 ⊢
          have hx2d := hx2c.trans hx2
          have HC := Lib.hid fun W (hW : Ext w2 W) => hO1.ext hW
          have HCO := Lib.hid fun W (hW : Ext w2 W) => hOp1.kp (hW.mono fun _ _ _ => trivial)
          clear hO1 hOp1 hx2
          go_wp2_with fail
          refine (apply_calls _ _ xs cs _ _ w2 (HA.out w2 hx2d) (HC.out w2 (Kp.refl _ _)).rd (by rw [H1.out]; omega) (by rw [HM.out]; omega) (applyF_small (by rw [H1.out, HM.out]; omega))).mono ?_
          rintro e w3 ⟨r1, rfl, hR1, hx3⟩
          rw [HF1.out] at hR1 ⊢
          obtain ⟨Ar1, nr1, cr1, hvr1⟩ := hR1.1.slice
          subst hvr1
          go_wp2_with fail
          refine (turn_calls _ cs _ w3 (HC.out w3 hx3).rd (by rw [HM.out]; omega)).mono ?_
          rintro e w4 ⟨o2, rfl, hO2, hx4⟩
          obtain ⟨Ao2, co2, hvo2, _⟩ := hO2.rd.open_
          subst hvo2
          rw [HTL.out] at hO2 ⊢
          have hx24 := hx3.trans hx4
          go_wp2_with fail
          refine (apply_calls _ _ ys _ _ _ w4 (HB.out w4 (hx2d.trans hx24)) hO2.rd (by rw [H2.out]; omega) (by rw [HTL.out]; omega) (applyF_small (by rw [H2.out, HTL.out]; omega))).mono ?_
          rintro e w5 ⟨r2, rfl, hR2, hx5⟩
          rw [HF2.out] at hR2 ⊢
          obtain ⟨Ar2, nr2, cr2, hvr2⟩ := hR2.1.slice
          subst hvr2
          have hx25 := hx24.trans hx5
          have hR15 := (hR1.ext hx4).ext hx5
          clear hO2 hx3 hx4 hx5 hx24 hR1
          go_wp2_with fail
          refine (apply_calls _ _ ys cs _ _ w5 (HB.out w5 (hx2d.trans hx25)) (HC.out w5 hx25).rd (by rw [H2.out]; omega) (by rw [HM.out]; omega) (applyF_small (by rw [H2.out, HM.out]; omega))).mono ?_
          rintro e w6 ⟨r3, rfl, hR3, hx6⟩
          rw [HF3.out]
          obtain ⟨Ar3, nr3, cr3, hvr3⟩ := hR3.1.slice
          subst hvr3
          have hx26 := hx25.trans hx6
          have hR16 := hR15.ext hx6
          have hR26 := hR2.ext hx6
          clear hR3 hx6 hx25 hR15 hR2
          go_wp2_with fail
          refine (sameFiles_calls _ _ ys ys _ _ w6 hR16.rd (HB.out w6 (hx2d.trans hx26))).mono ?_
          rintro e w7 ⟨rfl, hx7⟩
          rw [sameB_refl]
          have hx27 := hx26.trans hx7
          have hR27 := hR26.ext hx7
          clear hR16 hR26 hx26 hx7
          go_wp2_with fail
          refine (sameFiles_calls _ _ xs xs _ _ w7 hR27.rd (HA.out w7 (hx2d.trans hx27))).mono ?_
          rintro e w8 ⟨rfl, hx8⟩
          rw [sameB_refl]
          have hx28 := hx27.trans hx8
          clear hR27 hx27 hx8
          go_wp2_with fail
          refine (sameFiles_calls _ _ xs ys _ _ w8 (HA.out w8 (hx2d.trans hx28)) (HB.out w8 (hx2d.trans hx28))).mono ?_
          rintro e w9 ⟨rfl, hx9⟩
          rw [HF7.out]
          have hx29 := hx28.trans hx9
          clear hx28 hx9
          go_wp2_with fail
          refine (turn_calls _ cs _ w9 (HC.out w9 hx29).rd (by rw [HM.out]; omega)).mono ?_
          rintro e w10 ⟨o4, rfl, hO4, hx10⟩
          obtain ⟨Ao4, co4, hvo4, hOp4⟩ := hO4.rd.open_
          subst hvo4
          rw [HTL.out]
          go_wp2_with fail
          refine (of_patch_calls _ _ ys xs _ _ w10 (HB.out w10 (hx2d.trans (hx29.trans hx10))) (HA.out w10 (hx2d.trans (hx29.trans hx10))) (by rw [H2.out]; omega) (by rw [H1.out]; omega)).mono ?_
          rintro e w11 ⟨o5, rfl, hO5, hx11⟩
          rw [HF4.out] at hO5
          obtain ⟨Ao5, co5, hvo5, hOp5⟩ := hO5.rd.open_
          subst hvo5
          have hml : (cs.map Ch.turn).length = m := by rw [List.length_map, HM.out]
          rw [hml]
          have HML := Lib.hid hml
          have hx211 := (hx29.trans hx10).trans hx11
          have P1 := Lib.hid fun W (hW : Ext w11 W) => HCO.out W (hx211.trans hW)
          have P2 := Lib.hid fun W (hW : Ext w11 W) => hOp4.kp ((hx11.trans hW).mono fun _ _ _ => trivial)
          have P3 := Lib.hid fun W (hW : Ext w11 W) => hOp5.kp (hW.mono fun _ _ _ => trivial)
          have hxw11 := hx2d.trans hx211
          clear hO4 hOp4 hO5 hOp5 hml hx29 hx10 hx11 hx211 hx2d hx2c HC HCO z1 z2 z3
          go_wp2_with fail
          go_loopw [14] (fun i wr => ∃ k : Nat, k ≤ m ∧ i = .int .i64 k ∧ Ext w11 wr) (fun i _ => m - (intOf i).toNat)
          case atStart => exact ⟨0, Nat.zero_le _, rfl, Kp.refl _ _⟩
          case round =>
            obtain ⟨k, hk, rfl, hx⟩ := hrel
            rename World => wo
            by_cases hlt : k < m
            · have hd3 : decide ((k : Int) < (m : Int)) = true := decide_eq_true (by omega)
              obtain ⟨j, hj⟩ : ∃ j, m - 1 - k = j := ⟨_, rfl⟩
              have hkc : k < cs.length := by have := HM.out; omega
              have hkt : k < (cs.map Ch.turn).length := by have := HML.out; omega
              have hjr : j < (cs.map Ch.turn).reverse.length := by have := HTL.out; omega
              obtain ⟨b1, f1, rfl, _, hb1, c0, c1, c2, c3, c4⟩ := (P1.out wo hx).rd.ch hkc
              obtain ⟨b2, f2, rfl, _, hb2, d0, d1, d2, d3, d4⟩ := (P2.out wo hx).rd.ch hjr
              obtain ⟨b3, f3, rfl, _, hb3, e0, e1, e2, e3, e4⟩ := (P3.out wo hx).rd.ch hkt
              have hje : (cs.map Ch.turn).reverse[j] = cs[k].turn := by
                rw [List.getElem_reverse, List.getElem_map]
                congr 2
                have := HML.out; omega
              have hke : (cs.map Ch.turn)[k] = cs[k].turn := by rw [List.getElem_map]
              rw [hje] at d0 d1 d2 d3 d4
              rw [hke] at e0 e1 e2 e3 e4
              obtain ⟨ch, hch⟩ : ∃ ch, cs[k] = ch := ⟨_, rfl⟩
              have HCH : Hid (cs[k]? = some ch) := Lib.hid (by rw [List.getElem?_eq_getElem hkc, hch])
              rw [hch] at c0 c1 c2 c3 c4 d0 d1 d2 d3 d4 e0 e1 e2 e3 e4
              clear hje hke hch hkt hjr hkc
              obtain ⟨cp, cw, ci, co, cn⟩ := ch
              simp only [Ch.turn] at c0 c1 c2 c3 c4 d0 d1 d2 d3 d4 e0 e1 e2 e3 e4
              have hlt' : (k : Int) < (m : Int) := by omega
              have h0 : (0 : Int) ≤ (k : Int) := by omega
              have hw : IntKind.i64.wrap ((k : Int) + 1) = (k : Int) + 1 := IntWalk.i64_in _ (by omega)
              have hjj : (m : Int) - 1 - (k : Int) = (j : Int) := by omega
              have hj0 : (0 : Int) ≤ (j : Int) := by omega
              have hjm : (j : Int) < (m : Int) := by omega
              have hcx := fun W => run_neq_ch ⟨cp, ci, cw, cn, co⟩ ⟨cp, ci, cw, cn, co⟩ W
              rw [(chB_iff _ _).2 rfl] at hcx
              dsimp only at hcx
              have hgd := fun (x y : Operand) (W : World) => run_eqGuard_agg (P := Tryd.prog) W .neq 57 x y #[.string cp, .bool ci, .bool cw, .string cn, .string co] #[.string cp, .bool ci, .bool cw, .string cn, .string co] (by kernel_rfl)
              by_cases hk0 : k = 0
              · have hd4 : decide ((0 : Int) < (k : Int)) = false := decide_eq_false (by omega)
                have hd5 : decide (0 < k) = false := decide_eq_false (by omega)
                have HK0 := Lib.hid hk0
                clear hk0 hj HF1 HF2 HF3 HF4 HF7 HCS HZ HML HTL P1 P2 P3 hcx hgd
                go_wp2_with fail
                have hxa : Ext wo (wo.alloc (.cells #[.string cp, .bool ci, .bool cw, .string cn, .string co] 57)) := (Kp.refl _ wo).alloc _
                have hBx := Blk.new wo 57 #[.string cp, .bool ci, .bool cw, .string cn, .string co]
                have g0 := (hxa.cell (p := ⟨b1, f1 + k * 5, none⟩) hb1 trivial).trans c0
                have g1 := (hxa.cell (p := ⟨b1, f1 + k * 5 + 1, none⟩) hb1 trivial).trans c1
                have g2 := (hxa.cell (p := ⟨b1, f1 + k * 5 + 2, none⟩) hb1 trivial).trans c2
                have g3 := (hxa.cell (p := ⟨b1, f1 + k * 5 + 3, none⟩) hb1 trivial).trans c3
                have g4 := (hxa.cell (p := ⟨b1, f1 + k * 5 + 4, none⟩) hb1 trivial).trans c4
                have i0 := (hxa.cell (p := ⟨b3, f3 + k * 5, none⟩) hb3 trivial).trans e0
                have i1 := (hxa.cell (p := ⟨b3, f3 + k * 5 + 1, none⟩) hb3 trivial).trans e1
                have i2 := (hxa.cell (p := ⟨b3, f3 + k * 5 + 2, none⟩) hb3 trivial).trans e2
                have i3 := (hxa.cell (p := ⟨b3, f3 + k * 5 + 3, none⟩) hb3 trivial).trans e3
                have i4 := (hxa.cell (p := ⟨b3, f3 + k * 5 + 4, none⟩) hb3 trivial).trans e4
                have hxq := hx.trans hxa
                clear c0 c1 c2 c3 c4 d0 d1 d2 d3 d4 e0 e1 e2 e3 e4 hxa hx hb1 hb2 hb3
                generalize (wo.alloc (.cells #[.string cp, .bool ci, .bool cw, .string cn, .string co] 57)) = wq at hBx g0 g1 g2 g3 g4 i0 i1 i2 i3 i4 hxq ⊢
                have j0 : wq.cell? ⟨wo.heap.size, 0, none⟩ = some (.string cp) := hBx.cell 0
                have j1 : wq.cell? ⟨wo.heap.size, 1, none⟩ = some (.bool ci) := hBx.cell 1
                have j2 : wq.cell? ⟨wo.heap.size, 2, none⟩ = some (.bool cw) := hBx.cell 2
                have j3 : wq.cell? ⟨wo.heap.size, 3, none⟩ = some (.string cn) := hBx.cell 3
                have j4 : wq.cell? ⟨wo.heap.size, 4, none⟩ = some (.string co) := hBx.cell 4
                have hcx := fun W => run_neq_ch ⟨cp, ci, cw, cn, co⟩ ⟨cp, ci, cw, cn, co⟩ W
                rw [(chB_iff _ _).2 rfl] at hcx
                dsimp only [Bool.not_true] at hcx
                have hgd := fun (x y : Operand) (W : World) => run_eqGuard_agg (P := Tryd.prog) W .neq 57 x y #[.string cp, .bool ci, .bool cw, .string cn, .string co] #[.string cp, .bool ci, .bool cw, .string cn, .string co] (by kernel_rfl)
                clear hBx
                try simp only [List.append_eq, List.cons_append, List.nil_append]
                go_quiet (fail)
                clear g0 g1 g2 g3 g4 i0 i1 i2 i3 i4 j0 j1 j2 j3 j4 hcx hgd
                go_wp2_with fail
                go_roundw
                case rel => exact ⟨k + 1, by omega, by go_num, hxq.drewN nq⟩
                case measure => simp [intOf]; omega
              · have hd4 : decide ((0 : Int) < (k : Int)) = true := decide_eq_true (by omega)
                have hd5 : decide (0 < k) = true := decide_eq_true (by omega)
                have hk00 : 0 < k := by omega
                obtain ⟨k', hkk⟩ : ∃ k', k - 1 = k' := ⟨_, rfl⟩
                have hkc : k' < cs.length := by have := HM.out; omega
                have hk1 : (k : Int) - 1 = (k' : Int) := by omega
                have hk2 : (0 : Int) ≤ (k' : Int) := by omega
                have hk3 : (k' : Int) < (m : Int) := by omega
                obtain ⟨b4, f4, hb4, _, _, q0, q9⟩ := (P1.out wo hx).rd.ch hkc
                injection hb4 with hb4
                injection hb4 with hb4 hf4
                subst hb4 hf4
                clear q9
                obtain ⟨cq, hcq⟩ : ∃ cq, cs[k'].path = cq := ⟨_, rfl⟩
                rw [hcq] at q0
                have hlb : ltB cq cp = true := by
                  have h5 := List.pairwise_iff_getElem.1 (List.pairwise_map.1 HF5.out) k' k hkc (by have := HM.out; omega) (by omega)
                  have h6 := HCH.out
                  rw [List.getElem?_eq_getElem (by have := HM.out; omega)] at h6
                  injection h6 with h6
                  rw [h6, hcq] at h5
                  exact h5
                have hlb' : Op.bytesLess cq.toList cp.toList = true := hlb
                have HK0 := Lib.hid hk0
                clear hk0 hj hkk hkc hcq HF1 HF2 HF3 HF4 HF7 HCS HZ HML HTL P1 P2 P3 hcx hgd
                go_wp2_with fail
                have hxa : Ext wo (wo.alloc (.cells #[.string cp, .bool ci, .bool cw, .string cn, .string co] 57)) := (Kp.refl _ wo).alloc _
                have hBx := Blk.new wo 57 #[.string cp, .bool ci, .bool cw, .string cn, .string co]
                have g0 := (hxa.cell (p := ⟨b1, f1 + k * 5, none⟩) hb1 trivial).trans c0
                have g1 := (hxa.cell (p := ⟨b1, f1 + k * 5 + 1, none⟩) hb1 trivial).trans c1
                have g2 := (hxa.cell (p := ⟨b1, f1 + k * 5 + 2, none⟩) hb1 trivial).trans c2
                have g3 := (hxa.cell (p := ⟨b1, f1 + k * 5 + 3, none⟩) hb1 trivial).trans c3
                have g4 := (hxa.cell (p := ⟨b1, f1 + k * 5 + 4, none⟩) hb1 trivial).trans c4
                have o0 := (hxa.cell (p := ⟨b1, f1 + k' * 5, none⟩) hb1 trivial).trans q0
                have i0 := (hxa.cell (p := ⟨b3, f3 + k * 5, none⟩) hb3 trivial).trans e0
                have i1 := (hxa.cell (p := ⟨b3, f3 + k * 5 + 1, none⟩) hb3 trivial).trans e1
                have i2 := (hxa.cell (p := ⟨b3, f3 + k * 5 + 2, none⟩) hb3 trivial).trans e2
                have i3 := (hxa.cell (p := ⟨b3, f3 + k * 5 + 3, none⟩) hb3 trivial).trans e3
                have i4 := (hxa.cell (p := ⟨b3, f3 + k * 5 + 4, none⟩) hb3 trivial).trans e4
                have hxq := hx.trans hxa
                clear q0 c0 c1 c2 c3 c4 d0 d1 d2 d3 d4 e0 e1 e2 e3 e4 hxa hx hb1 hb2 hb3
                generalize (wo.alloc (.cells #[.string cp, .bool ci, .bool cw, .string cn, .string co] 57)) = wq at hBx o0 g0 g1 g2 g3 g4 i0 i1 i2 i3 i4 hxq ⊢
                have j0 : wq.cell? ⟨wo.heap.size, 0, none⟩ = some (.string cp) := hBx.cell 0
                have j1 : wq.cell? ⟨wo.heap.size, 1, none⟩ = some (.bool ci) := hBx.cell 1
                have j2 : wq.cell? ⟨wo.heap.size, 2, none⟩ = some (.bool cw) := hBx.cell 2
                have j3 : wq.cell? ⟨wo.heap.size, 3, none⟩ = some (.string cn) := hBx.cell 3
                have j4 : wq.cell? ⟨wo.heap.size, 4, none⟩ = some (.string co) := hBx.cell 4
                have hcx := fun W => run_neq_ch ⟨cp, ci, cw, cn, co⟩ ⟨cp, ci, cw, cn, co⟩ W
                rw [(chB_iff _ _).2 rfl] at hcx
                dsimp only [Bool.not_true] at hcx
                have hgd := fun (x y : Operand) (W : World) => run_eqGuard_agg (P := Tryd.prog) W .neq 57 x y #[.string cp, .bool ci, .bool cw, .string cn, .string co] #[.string cp, .bool ci, .bool cw, .string cn, .string co] (by kernel_rfl)
                clear hBx
                try simp only [List.append_eq, List.cons_append, List.nil_append]
                go_quiet (fail)
                clear o0 g0 g1 g2 g3 g4 i0 i1 i2 i3 i4 j0 j1 j2 j3 j4 hcx hgd
                go_wp2_with fail
                go_roundw
                case rel => exact ⟨k + 1, by omega, by go_num, hxq.drewN nq⟩
                case measure => simp [intOf]; omega
            · have hd3 : decide ((k : Int) < (m : Int)) = false := decide_eq_false (by omega)
              go_wp2_with fail
              refine (awake8_calls wo).mono ?_
              rintro e wz ⟨rfl, hxz⟩
              go_wp2_with fail
              go_ret
              exact ⟨rfl, hxw11.trans (hx.trans hxz)⟩

end Go.Proofs.YtinafpbdlblcaaaDoor
