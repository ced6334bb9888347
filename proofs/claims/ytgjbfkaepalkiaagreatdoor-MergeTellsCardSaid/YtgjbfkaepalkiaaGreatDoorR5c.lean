/-
  cortegeref5: Parts.
-/
import Derived.Test.YtgjbfkaepalkiaaGreatDoorR5b
import Derived.Deep.RegionHeld3
import Derived.Deep.Cut
import Derived.Deep.CutBlock
namespace Go.Proofs.YtgjbfkaepalkiaaGreatDoor
open Go.RowKit
set_option linter.unusedVariables false
set_option linter.unusedSimpArgs false
attribute [local go_sem] Oper.semAt_some

theorem plV_some {f : Nat → Option Nat} {i j : Nat} (h : f i = some j) : plV f i = .int .i64 j := by unfold plV; rw [h]
theorem plV_none {f : Nat → Option Nat} {i : Nat} (h : f i = none) : plV f i = .int .i64 (-1) := by unfold plV; rw [h]

set_option maxHeartbeats 4000000 in
set_option maxRecDepth 100000 in
/-- Parts. -/
theorem parts5_calls (v1 v2 v3 : Value) (xs ys zs : List ByteArray) (S : Fp) (w : World) (hA : Rd ES S w v1 xs) (hB : Rd ES S w v2 ys) (hC : Rd ES S w v3 zs) (h1 : xs.length ≤ 400) (h2 : ys.length ≤ 400) (h3 : zs.length ≤ 400) :
    Calls Tryz.prog 219 #[v1, v2, v3] w fun e w' => ∃ r rows, e = .returned r ∧ New EPt 228 w.heap.size w' r rows ∧ RepR S w' rows (partsF xs ys zs) ∧ Ext w w' := by
  have hP1 := fun W (hW : Ext w W) => places5_calls v1 v2 xs ys S S W (hA.kp (hW.mono fun _ _ _ => trivial)) (hB.kp (hW.mono fun _ _ _ => trivial)) h1 h2
  have hP2 := fun W (hW : Ext w W) => places5_calls v1 v3 xs zs S S W (hA.kp (hW.mono fun _ _ _ => trivial)) (hC.kp (hW.mono fun _ _ _ => trivial)) h1 h3
  have HRD := Lib.hid fun W (hW : Ext w W) => And.intro (hA.kp (hW.mono fun _ _ _ => trivial)) (And.intro (hB.kp (hW.mono fun _ _ _ => trivial)) (hC.kp (hW.mono fun _ _ _ => trivial)))
  have HST := Lib.hid (rInv_start xs ys zs)
  have HXL := Lib.hid fun x y (h : plF xs ys x = some y) => plF_lt h
  have HYL := Lib.hid fun x y (h : plF xs zs x = some y) => plF_lt h
  obtain ⟨A1, c1, rfl, hO1⟩ := hA.open_
  obtain ⟨A2, c2, rfl, hO2⟩ := hB.open_
  obtain ⟨A3, c3, rfl, hO3⟩ := hC.open_
  have k1 := hO1.le
  have k2 := hO2.le
  have k3 := hO3.le
  obtain ⟨na, hna⟩ : ∃ n, xs.length = n := ⟨_, rfl⟩
  obtain ⟨nb, hnb⟩ : ∃ n, ys.length = n := ⟨_, rfl⟩
  obtain ⟨nc, hnc⟩ : ∃ n, zs.length = n := ⟨_, rfl⟩
  rw [hna] at hP1 hP2 HRD h1 k1 ⊢
  rw [hnb] at hP1 HRD h2 k2 ⊢
  rw [hnc] at hP2 HRD h3 k3 ⊢
  have NA := Lib.hid hna
  have NB := Lib.hid hnb
  have NC := Lib.hid hnc
  have P1 := Lib.hid hP1
  have P2 := Lib.hid hP2
  have OP := Lib.hid (And.intro hO1 (And.intro hO2 hO3))
  have hd1 : decide ((400 : Int) < (na : Int)) = false := decide_eq_false (by omega)
  have hd2 : decide ((400 : Int) < (nb : Int)) = false := decide_eq_false (by omega)
  have hd3 : decide ((400 : Int) < (nc : Int)) = false := decide_eq_false (by omega)
  clear hA hB hC hP1 hP2 hO1 hO2 hO3 hna hnb hnc
  go_enter Tryz.func219, Tryz.ntmps219
  go_wp2_with fail
  refine (P1.out w (Kp.refl _ _)).mono ?_
  rintro e w1 ⟨rfl, hBx, hx1⟩
  go_wp2_with fail
  refine (P2.out w1 hx1).mono ?_
  rintro e w2 ⟨rfl, hBy, hx2⟩
  replace hBx := hBx.ext hx2
  have hx02 := hx1.trans hx2
  obtain ⟨gx, hgx⟩ : ∃ g, w.heap.size = g := ⟨_, rfl⟩
  obtain ⟨gy, hgy⟩ : ∃ g, w1.heap.size = g := ⟨_, rfl⟩
  rw [hgx] at hBx ⊢
  rw [hgy] at hBy ⊢
  have HX := Lib.hid fun i (hi : i < na) W (hW : Ext w2 W) => show W.cell? ⟨gx, i, none⟩ = some (plV (plF xs ys) i) from by rw [(hBx.ext hW).cell i, rowOf_get _ hi]
  have HY := Lib.hid fun i (hi : i < na) W (hW : Ext w2 W) => show W.cell? ⟨gy, i, none⟩ = some (plV (plF xs zs) i) from by rw [(hBy.ext hW).cell i, rowOf_get _ hi]
  have HGX := Lib.hid hgx
  have hW2 := hx02.size
  rw [hgx] at hW2
  have HW2 := Lib.hid hW2
  clear hBx hBy hgx hgy hx1 hx2 hd1 hd2 hd3 P1 P2 hW2
  go_wp2_with fail
  go_loopw [9, 10, 11, 12] (fun lv o p q wr => ∃ (po pa pb : Nat) (S1 S2 : List Pl) (out : List Pt) (rows : List PtS), o = .int .i64 po ∧ p = .int .i64 pa ∧ q = .int .i64 pb ∧ Hid (RInv xs ys zs S1 S2 ⟨po, pa, pb⟩ out) ∧ New EPt 228 w2.heap.size wr lv rows ∧ Hid (RepR S w2 rows out) ∧ Ext w2 wr ∧ po ≤ na ∧ Hid (rows.length ≤ 2 * po)) (fun _ o _ _ _ => na - (intOf o).toNat)
  case atStart => exact ⟨0, 0, 0, [], _, [], [], rfl, rfl, rfl, HST, New.nil _ _ _, Lib.hid trivial, Kp.refl _ _, Nat.zero_le _, Lib.hid (Nat.zero_le _)⟩
  case round =>
    obtain ⟨po, pa, pb, S1, S2, out, rows, rfl, rfl, rfl, HI, hN, HRP, hx, hpo, HOL⟩ := hrel
    rename World => wo
    obtain ⟨Al, nl, cl, hlv⟩ := hN.1.slice
    subst hlv
    go_wp2_with fail
    go_loopw [13] (fun kk wr => ∃ j : Nat, po ≤ j ∧ j ≤ na ∧ kk = .int .i64 j ∧ Hid (∀ i, po ≤ i → i < j → plF xs ys i = none ∨ plF xs zs i = none) ∧ wo = wr) (fun kk _ => na - (intOf kk).toNat)
    case atStart => exact ⟨po, Nat.le_refl _, hpo, rfl, Lib.hid fun i h1 h2 => by omega, rfl⟩
    case round =>
      obtain ⟨j, hj1, hj2, rfl, HNo, rfl⟩ := hrel
      by_cases hjn : j < na
      · have hd1 : decide ((j : Int) < (na : Int)) = true := decide_eq_true (by omega)
        have cX := HX.out j hjn wo hx
        have cY := HY.out j hjn wo hx
        have i0 : (0 : Int) ≤ (j : Int) := by omega
        have i1 : (j : Int) < (na : Int) := by omega
        have hw : IntKind.i64.wrap ((j : Int) + 1) = (j : Int) + 1 := IntWalk.i64_in _ (by omega)
        cases hX : plF xs ys j with
        | none =>
          rw [plV_none hX] at cX
          have HNo2 : Hid (∀ i, po ≤ i → i < j + 1 → plF xs ys i = none ∨ plF xs zs i = none) := Lib.hid fun i h1 h2 => by
            by_cases e : i = j
            · subst e; exact .inl hX
            · exact HNo.out i h1 (by omega)
          clear hX HNo
          go_wp2_with fail
          go_roundw
          case rel => exact ⟨j + 1, by omega, by omega, by go_num, HNo2, by first | rfl | trivial⟩
          case measure => simp [intOf]; omega
        | some u =>
          rw [plV_some hX] at cX
          have q1 : decide ((u : Int) < 0) = false := decide_eq_false (by omega)
          cases hY : plF xs zs j with
          | none =>
            rw [plV_none hY] at cY
            have HNo2 : Hid (∀ i, po ≤ i → i < j + 1 → plF xs ys i = none ∨ plF xs zs i = none) := Lib.hid fun i h1 h2 => by
              by_cases e : i = j
              · subst e; exact .inr hY
              · exact HNo.out i h1 (by omega)
            clear hX hY HNo
            go_wp2_with fail
            go_roundw
            case rel => exact ⟨j + 1, by omega, by omega, by go_num, HNo2, by first | rfl | trivial⟩
            case measure => simp [intOf]; omega
          | some v =>
            rw [plV_some hY] at cY
            have q2 : decide ((v : Int) < 0) = false := decide_eq_false (by omega)
            obtain ⟨S3, hS2, hle, hle2, _, hS3⟩ := HI.out.find (k := j) (u := u) (v := v) hj1 HNo.out (.inr ⟨by have := NA.out; omega, hX, hY⟩)
            subst hS2
            go_wp2_with fail
            go_quiet (fail)
            replace hx : Ext w2 (wo.drewN nq) := hx.drewN nq
            replace hN : New EPt 228 w2.heap.size (wo.drewN nq) (.slice Al nl cl) rows := hN.ext ((Kp.refl _ wo).drewN nq)
            clear cX cY
            generalize wo.drewN nq = wo at hx hN ⊢
            have hju : j < na ∧ u < nb ∧ v < nc := ⟨hjn, by have := (HXL.out j u hX).2; have := NB.out; omega, by have := (HYL.out j v hY).2; have := NC.out; omega⟩
            have HRUN := Lib.hid (HI.out.take_ (by have := NA.out; dsimp only; omega) (by have := NB.out; dsimp only; omega) (by have := NC.out; dsimp only; omega))
            have HIF := Lib.hid (loosed_iff hle)
            dsimp only at HIF
            obtain ⟨hl1, hl2, hl3⟩ := hle
            dsimp only at hl1 hl2 hl3
            clear HI HNo hle2 hS3 hX hY
            go_upto_region 12 with fail
            go_cut [85] from 36 to 169 (fun c wx => c = .bool (!plB ⟨j, u, v⟩ ⟨po, pa, pb⟩) ∧ wx = wo)
            case first =>
              as_aux_lemma =>
                by_cases e1 : po < j
                · have g1 : decide ((po : Int) < (j : Int)) = true := decide_eq_true (by omega)
                  have hb := HIF.out.2 (.inl e1)
                  go_wp2_with fail
                  go_meet
                  case rel => exact ⟨by rw [hb]; rfl, rfl⟩
                · have g1 : decide ((po : Int) < (j : Int)) = false := decide_eq_false (by omega)
                  by_cases e2 : pa < u
                  · have g2 : decide ((pa : Int) < (u : Int)) = true := decide_eq_true (by omega)
                    have hb := HIF.out.2 (.inr (.inl e2))
                    go_wp2_with fail
                    go_meet
                    case rel => exact ⟨by rw [hb]; rfl, rfl⟩
                  · have g2 : decide ((pa : Int) < (u : Int)) = false := decide_eq_false (by omega)
                    by_cases e3 : pb < v
                    · have g3 : decide ((pb : Int) < (v : Int)) = true := decide_eq_true (by omega)
                      have hb := HIF.out.2 (.inr (.inr e3))
                      go_wp2_with fail
                      go_meet
                      case rel => exact ⟨by rw [hb]; rfl, rfl⟩
                    · have g3 : decide ((pb : Int) < (v : Int)) = false := decide_eq_false (by omega)
                      have hb : plB ⟨j, u, v⟩ ⟨po, pa, pb⟩ = true := by
                        cases h : plB ⟨j, u, v⟩ ⟨po, pa, pb⟩ with
                        | true => rfl
                        | false => rcases HIF.out.1 h with h | h | h <;> omega
                      go_wp2_with fail
                      go_meet
                      case rel => exact ⟨by rw [hb]; rfl, rfl⟩
            case rest =>
              obtain ⟨hcc, hww⟩ := hcut
              subst hcc hww
              have HLO : Hid (∀ q, plB ⟨j, u, v⟩ ⟨po, pa, pb⟩ = q → loosed xs ys zs out ⟨po, pa, pb⟩ ⟨j, u, v⟩ = if q = true then out else out ++ [flagP (partF xs ys zs ⟨po, pa, pb⟩ ⟨j, u, v⟩)]) := Lib.hid fun q h => by unfold loosed; rw [h]
              clear HIF
              obtain ⟨lo, hlo⟩ : ∃ l, loosed xs ys zs out ⟨po, pa, pb⟩ ⟨j, u, v⟩ = l := ⟨_, rfl⟩
              rw [hlo] at HRUN HLO
              clear hlo
              go_upto_if 85 with fail
              go_cut [9] from 36 to 169 (fun lv wx => ∃ rows2, New EPt 228 w2.heap.size wx lv rows2 ∧ Hid (RepR S w2 rows2 lo) ∧ Ext w2 wx ∧ Hid (rows2.length ≤ 2 * po + 1))
              case first =>
                as_aux_lemma =>
                  cases hq : plB ⟨j, u, v⟩ ⟨po, pa, pb⟩ with
                  | true =>
                    have e := HLO.out true hq
                    rw [if_pos rfl] at e
                    have HR2 : Hid (RepR S w2 rows lo) := Lib.hid (by rw [e]; exact HRP.out)
                    have HL2 : Hid (rows.length ≤ 2 * po + 1) := Lib.hid (by have := HOL.out; omega)
                    clear HRP HOL HLO hq e
                    go_wp2_with fail
                    go_meet
                    case rel => exact ⟨rows, hN, HR2, hx, HL2⟩
                  | false =>
                    have e := HLO.out false hq
                    rw [if_neg (by simp)] at e
                    obtain ⟨⟨P1, m1, d1⟩, hs1, R1⟩ := OP.out.1.midV (i := po) (j := j) hl1 (by have := NA.out; omega)
                    obtain ⟨⟨P2, m2, d2⟩, hs2, R2⟩ := OP.out.2.1.midV (i := pa) (j := u) hl2 (by have := NB.out; omega)
                    obtain ⟨⟨P3, m3, d3⟩, hs3, R3⟩ := OP.out.2.2.midV (i := pb) (j := v) hl3 (by have := NC.out; omega)
                    dsimp only [SliceV.val] at hs1 hs2 hs3 R1 R2 R3
                    have hesz : Tryz.prog.elem 52 = 9 := by kernel_rfl
                    have SL1 : ∀ W, (Instr.slice 52 (.slice A1 na c1) (some (.int .i64 po)) (some (.int .i64 j)) none).run Tryz.prog W = .ok (.slice P1 m1 d1) W := fun W => by
                      rw [run_slice_lh _ _ _ _ _ (by kernel_rfl) .i64 .i64 _ _ (by omega) (by omega) (by omega), hesz, Tryz.sizeOf9, ← hs1]; rfl
                    have SL2 : ∀ W, (Instr.slice 52 (.slice A2 nb c2) (some (.int .i64 pa)) (some (.int .i64 u)) none).run Tryz.prog W = .ok (.slice P2 m2 d2) W := fun W => by
                      rw [run_slice_lh _ _ _ _ _ (by kernel_rfl) .i64 .i64 _ _ (by omega) (by omega) (by omega), hesz, Tryz.sizeOf9, ← hs2]; rfl
                    have SL3 : ∀ W, (Instr.slice 52 (.slice A3 nc c3) (some (.int .i64 pb)) (some (.int .i64 v)) none).run Tryz.prog W = .ok (.slice P3 m3 d3) W := fun W => by
                      rw [run_slice_lh _ _ _ _ _ (by kernel_rfl) .i64 .i64 _ _ (by omega) (by omega) (by omega), hesz, Tryz.sizeOf9, ← hs3]; rfl
                    have hcf := loose_flag (partF xs ys zs ⟨po, pa, pb⟩ ⟨j, u, v⟩)
                    unfold partF at hcf e
                    dsimp only at hcf e
                    have CL := Lib.hid fun W (hW : Ext wc W) => (loose5_calls _ _ _ _ _ _ S W (R1.kp (((hx02.trans hx).trans hW).mono fun _ _ _ => trivial)) (R2.kp (((hx02.trans hx).trans hW).mono fun _ _ _ => trivial)) (R3.kp (((hx02.trans hx).trans hW).mono fun _ _ _ => trivial))).mono fun e W' h => show e = _ ∧ Ext wc W' from ⟨h.1, hW.trans h.2⟩
                    obtain ⟨fl, hfl⟩ : ∃ q, (!sameT (sub xs po j) (sub ys pa u) && (!sameT (sub xs po j) (sub zs pb v) && !sameT (sub ys pa u) (sub zs pb v))) = q := ⟨_, rfl⟩
                    rw [hfl] at CL hcf
                    have HPT : Hid (PtR S w2 ⟨fl, ⟨P1, m1, d1⟩, ⟨P2, m2, d2⟩, ⟨P3, m3, d3⟩⟩ (flagP ⟨false, sub xs po j, sub ys pa u, sub zs pb v⟩)) := Lib.hid ⟨congrArg Pt.conflict hcf, R1.kp (hx02.mono fun _ _ _ => trivial), R2.kp (hx02.mono fun _ _ _ => trivial), R3.kp (hx02.mono fun _ _ _ => trivial)⟩
                    have HR2 : Hid (RepR S w2 (rows ++ [⟨fl, ⟨P1, m1, d1⟩, ⟨P2, m2, d2⟩, ⟨P3, m3, d3⟩⟩]) lo) := Lib.hid (by rw [e]; exact HRP.out.snoc HPT.out)
                    have HL2 : Hid ((rows ++ [(⟨fl, ⟨P1, m1, d1⟩, ⟨P2, m2, d2⟩, ⟨P3, m3, d3⟩⟩ : PtS)]).length ≤ 2 * po + 1) := Lib.hid (by have := HOL.out; rw [List.length_append, List.length_singleton]; omega)
                    clear HRP HLO hq e hcf hfl hs1 hs2 hs3 R1 R2 R3 hesz HPT HST HXL HYL HRUN HX HY
                    go_wp2_with fail
                    go_region_held3 (fun _ => True) (trivial)
                      (first
                        | (go_at_call 243; ((with_reducible refine Calls.mono (CL.out _ ?_) ?_)); (exact (Kp.refl _ wc).drew); rintro e wA ⟨rfl, hxA⟩)
                        | (refine step_append_new (w0 := w2) (v := .slice Al nl cl) (E := EPt) (ys := [⟨fl, ⟨P1, m1, d1⟩, ⟨P2, m2, d2⟩, ⟨P3, m3, d3⟩⟩]) tiPt5 (by rfl) (by rfl) ((hN.ext hxA).ext ((Kp.refl _ wA).alloc _)) ((hx.trans hxA).alloc _) (Own.made (E := EPt) wA 228 [⟨fl, ⟨P1, m1, d1⟩, ⟨P2, m2, d2⟩, ⟨P3, m3, d3⟩⟩] (by simp [maxLen])).rd (by rfl) (by rfl) (by have := HOL.out; simp; omega) (by have := HOL.out; simp [maxLen]; omega) ?_; intro lv' wF hN2 hxF hk2))
                    go_wp2_with fail
                    go_meet
                    case rel => exact ⟨_, hN2, HR2, hxF, HL2⟩
              case rest =>
                obtain ⟨rows2, hN2, HR2, hx2, HL2⟩ := hcut
                rename World => wd
                go_upto_block 4 with fail
                go_cut [16] from 36 to 169 (fun n wx => ∃ (m : Nat) (S1 S2 : List Pl), n = .int .i64 m ∧ 1 ≤ m ∧ Hid (RInv xs ys zs S1 S2 (addPl ⟨j, u, v⟩ m) (lo ++ [partF xs ys zs ⟨j, u, v⟩ (addPl ⟨j, u, v⟩ m)])) ∧ j + m ≤ na ∧ u + m ≤ nb ∧ v + m ≤ nc ∧ wx = wd)
                case first =>
                  as_aux_lemma =>
                    go_wp2_with fail
                    go_loopw [16] (fun n wr => ∃ (m : Nat) (S1 S2 : List Pl), n = .int .i64 m ∧ 1 ≤ m ∧ Hid (RRun xs ys zs S1 S2 ⟨j, u, v⟩ m lo) ∧ (j + m ≤ na ∧ u + m ≤ nb ∧ v + m ≤ nc) ∧ wd = wr) (fun n _ => na - (intOf n).toNat)
                    case atStart => exact ⟨1, _, _, rfl, Nat.le_refl _, HRUN, ⟨hju.1, hju.2.1, hju.2.2⟩, rfl⟩
                    case round =>
                      obtain ⟨m, S5, S6, rfl, hm1, HRR, ⟨hb1, hb2, hb3⟩, rfl⟩ := hrel
                      have HCL : Hid (¬ (j + m < na ∧ plF xs ys (j + m) = some (u + m) ∧ plF xs zs (j + m) = some (v + m)) → RInv xs ys zs S5 S6 (addPl ⟨j, u, v⟩ m) (lo ++ [partF xs ys zs ⟨j, u, v⟩ (addPl ⟨j, u, v⟩ m)])) := Lib.hid fun h => HRR.out.close hm1 (by rw [NA.out]; exact h)
                      have hw1 : IntKind.i64.wrap ((j : Int) + (m : Int)) = (j : Int) + (m : Int) := IntWalk.i64_in _ (by omega)
                      have hw2 : IntKind.i64.wrap ((u : Int) + (m : Int)) = (u : Int) + (m : Int) := IntWalk.i64_in _ (by omega)
                      have hw3 : IntKind.i64.wrap ((v : Int) + (m : Int)) = (v : Int) + (m : Int) := IntWalk.i64_in _ (by omega)
                      have hw4 : IntKind.i64.wrap ((m : Int) + 1) = (m : Int) + 1 := IntWalk.i64_in _ (by omega)
                      by_cases hm : j + m < na
                      · have g1 : decide ((j : Int) + (m : Int) < (na : Int)) = true := decide_eq_true (by omega)
                        have i0 : (0 : Int) ≤ (j : Int) + (m : Int) := by omega
                        have i1 : (j : Int) + (m : Int) < (na : Int) := by omega
                        have t1 : ((j : Int) + (m : Int)).toNat = j + m := by omega
                        have cX := HX.out (j + m) hm wd hx2
                        have cY := HY.out (j + m) hm wd hx2
                        cases hX : plF xs ys (j + m) with
                        | none =>
                          rw [plV_none hX] at cX
                          have HC := Lib.hid (HCL.out fun h => by rw [hX] at h; cases h.2.1)
                          have n1 : ((-1 : Int) == (u : Int) + (m : Int)) = false := by rw [beq_eq_false_iff_ne]; omega
                          have n2 : ¬ (-1 : Int) = (u : Int) + (m : Int) := by omega
                          clear HCL HRR hX HX HY HXL HYL HST HR2
                          go_wp2_with fail
                          go_meet
                          case rel => exact ⟨m, _, _, rfl, hm1, HC, hb1, hb2, hb3, rfl⟩
                        | some u2 =>
                          rw [plV_some hX] at cX
                          by_cases hu : u2 = u + m
                          · have n1 : ((u2 : Int) == (u : Int) + (m : Int)) = true := by rw [beq_iff_eq]; omega
                            have n2 : (u2 : Int) = (u : Int) + (m : Int) := by omega
                            cases hY : plF xs zs (j + m) with
                            | none =>
                              rw [plV_none hY] at cY
                              have HC := Lib.hid (HCL.out fun h => by rw [hY] at h; cases h.2.2)
                              have n3 : ((-1 : Int) == (v : Int) + (m : Int)) = false := by rw [beq_eq_false_iff_ne]; omega
                              have n4 : ¬ (-1 : Int) = (v : Int) + (m : Int) := by omega
                              clear HCL HRR hX hY HX HY HXL HYL HST HR2 n2 hu
                              go_wp2_with fail
                              go_meet
                              case rel => exact ⟨m, _, _, rfl, hm1, HC, hb1, hb2, hb3, rfl⟩
                            | some v2 =>
                              rw [plV_some hY] at cY
                              by_cases hv : v2 = v + m
                              · have n3 : ((v2 : Int) == (v : Int) + (m : Int)) = true := by rw [beq_iff_eq]; omega
                                obtain ⟨S7, hRR⟩ := HRR.out.more (by have := NA.out; dsimp only; omega) (by dsimp only; rw [hX, hu]) (by dsimp only; rw [hY, hv])
                                have HRR2 := Lib.hid hRR
                                have hb : j + (m + 1) ≤ na ∧ u + (m + 1) ≤ nb ∧ v + (m + 1) ≤ nc := ⟨by omega, by have := (HXL.out _ _ hX).2; have := NB.out; omega, by have := (HYL.out _ _ hY).2; have := NC.out; omega⟩
                                clear hRR HCL HRR hX hY HX HY HXL HYL HST HR2 n2 hu hv
                                go_wp2_with fail
                                go_roundw
                                case rel => exact ⟨m + 1, _, _, by go_num, by omega, HRR2, hb, by first | rfl | trivial⟩
                                case measure => simp [intOf]; omega
                              · have n3 : ((v2 : Int) == (v : Int) + (m : Int)) = false := by rw [beq_eq_false_iff_ne]; omega
                                have n4 : ¬ (v2 : Int) = (v : Int) + (m : Int) := by omega
                                have HC := Lib.hid (HCL.out fun h => by have := h.2.2; rw [hY] at this; injection this with this; exact hv this)
                                clear HCL HRR hX hY HX HY HXL HYL HST HR2 n2 hu hv
                                go_wp2_with fail
                                go_meet
                                case rel => exact ⟨m, _, _, rfl, hm1, HC, hb1, hb2, hb3, rfl⟩
                          · have n1 : ((u2 : Int) == (u : Int) + (m : Int)) = false := by rw [beq_eq_false_iff_ne]; omega
                            have n2 : ¬ (u2 : Int) = (u : Int) + (m : Int) := by omega
                            have HC := Lib.hid (HCL.out fun h => by have := h.2.1; rw [hX] at this; injection this with this; exact hu this)
                            clear HCL HRR hX HX HY HXL HYL HST HR2 hu
                            go_wp2_with fail
                            go_meet
                            case rel => exact ⟨m, _, _, rfl, hm1, HC, hb1, hb2, hb3, rfl⟩
                      · have g1 : decide ((j : Int) + (m : Int) < (na : Int)) = false := decide_eq_false (by omega)
                        have g2 : ¬ (j : Int) + (m : Int) < (na : Int) := by omega
                        have HC := Lib.hid (HCL.out fun h => hm h.1)
                        clear HCL HRR HX HY HXL HYL HST HR2
                        go_wp2_with fail
                        go_meet
                        case rel => exact ⟨m, _, _, rfl, hm1, HC, hb1, hb2, hb3, rfl⟩
                case rest =>
                  obtain ⟨m, S5, S6, hn, hm1, HC, hb1, hb2, hb3, hww⟩ := hcut
                  subst hn hww
                  have hw1 : IntKind.i64.wrap ((j : Int) + (m : Int)) = (j : Int) + (m : Int) := IntWalk.i64_in _ (by omega)
                  have hw2 : IntKind.i64.wrap ((u : Int) + (m : Int)) = (u : Int) + (m : Int) := IntWalk.i64_in _ (by omega)
                  have hw3 : IntKind.i64.wrap ((v : Int) + (m : Int)) = (v : Int) + (m : Int) := IntWalk.i64_in _ (by omega)
                  obtain ⟨⟨P1, m1, d1⟩, hs1, R1⟩ := OP.out.1.midV (i := j) (j := j + m) (by omega) (by have := NA.out; omega)
                  obtain ⟨⟨P2, m2, d2⟩, hs2, R2⟩ := OP.out.2.1.midV (i := u) (j := u + m) (by omega) (by have := NB.out; omega)
                  obtain ⟨⟨P3, m3, d3⟩, hs3, R3⟩ := OP.out.2.2.midV (i := v) (j := v + m) (by omega) (by have := NC.out; omega)
                  dsimp only [SliceV.val] at hs1 hs2 hs3 R1 R2 R3
                  have hesz : Tryz.prog.elem 52 = 9 := by kernel_rfl
                  have SL1 : ∀ W, (Instr.slice 52 (.slice A1 na c1) (some (.int .i64 j)) (some (.int .i64 ((j : Int) + (m : Int)))) none).run Tryz.prog W = .ok (.slice P1 m1 d1) W := fun W => by
                    rw [run_slice_lh _ _ _ _ _ (by kernel_rfl) .i64 .i64 _ _ (by omega) (by omega) (by omega), hesz, Tryz.sizeOf9, ← hs1, show ((j : Int) + (m : Int)).toNat = j + m by omega]; rfl
                  have SL2 : ∀ W, (Instr.slice 52 (.slice A2 nb c2) (some (.int .i64 u)) (some (.int .i64 ((u : Int) + (m : Int)))) none).run Tryz.prog W = .ok (.slice P2 m2 d2) W := fun W => by
                    rw [run_slice_lh _ _ _ _ _ (by kernel_rfl) .i64 .i64 _ _ (by omega) (by omega) (by omega), hesz, Tryz.sizeOf9, ← hs2, show ((u : Int) + (m : Int)).toNat = u + m by omega]; rfl
                  have SL3 : ∀ W, (Instr.slice 52 (.slice A3 nc c3) (some (.int .i64 v)) (some (.int .i64 ((v : Int) + (m : Int)))) none).run Tryz.prog W = .ok (.slice P3 m3 d3) W := fun W => by
                    rw [run_slice_lh _ _ _ _ _ (by kernel_rfl) .i64 .i64 _ _ (by omega) (by omega) (by omega), hesz, Tryz.sizeOf9, ← hs3, show ((v : Int) + (m : Int)).toNat = v + m by omega]; rfl
                  have HPT : Hid (PtR S w2 ⟨false, ⟨P1, m1, d1⟩, ⟨P2, m2, d2⟩, ⟨P3, m3, d3⟩⟩ (partF xs ys zs ⟨j, u, v⟩ (addPl ⟨j, u, v⟩ m))) := Lib.hid ⟨rfl, R1.kp (hx02.mono fun _ _ _ => trivial), R2.kp (hx02.mono fun _ _ _ => trivial), R3.kp (hx02.mono fun _ _ _ => trivial)⟩
                  have HR3 := Lib.hid (HR2.out.snoc HPT.out)
                  have HL3 : Hid ((rows2 ++ [(⟨false, ⟨P1, m1, d1⟩, ⟨P2, m2, d2⟩, ⟨P3, m3, d3⟩⟩ : PtS)]).length ≤ 2 * (j + m)) := Lib.hid (by have := HL2.out; rw [List.length_append, List.length_singleton]; omega)
                  obtain ⟨A9, n9, c9, hv9⟩ := hN2.1.slice
                  subst hv9
                  clear HRUN HRP HR2 hs1 hs2 hs3 R1 R2 R3 hesz HPT HST HXL HYL HX HY HLO
                  rename World => wd
                  go_wp2_with fail
                  go_region_held3 (fun _ => True) (trivial)
                    (first
                      | (refine step_append_new (w0 := w2) (v := .slice A9 n9 c9) (E := EPt) (ys := [⟨false, ⟨P1, m1, d1⟩, ⟨P2, m2, d2⟩, ⟨P3, m3, d3⟩⟩]) tiPt5 (by rfl) (by rfl) ((hN2.ext ((Kp.refl _ wd).drew)).ext ((Kp.refl _ wd.drew).alloc _)) ((hx2.trans ((Kp.refl _ wd).drew)).alloc _) (Own.made (E := EPt) wd.drew 228 [⟨false, ⟨P1, m1, d1⟩, ⟨P2, m2, d2⟩, ⟨P3, m3, d3⟩⟩] (by simp [maxLen])).rd (by rfl) (by rfl) (by have := HL2.out; simp; omega) (by have := HL2.out; simp [maxLen]; omega) ?_; intro lv' wF hN3 hxF hk2))
                  go_wp2_with fail
                  go_roundw
                  case rel => exact ⟨j + m, u + m, v + m, _, _, _, _, by go_num, by go_num, by go_num, HC, hN3, HR3, hxF, hb1, HL3⟩
                  case measure => simp [intOf]; omega
      · have hjn2 : j = na := by omega
        subst hjn2
        obtain ⟨S3, hS2, hle, hle2, hS3, _⟩ := HI.out.find (k := j) (u := nb) (v := nc) hj1 HNo.out (.inl ⟨NA.out.symm, NB.out.symm, NC.out.symm⟩)
        have hS4 := hS3 NA.out.symm
        subst hS4
        subst hS2
        have HDN := Lib.hid (HI.out.done (by unfold endPl; rw [NA.out, NB.out, NC.out]))
        have HIF := Lib.hid (loosed_iff hle)
        dsimp only at HIF
        obtain ⟨hl1, hl2, hl3⟩ := hle
        dsimp only at hl1 hl2 hl3
        have hd1 : decide ((j : Int) < (j : Int)) = false := decide_eq_false (by omega)
        clear HI HNo hle2 hS3
        go_upto_region 12 with fail
        go_cut [85] from 36 to 169 (fun c wx => c = .bool (!plB ⟨j, nb, nc⟩ ⟨po, pa, pb⟩) ∧ wx = wo)
        case first =>
          as_aux_lemma =>
            by_cases e1 : po < j
            · have g1 : decide ((po : Int) < (j : Int)) = true := decide_eq_true (by omega)
              have hb := HIF.out.2 (.inl e1)
              go_wp2_with fail
              go_meet
              case rel => exact ⟨by rw [hb]; rfl, rfl⟩
            · have g1 : decide ((po : Int) < (j : Int)) = false := decide_eq_false (by omega)
              by_cases e2 : pa < nb
              · have g2 : decide ((pa : Int) < (nb : Int)) = true := decide_eq_true (by omega)
                have hb := HIF.out.2 (.inr (.inl e2))
                go_wp2_with fail
                go_meet
                case rel => exact ⟨by rw [hb]; rfl, rfl⟩
              · have g2 : decide ((pa : Int) < (nb : Int)) = false := decide_eq_false (by omega)
                by_cases e3 : pb < nc
                · have g3 : decide ((pb : Int) < (nc : Int)) = true := decide_eq_true (by omega)
                  have hb := HIF.out.2 (.inr (.inr e3))
                  go_wp2_with fail
                  go_meet
                  case rel => exact ⟨by rw [hb]; rfl, rfl⟩
                · have g3 : decide ((pb : Int) < (nc : Int)) = false := decide_eq_false (by omega)
                  have hb : plB ⟨j, nb, nc⟩ ⟨po, pa, pb⟩ = true := by
                    cases h : plB ⟨j, nb, nc⟩ ⟨po, pa, pb⟩ with
                    | true => rfl
                    | false => rcases HIF.out.1 h with h | h | h <;> omega
                  go_wp2_with fail
                  go_meet
                  case rel => exact ⟨by rw [hb]; rfl, rfl⟩
        case rest =>
          obtain ⟨hcc, hww⟩ := hcut
          subst hcc hww
          have HLO : Hid (∀ q, plB ⟨j, nb, nc⟩ ⟨po, pa, pb⟩ = q → loosed xs ys zs out ⟨po, pa, pb⟩ ⟨j, nb, nc⟩ = if q = true then out else out ++ [flagP (partF xs ys zs ⟨po, pa, pb⟩ ⟨j, nb, nc⟩)]) := Lib.hid fun q h => by unfold loosed; rw [h]
          clear HIF
          obtain ⟨lo, hlo⟩ : ∃ l, loosed xs ys zs out ⟨po, pa, pb⟩ ⟨j, nb, nc⟩ = l := ⟨_, rfl⟩
          rw [hlo] at HDN HLO
          clear hlo
          go_upto_if 85 with fail
          go_cut [9] from 36 to 169 (fun lv wx => ∃ rows2, New EPt 228 w2.heap.size wx lv rows2 ∧ Hid (RepR S w2 rows2 lo) ∧ Ext w2 wx ∧ Hid (rows2.length ≤ 2 * po + 1))
          case first =>
            as_aux_lemma =>
              cases hq : plB ⟨j, nb, nc⟩ ⟨po, pa, pb⟩ with
              | true =>
                have e := HLO.out true hq
                rw [if_pos rfl] at e
                have HR2 : Hid (RepR S w2 rows lo) := Lib.hid (by rw [e]; exact HRP.out)
                have HL2 : Hid (rows.length ≤ 2 * po + 1) := Lib.hid (by have := HOL.out; omega)
                clear HRP HOL HLO hq e
                go_wp2_with fail
                go_meet
                case rel => exact ⟨rows, hN, HR2, hx, HL2⟩
              | false =>
                have e := HLO.out false hq
                rw [if_neg (by simp)] at e
                obtain ⟨⟨P1, m1, d1⟩, hs1, R1⟩ := OP.out.1.midV (i := po) (j := j) hl1 (by have := NA.out; omega)
                obtain ⟨⟨P2, m2, d2⟩, hs2, R2⟩ := OP.out.2.1.midV (i := pa) (j := nb) hl2 (by have := NB.out; omega)
                obtain ⟨⟨P3, m3, d3⟩, hs3, R3⟩ := OP.out.2.2.midV (i := pb) (j := nc) hl3 (by have := NC.out; omega)
                dsimp only [SliceV.val] at hs1 hs2 hs3 R1 R2 R3
                have hesz : Tryz.prog.elem 52 = 9 := by kernel_rfl
                have SL1 : ∀ W, (Instr.slice 52 (.slice A1 j c1) (some (.int .i64 po)) (some (.int .i64 j)) none).run Tryz.prog W = .ok (.slice P1 m1 d1) W := fun W => by
                  rw [run_slice_lh _ _ _ _ _ (by kernel_rfl) .i64 .i64 _ _ (by omega) (by omega) (by omega), hesz, Tryz.sizeOf9, ← hs1]; rfl
                have SL2 : ∀ W, (Instr.slice 52 (.slice A2 nb c2) (some (.int .i64 pa)) (some (.int .i64 nb)) none).run Tryz.prog W = .ok (.slice P2 m2 d2) W := fun W => by
                  rw [run_slice_lh _ _ _ _ _ (by kernel_rfl) .i64 .i64 _ _ (by omega) (by omega) (by omega), hesz, Tryz.sizeOf9, ← hs2]; rfl
                have SL3 : ∀ W, (Instr.slice 52 (.slice A3 nc c3) (some (.int .i64 pb)) (some (.int .i64 nc)) none).run Tryz.prog W = .ok (.slice P3 m3 d3) W := fun W => by
                  rw [run_slice_lh _ _ _ _ _ (by kernel_rfl) .i64 .i64 _ _ (by omega) (by omega) (by omega), hesz, Tryz.sizeOf9, ← hs3]; rfl
                have hcf := loose_flag (partF xs ys zs ⟨po, pa, pb⟩ ⟨j, nb, nc⟩)
                unfold partF at hcf e
                dsimp only at hcf e
                have CL := Lib.hid fun W (hW : Ext wc W) => (loose5_calls _ _ _ _ _ _ S W (R1.kp (((hx02.trans hx).trans hW).mono fun _ _ _ => trivial)) (R2.kp (((hx02.trans hx).trans hW).mono fun _ _ _ => trivial)) (R3.kp (((hx02.trans hx).trans hW).mono fun _ _ _ => trivial))).mono fun e W' h => show e = _ ∧ Ext wc W' from ⟨h.1, hW.trans h.2⟩
                obtain ⟨fl, hfl⟩ : ∃ q, (!sameT (sub xs po j) (sub ys pa nb) && (!sameT (sub xs po j) (sub zs pb nc) && !sameT (sub ys pa nb) (sub zs pb nc))) = q := ⟨_, rfl⟩
                rw [hfl] at CL hcf
                have HPT : Hid (PtR S w2 ⟨fl, ⟨P1, m1, d1⟩, ⟨P2, m2, d2⟩, ⟨P3, m3, d3⟩⟩ (flagP ⟨false, sub xs po j, sub ys pa nb, sub zs pb nc⟩)) := Lib.hid ⟨congrArg Pt.conflict hcf, R1.kp (hx02.mono fun _ _ _ => trivial), R2.kp (hx02.mono fun _ _ _ => trivial), R3.kp (hx02.mono fun _ _ _ => trivial)⟩
                have HR2 : Hid (RepR S w2 (rows ++ [⟨fl, ⟨P1, m1, d1⟩, ⟨P2, m2, d2⟩, ⟨P3, m3, d3⟩⟩]) lo) := Lib.hid (by rw [e]; exact HRP.out.snoc HPT.out)
                have HL2 : Hid ((rows ++ [(⟨fl, ⟨P1, m1, d1⟩, ⟨P2, m2, d2⟩, ⟨P3, m3, d3⟩⟩ : PtS)]).length ≤ 2 * po + 1) := Lib.hid (by have := HOL.out; rw [List.length_append, List.length_singleton]; omega)
                clear HRP HLO hq e hcf hfl hs1 hs2 hs3 R1 R2 R3 hesz HPT HST HXL HYL HX HY
                go_wp2_with fail
                go_region_held3 (fun _ => True) (trivial)
                  (first
                    | (go_at_call 243; ((with_reducible refine Calls.mono (CL.out _ ?_) ?_)); (exact (Kp.refl _ wc).drew); rintro e wA ⟨rfl, hxA⟩)
                    | (refine step_append_new (w0 := w2) (v := .slice Al nl cl) (E := EPt) (ys := [⟨fl, ⟨P1, m1, d1⟩, ⟨P2, m2, d2⟩, ⟨P3, m3, d3⟩⟩]) tiPt5 (by rfl) (by rfl) ((hN.ext hxA).ext ((Kp.refl _ wA).alloc _)) ((hx.trans hxA).alloc _) (Own.made (E := EPt) wA 228 [⟨fl, ⟨P1, m1, d1⟩, ⟨P2, m2, d2⟩, ⟨P3, m3, d3⟩⟩] (by simp [maxLen])).rd (by rfl) (by rfl) (by have := HOL.out; simp; omega) (by have := HOL.out; simp [maxLen]; omega) ?_; intro lv' wF hN2 hxF hk2))
                go_wp2_with fail
                go_meet
                case rel => exact ⟨_, hN2, HR2, hxF, HL2⟩
          case rest =>
            obtain ⟨rows2, hN2, HR2, hx2, HL2⟩ := hcut
            rename World => wd
            have HF : Hid (RepR S wd rows2 (partsF xs ys zs)) := Lib.hid (by rw [HDN.out]; exact HR2.out.ext hx2)
            have hxf := hx02.trans hx2
            clear HRP HR2 HST HXL HYL HX HY HLO HDN HL2
            go_wp2_with fail
            go_ret
            exact ⟨_, rows2, rfl, hN2.less hx02.size, HF.out, hxf⟩

end Go.Proofs.YtgjbfkaepalkiaaGreatDoor
