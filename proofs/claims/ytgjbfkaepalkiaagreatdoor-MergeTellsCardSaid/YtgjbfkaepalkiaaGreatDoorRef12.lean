/-
  cortegeref12: Common, Best.
-/
import Derived.Test.YtgjbfkaepalkiaaGreatDoorRef11
import Derived.BigQuiet
namespace Go.Proofs.YtgjbfkaepalkiaaGreatDoor
open Go.RowKit
set_option linter.unusedVariables false
set_option linter.unusedSimpArgs false
attribute [local go_sem] Oper.semAt_some

theorem int_pred (m : Nat) : Value.int .i64 (m : Int) = .int .i64 (((m + 1 : Nat) : Int) - 1) := congrArg (Value.int .i64) (by omega)

section
variable {I D : Fp} {rb : Nat} {cs : List Cm} {room : Nat} {w : World}
set_option maxHeartbeats 2000000 in
theorem refCommon_calls (h : RepoX refT I D w rb cs room) (hG : GoodR cs) (hn : cs.length ≤ 300) (a b : Int) : Calls Tryz.prog 93 #[.pointer (some ⟨rb, 0, none⟩), .int .i64 a, .int .i64 b] w (IntsPost w (commonF cs a b)) := by
  have HA1 := Lib.hid (refAhead_calls h hG hn a)
  have HA2 := Lib.hid fun W (hW : Ext w W) => refAhead_calls (h.ext hW) hG hn b
  have hl1 := aheadF_len cs a
  have hl2 := aheadF_len cs b
  have HS1 := Lib.hid (aheadF_sorted cs a)
  have HS2 := Lib.hid (aheadF_sorted cs b)
  have HCL := Lib.hid (commonF_len cs a b)
  have HR := Lib.hid (restC_all cs a b)
  clear h hG
  generalize aheadF cs a = xs at HA1 hl1 HS1 HR
  generalize aheadF cs b = ys at HA2 hl2 HS2 HR
  generalize commonF cs a b = com at HCL HR
  obtain ⟨xn, hxn⟩ : ∃ n, xs.length = n := ⟨_, rfl⟩
  obtain ⟨yn, hyn⟩ : ∃ n, ys.length = n := ⟨_, rfl⟩
  have HXN := Lib.hid hxn
  have HYN := Lib.hid hyn
  rw [hxn] at hl1
  rw [hyn] at hl2
  rw [hxn, hyn] at HR
  clear hxn hyn
  have hwx : IntKind.i64.wrap ((xn : Int) - 1) = (xn : Int) - 1 := IntWalk.i64_in _ (by omega)
  have hwy : IntKind.i64.wrap ((yn : Int) - 1) = (yn : Int) - 1 := IntWalk.i64_in _ (by omega)
  go_enter Tryz.func93, Tryz.ntmps93
  go_wp2_with fail
  refine HA1.out.mono ?_
  rintro e w1 ⟨u1, rfl, hN1, hx1⟩
  obtain ⟨A1, c1, rfl, hO1⟩ := hN1.rd.open_
  rw [HXN.out]
  have hA2 := Lib.hid (HA2.out w1 hx1)
  clear HA1 HA2 hN1
  go_wp2_with fail
  refine hA2.out.mono ?_
  rintro e w2 ⟨u2, rfl, hN2, hx2⟩
  obtain ⟨A2, c2, rfl, hO2⟩ := hN2.rd.open_
  rw [HYN.out]
  have HO1 := Lib.hid fun W (hW : Ext w2 W) => (hO1.kp ((hx2.trans hW).mono fun _ _ _ => trivial)).rd
  have HO2 := Lib.hid fun W (hW : Ext w2 W) => (hO2.kp (hW.mono fun _ _ _ => trivial)).rd
  have hb1 := hO1.le
  have hb2 := hO2.le
  rw [HXN.out] at hb1
  rw [HYN.out] at hb2
  have hx := hx1.trans hx2
  clear hA2 hN2 hO1 hO2 hx1 hx2
  go_wp2_with fail
  clear hwx hwy
  go_loopw [9, 10, 11] (fun o i k wr => ∃ (m l : Nat) (told : List Int), i = .int .i64 ((m : Int) - 1) ∧ k = .int .i64 ((l : Int) - 1) ∧ m ≤ xn ∧ l ≤ yn ∧ New EI 3 w2.heap.size wr o told ∧ Ext w2 wr ∧ com = told ++ restC xs ys m l) (fun _ i k _ => (intOf i + 1).toNat + (intOf k + 1).toNat)
  case atStart => exact ⟨xn, yn, [], rfl, rfl, Nat.le_refl _, Nat.le_refl _, New.nil _ _ _, Kp.refl _ _, HR.out⟩
  case round =>
    obtain ⟨m, l, told, rfl, rfl, hm, hl, hN, hxr, hcom⟩ := hrel
    rename World => wo
    obtain ⟨Ao, no, co, ho⟩ := hN.1.slice
    subst ho
    have HN := Lib.hid hN
    have HCom := Lib.hid hcom
    have HXR := Lib.hid hxr
    have htl : told.length ≤ 300 := by
      have h1 := congrArg List.length hcom
      rw [List.length_append] at h1
      have := HCL.out
      omega
    clear hN hcom
    cases m with
    | zero =>
      have hfin : told = com := by rw [HCom.out, restC_zero_left, List.append_nil]
      have HF := Lib.hid hfin
      clear hfin
      go_wp2_with fail
      go_ret
      refine ⟨_, rfl, ?_, hx.trans hxr⟩
      rw [← HF.out]
      exact HN.out.less hx.size
    | succ m =>
      have hm0 : ((m + 1 : Nat) : Int) - 1 = (m : Int) := by omega
      rw [hm0]
      have hd1 : decide ((0 : Int) ≤ (m : Int)) = true := decide_eq_true (by omega)
      cases l with
      | zero =>
        have hfin : told = com := by rw [HCom.out, restC_zero_right, List.append_nil]
        have HF := Lib.hid hfin
        clear hfin hm0
        go_wp2_with fail
        go_ret
        refine ⟨_, rfl, ?_, hx.trans hxr⟩
        rw [← HF.out]
        exact HN.out.less hx.size
      | succ l =>
        have hl0 : ((l + 1 : Nat) : Int) - 1 = (l : Int) := by omega
        rw [hl0]
        have hd2 : decide ((0 : Int) ≤ (l : Int)) = true := decide_eq_true (by omega)
        have hmx : m < xs.length := by have := HXN.out; omega
        have hly : l < ys.length := by have := HYN.out; omega
        obtain ⟨p1, o1, rfl, _, hp1, g1⟩ := (HO1.out wo hxr).num hmx
        obtain ⟨p2, o2, rfl, _, hp2, g2⟩ := (HO2.out wo hxr).num hly
        have HE : Hid (xs[m] = ys[l] → restC xs ys (m + 1) (l + 1) = xs[m] :: restC xs ys m l) := Lib.hid fun h => restC_eq HS1.out hmx hly h
        have HL : Hid (xs[m] < ys[l] → restC xs ys (m + 1) (l + 1) = restC xs ys m (l + 1)) := Lib.hid fun h => restC_lt HS2.out hmx hly h
        have HG : Hid (ys[l] < xs[m] → restC xs ys (m + 1) (l + 1) = restC xs ys (m + 1) l) := Lib.hid fun h => restC_gt HS1.out hmx hly h
        generalize xs[m] = x at g1 HE HL HG
        generalize ys[l] = y at g2 HE HL HG
        have hm1 : (m : Int) < (xn : Int) := by omega
        have hm2 : (0 : Int) ≤ (m : Int) := by omega
        have hl1' : (l : Int) < (yn : Int) := by omega
        have hl2' : (0 : Int) ≤ (l : Int) := by omega
        have hwm : IntKind.i64.wrap ((m : Int) - 1) = (m : Int) - 1 := IntWalk.i64_in _ (by omega)
        have hwl : IntKind.i64.wrap ((l : Int) - 1) = (l : Int) - 1 := IntWalk.i64_in _ (by omega)
        clear hmx hly hm0 hl0
        by_cases he : x = y
        · subst he
          have hde : (x == x) = true := by simp
          have hC := Lib.hid (HCom.out.trans (by rw [HE.out rfl]))
          clear HE HL HG
          go_wp2_with fail
          go_quiet (fail)
          have hxd := HXR.out.drewN nq
          have g1' : (wo.drewN nq).cell? ⟨p1, o1 + m, none⟩ = some (.int .i64 x) := g1
          clear hxr g1 g2
          have hNd := Lib.hid (HN.out.ext ((Kp.refl _ wo).drewN nq))
          clear HN
          generalize wo.drewN nq = wd at hxd g1' hNd ⊢
          go_wp2_with (at_builtin; refine stop ?_)
          refine list_append1 (w0 := w2) (u := .slice (some ⟨wd.heap.size, 0, none⟩) 1 1) tiI x rfl rfl rfl hNd.out hxd rfl rfl rfl (by omega) (by unfold maxLen; omega) ?_
          intro v' w' hN' hx'
          obtain ⟨A', n', c', rfl⟩ := hN'.1.slice
          have HN' := Lib.hid hN'
          clear hN' g1' hNd
          go_wp2_with fail
          go_roundw
          case rel => exact ⟨m, l, told ++ [x], rfl, rfl, by omega, by omega, HN'.out, hx', by rw [hC.out, List.append_assoc]; rfl⟩
          case measure => simp [intOf]; omega
        · have hde : (x == y) = false := by rw [beq_eq_false_iff_ne]; exact he
          by_cases hlt : x < y
          · have hdl : decide (x < y) = true := decide_eq_true hlt
            have hC := Lib.hid (HCom.out.trans (by rw [HL.out hlt]))
            clear HE HL HG
            go_wp2_with fail
            go_quiet (fail)
            go_wp2_with fail
            go_quiet (fail)
            go_wp2_with fail
            go_roundw
            case rel => exact ⟨m, l + 1, told, rfl, int_pred l, by omega, hl, HN.out.ext (by first | exact (Kp.refl _ _).drewN _ | exact ((Kp.refl _ _).drewN _).drewN _), by first | exact HXR.out.drewN _ | exact (HXR.out.drewN _).drewN _, hC.out⟩
            case measure => simp [intOf]
          · have hdl : decide (x < y) = false := decide_eq_false hlt
            have hC := Lib.hid (HCom.out.trans (by rw [HG.out (by omega)]))
            clear HE HL HG
            go_wp2_with fail
            go_quiet (fail)
            go_wp2_with fail
            go_quiet (fail)
            go_wp2_with fail
            go_roundw
            case rel => exact ⟨m + 1, l, told, int_pred m, rfl, hm, by omega, HN.out.ext (by first | exact (Kp.refl _ _).drewN _ | exact ((Kp.refl _ _).drewN _).drewN _), by first | exact HXR.out.drewN _ | exact (HXR.out.drewN _).drewN _, hC.out⟩
            case measure => simp [intOf]

set_option maxHeartbeats 2000000 in
theorem refBest_calls (h : RepoX refT I D w rb cs room) (hG : GoodR cs) (hn : cs.length ≤ 300) (a b : Int) : Calls Tryz.prog 60 #[.pointer (some ⟨rb, 0, none⟩), .int .i64 a, .int .i64 b] w (IntsPost w (bestF cs a b)) := by
  have HC := Lib.hid (refCommon_calls h hG hn a b)
  obtain ⟨A, cp, rows, hB, hO, hR, hl⟩ := h.rd
  have c0 : w.cell? ⟨rb, 0, none⟩ = some (.slice A cs.length cp) := hB.cell 0
  have hrb := hB.lt
  have HA := Lib.hid fun W (hW : Ext w W) n => refAhead_calls (h.ext hW) hG hn n
  have HCL := Lib.hid (commonF_len cs a b)
  have HCM := Lib.hid (show ∀ x ∈ commonF cs a b, 1 ≤ x ∧ x ≤ (cs.length : Int) from fun x hx => by
    unfold commonF at hx
    rw [List.mem_reverse, List.mem_filter] at hx
    have := aheadF_le x hx.1
    omega)
  have HBF := Lib.hid (show bestF cs a b = (bestGo cs (commonF cs a b).reverse []).reverse from rfl)
  have HAL := Lib.hid fun n => And.intro (aheadF_len cs n) (fun x (hx : x ∈ aheadF cs n) => aheadF_le x hx)
  clear h hG hB hO hR hl
  generalize commonF cs a b = c at HC HCL HCM HBF
  generalize bestF cs a b = bf at HBF
  obtain ⟨m, hm⟩ : ∃ m, cs.length = m := ⟨_, rfl⟩
  rw [hm] at c0 HCL HCM hn
  have HM := Lib.hid hm
  clear hm
  obtain ⟨m1, hm1⟩ : ∃ m1, m + 1 = m1 := ⟨_, rfl⟩
  have hmk := make_marks m m1 hm1 (by omega)
  have hw1 : IntKind.i64.wrap ((m : Int) + 1) = (m : Int) + 1 := IntWalk.i64_in _ (by omega)
  obtain ⟨cn, hcn⟩ : ∃ n, c.length = n := ⟨_, rfl⟩
  have HCN := Lib.hid hcn
  rw [hcn] at HCL
  have hcm := HCL.out
  have hwc : IntKind.i64.wrap ((cn : Int) - 1) = (cn : Int) - 1 := IntWalk.i64_in _ (by omega)
  have HM1 := Lib.hid hm1
  clear hm1 hcn
  go_enter Tryz.func60, Tryz.ntmps60
  go_wp2_with fail
  refine HC.out.mono ?_
  rintro e w1 ⟨u1, rfl, hN1, hx1⟩
  obtain ⟨A1, c1, rfl, hO1⟩ := (hN1.1.rd.wide (T := fun k => k < w1.heap.size) fun k hk => hN1.1.lt hk).open_
  have hle := hO1.le
  rw [HCN.out] at hle ⊢
  have c01 : w1.cell? ⟨rb, 0, none⟩ = some (.slice A m cp) := (hx1.cell (p := ⟨rb, 0, none⟩) hrb trivial).trans c0
  have HMd := Lib.hid ((Marks.made w1 m1).congr (mk' := fun x => ([] : List Int).contains x) fun j hj => by simp)
  have hx0 : Ext w1 (w1.alloc (.cells (rowOf m1 fun _ => .bool false) 4)) := (Kp.refl _ w1).alloc _
  have HO := Lib.hid fun W (hW : Kp (fun k => k ≠ w1.heap.size) (w1.alloc (.cells (rowOf m1 fun _ => .bool false) 4)) W) => (hO1.kp ((hx0.mono (T := fun k => k < w1.heap.size) fun _ _ _ => trivial).trans' hW fun k hk _ => by omega)).rd
  have hz0 : (w1.alloc (.cells (rowOf m1 fun _ => .bool false) 4)).heap.size = w1.heap.size + 1 := by simp
  have HX1 := Lib.hid hx1
  clear HC hN1 hO1
  go_wp2_with fail
  generalize w1.alloc (.cells (rowOf m1 fun _ => .bool false) 4) = w0 at HMd hx0 HO hz0 ⊢
  have HX0 := Lib.hid hx0
  clear hmk hw1 hwc c0 c01 hx0 hx1
  go_loopw [9, 10] (fun o i wr => ∃ (k : Nat) (outl cov : List Int), i = .int .i64 ((k : Int) - 1) ∧ k ≤ cn ∧ New EI 3 w0.heap.size wr o outl ∧ Marks wr w1.heap.size m1 (fun x => cov.contains x) ∧ Kp (fun k => k ≠ w1.heap.size) w0 wr ∧ outl.length + k ≤ cn ∧ (bestGo cs c.reverse []).reverse = (bestGo cs (c.take k).reverse cov).reverse ++ outl) (fun _ i _ => (intOf i + 1).toNat)
  case atStart => exact ⟨cn, [], [], rfl, Nat.le_refl _, New.nil _ _ _, HMd.out, Kp.refl _ _, by simp, by rw [List.append_nil, List.take_of_length_le (by have := HCN.out; omega)]⟩
  case round =>
    obtain ⟨k, outl, cov, rfl, hk, hN, hMk, hxr, hol, hbg⟩ := hrel
    rename World => wo
    obtain ⟨Ao, no, co, ho⟩ := hN.1.slice
    subst ho
    have HN := Lib.hid hN
    have HMk := Lib.hid hMk
    have HXR := Lib.hid hxr
    have HBG := Lib.hid hbg
    have hsz := hxr.size
    have HXW : Hid (∀ W, Kp (fun k => k ≠ w1.heap.size) w0 W → Ext w W) := Lib.hid fun W hW => HX1.out.trans (HX0.out.trans' hW fun k hk _ => by omega)
    clear hN hMk hbg
    cases k with
    | zero =>
      have hfin : outl = bf := by rw [HBF.out, HBG.out]; rfl
      have HF := Lib.hid hfin
      clear hfin
      go_wp2_with fail
      go_ret
      refine ⟨_, rfl, ?_, HXW.out _ hxr⟩
      rw [← HF.out]
      exact HN.out.less (by have := HX1.out.size; omega)
    | succ k =>
      have hm0 : ((k + 1 : Nat) : Int) - 1 = (k : Int) := by omega
      rw [hm0]
      have hd1 : decide ((0 : Int) ≤ (k : Int)) = true := decide_eq_true (by omega)
      have hkc : k < c.length := by have := HCN.out; omega
      obtain ⟨p1, o1, rfl, hp1s, hp1, g1⟩ := (HO.out wo hxr).num hkc
      have hxm := HCM.out c[k] (List.getElem_mem hkc)
      have HBC : Hid (cov.contains c[k] = true → bestGo cs (c.take (k + 1)).reverse cov = bestGo cs (c.take k).reverse cov) := Lib.hid fun h => best_cov hkc h
      have HBN : Hid (cov.contains c[k] = false → bestGo cs (c.take (k + 1)).reverse cov = c[k] :: bestGo cs (c.take k).reverse (cov ++ aheadF cs c[k])) := Lib.hid fun h => best_new hkc h
      generalize c[k] = x at g1 hxm HBC HBN
      obtain ⟨xx, hxx⟩ : ∃ xx : Nat, x = xx := ⟨x.toNat, by omega⟩
      subst hxx
      have hk1 : (k : Int) < (cn : Int) := by omega
      have hx0' : (0 : Int) ≤ (xx : Int) := by omega
      have hx1' : (xx : Int) < (m1 : Int) := by have := HM1.out; omega
      have hwk : IntKind.i64.wrap ((k : Int) - 1) = (k : Int) - 1 := IntWalk.i64_in _ (by omega)
      have d0 := HMk.out.get (i := xx) (by omega)
      clear hkc hm0
      cases hcv : cov.contains (xx : Int) with
      | true =>
        rw [hcv] at d0
        have hC := Lib.hid (HBG.out.trans (by rw [HBC.out hcv]))
        clear HBC HBN hcv
        go_wp2_with fail
        go_roundw
        case rel => exact ⟨k, outl, cov, rfl, by omega, HN.out, HMk.out, HXR.out, by omega, hC.out⟩
        case measure => simp [intOf]
      | false =>
        rw [hcv] at d0
        have hC : Hid ((bestGo cs c.reverse []).reverse = (bestGo cs (c.take k).reverse (cov ++ aheadF cs (xx : Int))).reverse ++ ((xx : Int) :: outl)) := Lib.hid (HBG.out.trans (by rw [HBN.out hcv, List.reverse_cons, List.append_assoc]; rfl))
        clear HBC HBN hcv
        go_wp2_with (at_builtin; refine stop ?_)
        refine list_append (v := .slice (some ⟨wo.heap.size, 0, none⟩) 1 1) (u := .slice Ao no co) (xs := [(xx : Int)]) (ys := outl) tiI rfl rfl rfl rfl (Own.made wo 3 [(xx : Int)] (by simp [maxLen])) (HN.out.1.rd.kp (((Kp.refl All wo).alloc _).mono fun _ _ _ => trivial)) (by simp; omega) (by simp [maxLen]; omega) ?_
        intro v' w' hO' hk' hb'
        obtain ⟨A', n', c', rfl⟩ := hO'.slice
        have hN' : New EI 3 w0.heap.size w' (.slice A' n' c') ((xx : Int) :: outl) := ⟨hO', fun g e => by
          rcases hb' with h | h
          · rw [h] at e; simp [Value.ownBlock] at e; omega
          · rw [h] at e; simp at e; omega⟩
        have hkw : Ext wo w' := ((Kp.refl _ wo).alloc _).trans' hk' fun k _ h e => by simp [Value.ownBlock] at e; omega
        have hM' := HMk.out.ext hkw
        have hxr' : Kp (fun k => k ≠ w1.heap.size) w0 w' := HXR.out.trans (Kp.of_ext hkw)
        have g1' : w'.cell? ⟨p1, o1 + k, none⟩ = some (.int .i64 (xx : Int)) := (hkw.cell (p := ⟨p1, o1 + k, none⟩) hp1 trivial).trans g1
        have HN' := Lib.hid hN'
        have HM' := Lib.hid hM'
        have HXR' := Lib.hid hxr'
        have hAh := Lib.hid (HA.out w' (HXW.out _ hxr') (xx : Int))
        have hz' := hkw.size
        clear hO' hk' hb' hN' hM' hxr' d0 g1 HN HMk hxr
        go_wp2_with fail
        refine hAh.out.mono ?_
        rintro e w5 ⟨u5, rfl, hN5, hx5⟩
        obtain ⟨A5, c5, rfl, hO5⟩ := (hN5.1.rd.wide (T := fun k => w'.heap.size ≤ k ∧ k < w5.heap.size) fun k hk => ⟨hN5.2 k hk, hN5.1.lt hk⟩).open_
        have hAL := HAL.out (xx : Int)
        generalize aheadF cs (xx : Int) = ls at hC hO5 hAL hN5
        obtain ⟨ln, hln⟩ : ∃ ln, ls.length = ln := ⟨_, rfl⟩
        have hl5 := hO5.le
        rw [hln] at hl5 hAL ⊢
        have hlm : ln ≤ 300 := by have := HM.out; omega
        have HLN := Lib.hid hln
        have HAM : Hid (∀ x ∈ ls, 1 ≤ x ∧ x ≤ (m : Int)) := Lib.hid fun x hx => by have := hAL.2 x hx; have := HM.out; omega
        have HO5 := Lib.hid fun W (hW : Kp (fun k => k ≠ w1.heap.size) w5 W) => (hO5.kp (hW.mono fun k _ h => by omega)).rd
        have HM5 := Lib.hid (HM'.out.ext hx5)
        have HN5 := Lib.hid (HN'.out.ext hx5)
        have HX5 := Lib.hid (HXR'.out.trans (Kp.of_ext hx5))
        have hz5 := hx5.size
        clear hAh hN5 hO5 hln hAL hx5 g1'
        go_wp2_with fail
        go_loopw [12] (fun i wr => ∃ q : Nat, q ≤ ln ∧ i = .int .i64 q ∧ Marks wr w1.heap.size m1 (fun y => (cov ++ ls.take q).contains y) ∧ Kp (fun k => k ≠ w1.heap.size) w5 wr) (fun i _ => ln - (intOf i).toNat)
        case atStart => exact ⟨0, Nat.zero_le _, rfl, HM5.out.congr fun j hj => by simp, Kp.refl _ _⟩
        case round =>
          obtain ⟨q, hq, rfl, hMq, hkq⟩ := hrel
          rename World => wq
          by_cases hlt : q < ln
          · have hd2 : decide ((q : Int) < (ln : Int)) = true := decide_eq_true (by omega)
            have hqp : q < ls.length := by have := HLN.out; omega
            obtain ⟨pb, po, hA2, hIp, hpbl, g0⟩ := (HO5.out wq hkq).num hqp
            have hT : Hid (ls.take (q + 1) = ls.take q ++ [ls[q]]) := Lib.hid (by rw [List.take_succ_eq_append_getElem hqp])
            have hpb := HAM.out ls[q] (List.getElem_mem hqp)
            generalize ls[q] = p at g0 hT hpb
            obtain ⟨pp, hpp⟩ : ∃ pp : Nat, p = pp := ⟨p.toNat, by omega⟩
            subst hpp hA2
            have hq0 : (0 : Int) ≤ (q : Int) := by omega
            have hq1 : (q : Int) < (ln : Int) := by omega
            have hp0 : (0 : Int) ≤ (pp : Int) := by omega
            have hp1' : (pp : Int) < (m1 : Int) := by have := HM1.out; omega
            have hwq : IntKind.i64.wrap ((q : Int) + 1) = (q : Int) + 1 := IntWalk.i64_in _ (by omega)
            have f1 := hMq.get (i := pp) (by omega)
            have f2 := hMq.frz pp
            have HMq := Lib.hid (hMq.set_ pp (mk' := fun y => (cov ++ ls.take (q + 1)).contains y) fun y _ => by
              rw [hT.out]
              simp only [List.contains_eq_mem, List.mem_append, List.mem_singleton]
              by_cases h1 : y ∈ ls.take q <;> by_cases h2 : y = (pp : Int) <;> by_cases h3 : y ∈ cov <;> simp [h1, h2, h3])
            clear hqp hMq hpb
            go_wp2_with fail
            go_roundw
            case rel => exact ⟨q + 1, by omega, by go_num, HMq.out, hkq.setCell (.inr (by simp)) _⟩
            case measure => simp [intOf]; omega
          · have hd2 : decide ((q : Int) < (ln : Int)) = false := decide_eq_false (by omega)
            have hall : ls.take q = ls := List.take_of_length_le (by have := HLN.out; omega)
            rw [hall] at hMq
            have HMq := Lib.hid hMq
            clear hall hMq
            go_wp2_with fail
            go_roundw
            case rel => exact ⟨k, (xx : Int) :: outl, cov ++ ls, rfl, by omega, HN5.out.kp hkq fun g e => by have := HN5.out.2 g e; omega, HMq.out, HX5.out.trans hkq, by simp; omega, hC.out⟩
            case measure => simp [intOf]
end

end Go.Proofs.YtgjbfkaepalkiaaGreatDoor
