/-
  cortegelaw7.TreeGathers.
-/
import Derived.Test.YtinafpbdlblcaaaDoorPlain6
import Derived.Test.YtinafpbdlblcaaaDoorAwake7
import Derived.Test.YtinafpbdlblcaaaDoorMay2
import Derived.Test.YtinafpbdlblcaaaDoorLow
import Derived.Test.YtinafpbdlblcaaaDoorSame
namespace Go.Proofs.YtinafpbdlblcaaaDoor
open Go.RowKit
set_option linter.unusedVariables false
set_option linter.unusedSimpArgs false
attribute [local go_sem] Oper.semAt_some

set_option maxHeartbeats 4000000 in
set_option maxRecDepth 100000 in
theorem gathers7_calls (va vb : Value) (kk : Int) (xs ys : List File) (S : Fp) (w : World) (hA : Rd EF S w va xs) (hB : Rd EF S w vb ys) :
    Calls Tryd.prog 6 #[va, vb, .int .i64 kk] w fun e w' => e = .returned (.bool true) ∧ Ext w w' := by
  have HG1 := Lib.hid (greatFiles_calls va xs 12 S w hA (by omega))
  have HG2 := Lib.hid (greatFiles_calls vb ys 12 S w hB (by omega))
  obtain ⟨A1, c1, ha, hO1⟩ := hA.open_
  obtain ⟨A2, c2, hb, hO2⟩ := hB.open_
  subst ha hb
  obtain ⟨n1, hn1⟩ : ∃ n, xs.length = n := ⟨_, rfl⟩
  obtain ⟨n2, hn2⟩ : ∃ n, ys.length = n := ⟨_, rfl⟩
  rw [hn1] at hA HG1 ⊢
  rw [hn2] at hB HG2 ⊢
  have H1 := Lib.hid hn1
  have H2 := Lib.hid hn2
  have HO1 := Lib.hid hO1
  have HO2 := Lib.hid hO2
  have HA := Lib.hid fun W (hW : Ext w W) => hA.kp (hW.mono fun _ _ _ => trivial)
  have HB := Lib.hid fun W (hW : Ext w W) => hB.kp (hW.mono fun _ _ _ => trivial)
  clear hn1 hn2 hA hB hO1 hO2
  go_enter Tryd.func6, Tryd.ntmps6
  go_wp2_with fail
  refine HG1.out.mono ?_
  rintro e w1 ⟨rfl, rfl⟩
  cases e1 : greatB xs 12 with
  | true =>
    go_wp2_with fail
    refine (awake7_calls w).mono ?_
    rintro e wz ⟨rfl, hxz⟩
    go_wp2_with fail
    go_ret
    exact ⟨rfl, hxz⟩
  | false =>
    have hl1 := (greatB_false e1).1
    have HP1 := Lib.hid (greatB_false e1).2
    rw [H1.out] at hl1
    clear e1 HG1
    go_wp2_with fail
    refine HG2.out.mono ?_
    rintro e w1 ⟨rfl, rfl⟩
    cases e2 : greatB ys 12 with
    | true =>
      go_wp2_with fail
      refine (awake7_calls w).mono ?_
      rintro e wz ⟨rfl, hxz⟩
      go_wp2_with fail
      go_ret
      exact ⟨rfl, hxz⟩
    | false =>
      have hl2 := (greatB_false e2).1
      have HP2 := Lib.hid (greatB_false e2).2
      rw [H2.out] at hl2
      clear e2 HG2
      go_wp2_with fail
      refine (may_calls _ xs _ w (HA.out w (Kp.refl _ w)) (by rw [H1.out]; omega) (fun y hy => by have := (HP1.out y hy).1; omega)).mono ?_
      rintro e m1 ⟨rfl, hm1⟩
      cases t1 : mayB xs with
      | false =>
        go_wp2_with fail
        refine (awake7_calls m1).mono ?_
        rintro e wz ⟨rfl, hxz⟩
        go_wp2_with fail
        go_ret
        exact ⟨rfl, hm1.trans hxz⟩
      | true =>
        have T1 := Lib.hid ((mayB_iff _).1 t1).rise
        have hx1c : Ext w m1 := hm1
        clear hm1 t1
        go_wp2_with fail
        refine (may_calls _ ys _ m1 (HB.out m1 hx1c) (by rw [H2.out]; omega) (fun y hy => by have := (HP2.out y hy).1; omega)).mono ?_
        rintro e m2 ⟨rfl, hm2⟩
        cases t2 : mayB ys with
        | false =>
          go_wp2_with fail
          refine (awake7_calls m2).mono ?_
          rintro e wz ⟨rfl, hxz⟩
          go_wp2_with fail
          go_ret
          exact ⟨rfl, (hx1c.trans hm2).trans hxz⟩
        | true =>
          have T2 := Lib.hid ((mayB_iff _).1 t2).rise
          have hx2c : Ext w m2 := (hx1c.trans hm2)
          clear hm2 t2 hx1c
          by_cases hz : n1 = 0
          · have hz1 : ((n1 : Int) == 0) = true := by rw [hz]; rfl
            have hz2 : (n1 == 0) = true := by rw [hz]; rfl
            have hz3 : decide ((n1 : Int) = 0) = true := by rw [hz]; rfl
            have HZ := Lib.hid hz
            clear hz
            go_wp2_with fail
            refine (awake7_calls m2).mono ?_
            rintro e wz ⟨rfl, hxz⟩
            go_wp2_with fail
            go_ret
            exact ⟨rfl, hx2c.trans hxz⟩
          · have hz1 : ((n1 : Int) == 0) = false := by rw [beq_eq_false_iff_ne]; omega
            have hz2 : (n1 == 0) = false := by rw [beq_eq_false_iff_ne]; exact hz
            have hlow := low_calls kk n1 m2 (by omega) (by omega)
            have hn0 : 0 < n1 := by omega
            have HZ := Lib.hid hz
            have HN0 := Lib.hid hn0
            have HL := Lib.hid hlow
            clear hz hlow hn0
            go_wp2_with fail
            refine HL.out.mono ?_
            clear HL
            rintro e w3 ⟨⟨r, hr, rfl⟩, rfl⟩
            have HAO := Lib.hid fun W (hW : Ext m2 W) => HO1.out.kp ((hx2c.trans hW).mono fun _ _ _ => trivial)
            have HBO := Lib.hid fun W (hW : Ext m2 W) => HO2.out.kp ((hx2c.trans hW).mono fun _ _ _ => trivial)
            go_wp2_with fail
            have hrl := rot_length xs r
            rw [H1.out] at hrl
            have HRL := Lib.hid hrl
            clear hrl hz1 hz2
            go_loopw [7, 8] (fun o i wr => ∃ k : Nat, k ≤ n1 ∧ i = .int .i64 k ∧ New EF 30 m2.heap.size wr o (gat ((rot xs r).take k)) ∧ Ext m2 wr) (fun _ i _ => n1 - (intOf i).toNat)
            case atStart => exact ⟨0, Nat.zero_le _, rfl, New.nil _ _ _, Kp.refl _ _⟩
            case round =>
              obtain ⟨k, hk, rfl, hN, hx⟩ := hrel
              rename World => wo
              obtain ⟨A7, n7, c7, hv7⟩ := hN.1.slice
              subst hv7
              by_cases hlt : k < n1
              · have hd3 : decide ((k : Int) < (n1 : Int)) = true := decide_eq_true (by omega)
                obtain ⟨j, hj⟩ : ∃ j, (r + k) % n1 = j := ⟨_, rfl⟩
                have hjn : j < n1 := by rw [← hj]; exact Nat.mod_lt _ HN0.out
                have hmod : ((r : Int) + (k : Int)).tmod (n1 : Int) = (j : Int) := by rw [← hj]; rfl
                have hjc : j < xs.length := by have := H1.out; omega
                obtain ⟨b1, f1, rfl, _, hb1, c0, c1⟩ := (HAO.out wo hx).rd.file hjc
                obtain ⟨f, hf⟩ : ∃ f, xs[j] = f := ⟨_, rfl⟩
                rw [hf] at c0 c1
                have hrk : k < (rot xs r).length := by have := HRL.out; omega
                have hrot : (rot xs r)[k] = f := by
                  have h := rot_get xs r k (by have := H1.out; omega) (by have := H1.out; omega)
                  rw [H1.out, hj, List.getElem?_eq_getElem hjc, List.getElem?_eq_getElem hrk, hf] at h
                  injection h
                have HG : Hid (gat ((rot xs r).take (k + 1)) = putF (gat ((rot xs r).take k)) f.path f.data) := Lib.hid (by rw [take_snoc _ hrk, gat_snoc, hrot])
                have hgl : (gat ((rot xs r).take k)).length ≤ 12 := Nat.le_trans (gat_length _) (by rw [List.length_take]; omega)
                have HGL := Lib.hid hgl
                clear hjc hf hrk hrot hgl hj
                obtain ⟨fp, fd⟩ := f
                dsimp only at c0 c1 HG
                have hlt' : (k : Int) < (n1 : Int) := by omega
                have h0 : (0 : Int) ≤ (k : Int) := by omega
                have hj0 : (0 : Int) ≤ (j : Int) := by omega
                have hj1 : (j : Int) < (n1 : Int) := by omega
                have hw1 : IntKind.i64.wrap ((r : Int) + (k : Int)) = (r : Int) + (k : Int) := IntWalk.i64_in _ (by omega)
                have hw2 : IntKind.i64.wrap (j : Int) = (j : Int) := IntWalk.i64_in _ (by omega)
                go_wp2_with fail
                refine (put_calls _ fp fd _ _ _ (hN.ext ((Kp.refl _ wo).alloc _)).rd (by have := HGL.out; omega)).mono ?_
                rintro e w4 ⟨v4, rfl, hN4, hx4⟩
                rw [← HG.out] at hN4
                have hx5 := (hx.alloc _).trans hx4
                have hN5 := hN4.less (m := m2.heap.size) (by have := hx.size; simp; omega)
                clear hN hx hx4 hN4 c0 c1
                go_wp2_with fail
                go_roundw
                case rel => exact ⟨k + 1, by omega, by go_num, hN5, hx5⟩
                case measure => simp [intOf]; omega
              · have hd3 : decide ((k : Int) < (n1 : Int)) = false := decide_eq_false (by omega)
                have hall : (rot xs r).take k = rot xs r := List.take_of_length_le (by have := HRL.out; omega)
                rw [hall, gat_rot T1.out] at hN
                clear hall hk
                go_wp2_with fail
                refine (sameFiles_calls _ _ xs xs _ _ wo hN.rd (HA.out wo (hx2c.trans hx))).mono ?_
                rintro e w4 ⟨rfl, hx4⟩
                rw [sameB_refl]
                have hN4 := hN.ext hx4
                have hx24 := hx.trans hx4
                clear hN hx hx4
                go_wp2_with fail
                refine (same_calls _ _ xs xs _ _ w4 hN4.rd (HA.out w4 (hx2c.trans hx24))).mono ?_
                rintro e w5 ⟨rfl, hx5⟩
                rw [sameB_refl]
                have hN5 := hN4.ext hx5
                have hx25 := hx24.trans hx5
                clear hN4 hx24 hx5 hd3 hlt
                go_wp2_with fail
                have hall : RdAll (fun _ => True) (w5.alloc (.cells #[.slice A1 n1 c1, .slice A2 n2 c2] 22)) [⟨A1, n1, c1⟩, ⟨A2, n2, c2⟩] [xs, ys] :=
                  .cons ((HA.out _ ((hx2c.trans hx25).alloc _)).wide fun _ _ => trivial) (.cons ((HB.out _ ((hx2c.trans hx25).alloc _)).wide fun _ _ => trivial) .nil)
                have hsum : sumL [xs, ys] ≤ 100000 := by simp only [sumL, List.flatten_cons, List.flatten_nil, List.append_nil, List.length_append]; rw [H1.out, H2.out]; omega
                refine (paths_calls _ _ _ _ _ ((built2 w5 22 ⟨A1, n1, c1⟩ ⟨A2, n2, c2⟩).wide fun _ _ => trivial) hall hsum).mono ?_
                clear hall hsum
                rintro e w6 ⟨r6, rfl, hR6, hx6'⟩
                have hx26 := (hx25.alloc _).trans hx6'
                have hN6 := (hN5.ext ((Kp.refl _ w5).alloc _)).ext hx6'
                rw [pathsF_rise] at hR6
                have hpc := paths_count xs ys T1.out T2.out
                obtain ⟨ps, hps⟩ : ∃ ps, riseT (flatP [xs, ys]) = ps := ⟨_, rfl⟩
                rw [hps] at hR6 hpc
                obtain ⟨A6, c6, hv6, _⟩ := hR6.rd.open_
                subst hv6
                obtain ⟨np, hnp⟩ : ∃ np, ps.length = np := ⟨_, rfl⟩
                rw [hnp] at hR6 hpc ⊢
                rw [H1.out] at hpc
                have HPS := Lib.hid hps
                have HNP := Lib.hid hnp
                have HPC := Lib.hid hpc
                have hR6' := hR6.less (m := m2.heap.size) (by have := hx25.size; simp; omega)
                clear hx25 hx6' hN5 hR6 hps hnp hpc
                go_wp2_with fail
                go_loopw [11, 12] (fun s i wr => ∃ k pc : Nat, k ≤ n2 ∧ s = .int .i64 pc ∧ i = .int .i64 k ∧ pc ≤ n1 + k ∧ Hid (n1 + (ys.take k).countP (goneQ xs) = pc) ∧ Ext m2 wr ∧ Ext w6 wr) (fun _ i _ => n2 - (intOf i).toNat)
                case atStart => exact ⟨0, n1, Nat.zero_le _, rfl, rfl, Nat.le_refl _, Lib.hid rfl, hx26, Kp.refl _ _⟩
                case round =>
                  clear hx26
                  obtain ⟨k2, pc, hk2, rfl, rfl, hpk, HPK, hx, hx6⟩ := hrel
                  rename World => wp
                  by_cases hlt2 : k2 < n2
                  · have hd4 : decide ((k2 : Int) < (n2 : Int)) = true := decide_eq_true (by omega)
                    have hkc : k2 < ys.length := by have := H2.out; omega
                    obtain ⟨b1, f1, rfl, _, hb1, c0, c1⟩ := (HBO.out wp hx).rd.file hkc
                    obtain ⟨f, hf⟩ : ∃ f, ys[k2] = f := ⟨_, rfl⟩
                    rw [hf] at c0
                    have HL1 : Hid (n1 + (ys.take (k2 + 1)).countP (goneQ xs) = pc + if goneQ xs f then 1 else 0) := Lib.hid (by rw [take_snoc ys hkc, List.countP_append, List.countP_singleton, hf, ← HPK.out, Nat.add_assoc])
                    clear hkc hf c1
                    obtain ⟨fp, fd⟩ := f
                    dsimp only at c0
                    have hlt' : (k2 : Int) < (n2 : Int) := by omega
                    have h0 : (0 : Int) ≤ (k2 : Int) := by omega
                    clear HPK
                    go_wp2_with fail
                    refine (get_calls _ fp xs _ wp (HA.out wp (hx2c.trans hx)) (by rw [H1.out]; omega)).mono ?_
                    rintro e w8 ⟨rfl, hx8⟩
                    have hxx := hx.trans hx8
                    have hxx6 := hx6.trans hx8
                    clear c0 hx hx8 hx6
                    have HQ2 : Hid (goneQ xs ⟨fp, fd⟩ = !(getF xs fp).isSome) := Lib.hid rfl
                    obtain ⟨g, hg⟩ : ∃ g, (getF xs fp).isSome = g := ⟨_, rfl⟩
                    rw [hg] at HQ2 ⊢
                    clear hg
                    cases g with
                    | true =>
                      go_wp2_with fail
                      go_roundw
                      case rel => exact ⟨k2 + 1, pc, by omega, rfl, by go_num, by omega, Lib.hid (by rw [HL1.out, HQ2.out]; rfl), hxx, hxx6⟩
                      case measure => simp [intOf]; omega
                    | false =>
                      go_wp2_with fail
                      go_roundw
                      case rel => exact ⟨k2 + 1, pc + 1, by omega, by go_num, by go_num, by omega, Lib.hid (by rw [HL1.out, HQ2.out]; rfl), hxx, hxx6⟩
                      case measure => simp [intOf]; omega
                  · have hd4 : decide ((k2 : Int) < (n2 : Int)) = false := decide_eq_false (by omega)
                    have hpn : pc = np := by
                      have h1 := HPK.out
                      have h2 := HPC.out
                      rw [List.take_of_length_le (by have := H2.out; omega)] at h1
                      omega
                    subst hpn
                    clear HPK hk2 hpk
                    go_wp2_with fail
                    clear hlt2 hd4
                    have hN8 := hN6.ext hx6
                    have hR8 := hR6'.ext hx6
                    clear hN6 hR6' hx6
                    have hall : RdAll (fun _ => True) (wp.alloc (.cells #[.slice A2 n2 c2, .slice A1 n1 c1, .slice A1 n1 c1] 22)) [⟨A2, n2, c2⟩, ⟨A1, n1, c1⟩, ⟨A1, n1, c1⟩] [ys, xs, xs] :=
                      .cons ((HB.out _ ((hx2c.trans hx).alloc _)).wide fun _ _ => trivial) (.cons ((HA.out _ ((hx2c.trans hx).alloc _)).wide fun _ _ => trivial) (.cons ((HA.out _ ((hx2c.trans hx).alloc _)).wide fun _ _ => trivial) .nil))
                    have hsum : sumL [ys, xs, xs] ≤ 100000 := by simp only [sumL, List.flatten_cons, List.flatten_nil, List.append_nil, List.length_append]; rw [H1.out, H2.out]; omega
                    have hb3 : Rd ESL (fun _ => True) (wp.alloc (.cells #[.slice A2 n2 c2, .slice A1 n1 c1, .slice A1 n1 c1] 22)) (.slice (some ⟨wp.heap.size, 0, none⟩) 3 3) [⟨A2, n2, c2⟩, ⟨A1, n1, c1⟩, ⟨A1, n1, c1⟩] :=
                      ((New.made (E := ESL) wp 22 [⟨A2, n2, c2⟩, ⟨A1, n1, c1⟩, ⟨A1, n1, c1⟩] (by simp [maxLen])).rd).wide fun _ _ => trivial
                    refine (paths_calls _ _ _ _ _ hb3 hall hsum).mono ?_
                    clear hall hsum hb3
                    rintro e w9 ⟨r9, rfl, hR9, hx9'⟩
                    rw [pathsF_rise, paths_three, HPS.out] at hR9
                    have hx9 : Ext wp w9 := ((Kp.refl _ wp).alloc _).trans hx9'
                    obtain ⟨A9, n9, c9, hv9⟩ := hR9.1.slice
                    subst hv9
                    go_wp2_with fail
                    refine (sameTexts_calls _ _ ps _ _ w9 hR9.rd (hR8.ext hx9).rd).mono ?_
                    rintro e w10 ⟨rfl, hx10⟩
                    have hN10 := (hN8.ext hx9).ext hx10
                    have hx210 := (hx.trans hx9).trans hx10
                    clear hR9 hx9' hx9 hN8 hR8 hx10 hx
                    go_wp2_with fail
                    go_loopw [7, 15] (fun o i wr => ∃ k : Nat, k ≤ n1 ∧ i = .int .i64 k ∧ New EF 30 m2.heap.size wr o (drp xs ((rot xs r).take k)) ∧ Ext m2 wr) (fun _ i _ => n1 - (intOf i).toNat)
                    case atStart => exact ⟨0, Nat.zero_le _, rfl, hN10, hx210⟩
                    case round =>
                      clear hN10 hx210
                      obtain ⟨k3, hk, rfl, hN, hx⟩ := hrel
                      rename World => wq
                      obtain ⟨A7, n7, c7, hv7⟩ := hN.1.slice
                      subst hv7
                      by_cases hlt : k3 < n1
                      · have hd3 : decide ((k3 : Int) < (n1 : Int)) = true := decide_eq_true (by omega)
                        obtain ⟨j, hj⟩ : ∃ j, (r + k3) % n1 = j := ⟨_, rfl⟩
                        have hjn : j < n1 := by rw [← hj]; exact Nat.mod_lt _ HN0.out
                        have hmod : ((r : Int) + (k3 : Int)).tmod (n1 : Int) = (j : Int) := by rw [← hj]; rfl
                        have hjc : j < xs.length := by have := H1.out; omega
                        obtain ⟨b1, f1, rfl, _, hb1, c0, c1⟩ := (HAO.out wq hx).rd.file hjc
                        obtain ⟨f, hf⟩ : ∃ f, xs[j] = f := ⟨_, rfl⟩
                        rw [hf] at c0 c1
                        have hrk : k3 < (rot xs r).length := by have := HRL.out; omega
                        have hrot : (rot xs r)[k3] = f := by
                          have h := rot_get xs r k3 (by have := H1.out; omega) (by have := H1.out; omega)
                          rw [H1.out, hj, List.getElem?_eq_getElem hjc, List.getElem?_eq_getElem hrk, hf] at h
                          injection h
                        have HG : Hid (drp xs ((rot xs r).take (k3 + 1)) = dropF (drp xs ((rot xs r).take k3)) f.path) := Lib.hid (by rw [take_snoc _ hrk, drp_snoc, hrot])
                        have hgl := drp_rot T1.out r k3 (by have := H1.out; omega)
                        rw [H1.out] at hgl
                        have HGL : Hid ((drp xs ((rot xs r).take k3)).length ≤ 12) := Lib.hid (by omega)
                        have hql := drp_rot T1.out r (k3 + 1) (by have := H1.out; omega)
                        rw [H1.out] at hql
                        obtain ⟨q, hq⟩ : ∃ q, n1 - (k3 + 1) = q := ⟨_, rfl⟩
                        rw [hq] at hql
                        have HQL := Lib.hid hql
                        have hqi : (n1 : Int) - 1 - (k3 : Int) = (q : Int) := by omega
                        clear hjc hf hrk hrot hgl hj hql c1
                        obtain ⟨fp, fd⟩ := f
                        dsimp only at c0 HG
                        have hlt' : (k3 : Int) < (n1 : Int) := by omega
                        have h0 : (0 : Int) ≤ (k3 : Int) := by omega
                        have hj0 : (0 : Int) ≤ (j : Int) := by omega
                        have hj1 : (j : Int) < (n1 : Int) := by omega
                        have hw1 : IntKind.i64.wrap ((r : Int) + (k3 : Int)) = (r : Int) + (k3 : Int) := IntWalk.i64_in _ (by omega)
                        have hw2 : IntKind.i64.wrap (j : Int) = (j : Int) := IntWalk.i64_in _ (by omega)
                        have HQ := Lib.hid hq
                        clear hq
                        go_wp2_with fail
                        refine (drop_calls _ fp _ _ wq hN.rd (by have := HGL.out; omega)).mono ?_
                        rintro e w11 ⟨v11, rfl, hN11, hx11⟩
                        rw [show ((drp xs ((rot xs r).take k3)).filter fun f => !(f.path.toList == fp.toList)) = drp xs ((rot xs r).take (k3 + 1)) from HG.out.symm] at hN11
                        obtain ⟨A11, c11, hv11, _⟩ := hN11.rd.open_
                        subst hv11
                        rw [HQL.out] at hN11 ⊢
                        have hN12 := hN11.less (m := m2.heap.size) hx.size
                        have hx12 := hx.trans hx11
                        clear hN hN11 hx hx11 c0
                        go_wp2_with fail
                        go_roundw
                        case rel => exact ⟨k3 + 1, by omega, by go_num, hN12, hx12⟩
                        case measure => simp [intOf]; omega
                      · have hd3 : decide ((k3 : Int) < (n1 : Int)) = false := decide_eq_false (by omega)
                        clear hN hk
                        go_wp2_with fail
                        refine (awake7_calls wq).mono ?_
                        rintro e w12 ⟨rfl, hx12⟩
                        go_wp2_with fail
                        go_ret
                        exact ⟨rfl, hx2c.trans (hx.trans hx12)⟩

end Go.Proofs.YtinafpbdlblcaaaDoor
