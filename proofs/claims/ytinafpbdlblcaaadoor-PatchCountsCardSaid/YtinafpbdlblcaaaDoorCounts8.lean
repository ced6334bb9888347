/-
  cortegelaw8.PatchCounts.
-/
import Derived.Test.YtinafpbdlblcaaaDoorPlain5
import Derived.Test.YtinafpbdlblcaaaDoorAwake8
import Derived.Test.YtinafpbdlblcaaaDoorMay2
namespace Go.Proofs.YtinafpbdlblcaaaDoor
open Go.RowKit
set_option linter.unusedVariables false
set_option linter.unusedSimpArgs false
attribute [local go_sem] Oper.semAt_some

set_option maxHeartbeats 4000000 in
set_option maxRecDepth 100000 in
theorem counts8_calls (va vb : Value) (xs ys : List File) (S : Fp) (w : World) (hA : Rd EF S w va xs) (hB : Rd EF S w vb ys) :
    Calls Tryd.prog 8 #[va, vb] w fun e w' => e = .returned (.bool true) ∧ Ext w w' := by
  have HG1 := Lib.hid (greatFiles_calls va xs 12 S w hA (by omega))
  have HG2 := Lib.hid (greatFiles_calls vb ys 12 S w hB (by omega))
  obtain ⟨A1, c1, ha, hO1⟩ := hA.open_
  obtain ⟨A2, c2, hb, hO2⟩ := hB.open_
  subst ha hb
  obtain ⟨n1, hn1⟩ : ∃ n, xs.length = n := ⟨_, rfl⟩
  obtain ⟨n2, hn2⟩ : ∃ n, ys.length = n := ⟨_, rfl⟩
  rw [hn1] at hA HG1 ⊢
  rw [hn2] at hB HG2 ⊢
  have H1 := Lib.hid hn1
  have H2 := Lib.hid hn2
  have HO1 := Lib.hid hO1
  have HO2 := Lib.hid hO2
  have HA := Lib.hid fun W (hW : Ext w W) => hA.kp (hW.mono fun _ _ _ => trivial)
  have HB := Lib.hid fun W (hW : Ext w W) => hB.kp (hW.mono fun _ _ _ => trivial)
  clear hn1 hn2 hA hB hO1 hO2
  go_enter Tryd.func8, Tryd.ntmps8
  go_wp2_with fail
  refine HG1.out.mono ?_
  rintro e w1 ⟨rfl, rfl⟩
  cases e1 : greatB xs 12 with
  | true =>
    go_wp2_with fail
    refine (awake8_calls w).mono ?_
    rintro e wz ⟨rfl, hxz⟩
    go_wp2_with fail
    go_ret
    exact ⟨rfl, hxz⟩
  | false =>
    have hl1 := (greatB_false e1).1
    have HP1 := Lib.hid (greatB_false e1).2
    rw [H1.out] at hl1
    clear e1 HG1
    go_wp2_with fail
    refine HG2.out.mono ?_
    rintro e w1 ⟨rfl, rfl⟩
    cases e2 : greatB ys 12 with
    | true =>
      go_wp2_with fail
      refine (awake8_calls w).mono ?_
      rintro e wz ⟨rfl, hxz⟩
      go_wp2_with fail
      go_ret
      exact ⟨rfl, hxz⟩
    | false =>
      have hl2 := (greatB_false e2).1
      have HP2 := Lib.hid (greatB_false e2).2
      rw [H2.out] at hl2
      clear e2 HG2
      go_wp2_with fail
      refine (may_calls _ xs _ w (HA.out w (Kp.refl _ w)) (by rw [H1.out]; omega) (fun y hy => by have := (HP1.out y hy).1; omega)).mono ?_
      rintro e m1 ⟨rfl, hm1⟩
      cases t1 : mayB xs with
      | false =>
        go_wp2_with fail
        refine (awake8_calls m1).mono ?_
        rintro e wz ⟨rfl, hxz⟩
        go_wp2_with fail
        go_ret
        exact ⟨rfl, hm1.trans hxz⟩
      | true =>
        have T1 := Lib.hid ((mayB_iff _).1 t1).rise
        have hx1c : Ext w m1 := hm1
        clear hm1 t1
        go_wp2_with fail
        refine (may_calls _ ys _ m1 (HB.out m1 hx1c) (by rw [H2.out]; omega) (fun y hy => by have := (HP2.out y hy).1; omega)).mono ?_
        rintro e m2 ⟨rfl, hm2⟩
        cases t2 : mayB ys with
        | false =>
          go_wp2_with fail
          refine (awake8_calls m2).mono ?_
          rintro e wz ⟨rfl, hxz⟩
          go_wp2_with fail
          go_ret
          exact ⟨rfl, (hx1c.trans hm2).trans hxz⟩
        | true =>
          have T2 := Lib.hid ((mayB_iff _).1 t2).rise
          have hx2c : Ext w m2 := (hx1c.trans hm2)
          clear hm2 t2 hx1c
          have hlen := ofF_length xs ys
          rw [H1.out, H2.out] at hlen
          have F1 := left_count xs ys T1.out
          have F2 := put_count xs ys T2.out
          have F3 := same_count xs ys T1.out
          have F4 := fun c (h : c ∈ ofF xs ys) => ofF_each h
          obtain ⟨cs, hcs⟩ : ∃ cs, ofF xs ys = cs := ⟨_, rfl⟩
          rw [hcs] at hlen F1 F2 F3 F4
          obtain ⟨m, hm⟩ : ∃ m, cs.length = m := ⟨_, rfl⟩
          rw [hm] at hlen F3
          obtain ⟨np, hnp⟩ : ∃ np, (riseT (flatP [xs, ys])).length = np := ⟨_, rfl⟩
          rw [hnp] at F3
          have HF1 := Lib.hid F1
          have HF2 := Lib.hid F2
          have HF3 := Lib.hid F3
          have HF4 := Lib.hid F4
          have HCS := Lib.hid hcs
          have HM := Lib.hid hm
          have HNP := Lib.hid hnp
          have hm24 : m ≤ 24 := by omega
          clear F1 F2 F3 F4 hcs hm hlen hnp
          go_wp2_with fail
          refine (of_patch_calls _ _ xs ys _ _ m2 (HA.out m2 hx2c) (HB.out m2 hx2c) (by rw [H1.out]; omega) (by rw [H2.out]; omega)).mono ?_
          rintro e w2 ⟨o1, rfl, hO1, hx2⟩
          rw [HCS.out] at hO1
          obtain ⟨Ao1, co1, hvo1, hOp1⟩ := hO1.rd.open_
          subst hvo1
          rw [HM.out] at hO1 ⊢
          have hx2d := hx2c.trans hx2
          have HCO := Lib.hid fun W (hW : Ext w2 W) => hOp1.kp (hW.mono fun _ _ _ => trivial)
          have HAO := Lib.hid fun W (hW : Ext w2 W) => HO1.out.kp ((hx2d.trans hW).mono fun _ _ _ => trivial)
          have HBO := Lib.hid fun W (hW : Ext w2 W) => HO2.out.kp ((hx2d.trans hW).mono fun _ _ _ => trivial)
          clear hO1 hOp1 hx2 hx2c
          go_wp2_with fail
          go_loopw [6, 7, 9] (fun s l i wr => ∃ k sc lc : Nat, k ≤ n1 ∧ s = .int .i64 sc ∧ l = .int .i64 lc ∧ i = .int .i64 k ∧ sc ≤ k ∧ lc ≤ k ∧ Hid ((xs.take k).countP (sameQ ys) = sc) ∧ Hid ((xs.take k).countP (goneQ ys) = lc) ∧ Ext w2 wr) (fun _ _ i _ => n1 - (intOf i).toNat)
          case atStart => exact ⟨0, 0, 0, Nat.zero_le _, rfl, rfl, rfl, Nat.le_refl _, Nat.le_refl _, Lib.hid rfl, Lib.hid rfl, Kp.refl _ _⟩
          case round =>
            obtain ⟨k, sc, lc, hk, rfl, rfl, rfl, hsk, hlk, HSC, HLC, hx⟩ := hrel
            rename World => wo
            by_cases hlt : k < n1
            · have hd3 : decide ((k : Int) < (n1 : Int)) = true := decide_eq_true (by omega)
              have hkc : k < xs.length := by have := H1.out; omega
              obtain ⟨b1, f1, rfl, _, hb1, c0, c1⟩ := (HAO.out wo hx).rd.file hkc
              obtain ⟨f, hf⟩ : ∃ f, xs[k] = f := ⟨_, rfl⟩
              rw [hf] at c0 c1
              have HS1 : Hid ((xs.take (k + 1)).countP (sameQ ys) = sc + if sameQ ys f then 1 else 0) := Lib.hid (by rw [take_snoc xs hkc, List.countP_append, HSC.out, List.countP_singleton, hf])
              have HL1 : Hid ((xs.take (k + 1)).countP (goneQ ys) = lc + if goneQ ys f then 1 else 0) := Lib.hid (by rw [take_snoc xs hkc, List.countP_append, HLC.out, List.countP_singleton, hf])
              clear hkc hf
              obtain ⟨fp, fd⟩ := f
              dsimp only at c0 c1
              have hlt' : (k : Int) < (n1 : Int) := by omega
              have h0 : (0 : Int) ≤ (k : Int) := by omega
              clear HSC HLC
              go_wp2_with fail
              refine (get_calls _ fp ys _ wo (HB.out wo (hx2d.trans hx)) (by rw [H2.out]; omega)).mono ?_
              rintro e w3 ⟨rfl, hx3⟩
              have d0 := (hx3.cell (p := ⟨b1, f1 + k * 2, none⟩) hb1 trivial).trans c0
              have d1 := (hx3.cell (p := ⟨b1, f1 + k * 2 + 1, none⟩) hb1 trivial).trans c1
              have hxx := hx.trans hx3
              clear c0 c1 hx hx3
              have HQ1 : Hid (sameQ ys ⟨fp, fd⟩ = ((getF ys fp).isSome && ((getD ys fp).toList == fd.toList))) := Lib.hid rfl
              have HQ2 : Hid (goneQ ys ⟨fp, fd⟩ = !(getF ys fp).isSome) := Lib.hid rfl
              obtain ⟨g, hg⟩ : ∃ g, (getF ys fp).isSome = g := ⟨_, rfl⟩
              obtain ⟨d, hd⟩ : ∃ d, getD ys fp = d := ⟨_, rfl⟩
              rw [hg] at HQ1 HQ2 ⊢
              rw [hd] at HQ1 ⊢
              clear hg hd
              cases g with
              | true =>
                cases hde : (d.toList == fd.toList) with
                | true =>
                  go_wp2_with fail
                  go_roundw
                  case rel => exact ⟨k + 1, sc + 1, lc, by omega, by go_num, rfl, by go_num, by omega, by omega, Lib.hid (by rw [HS1.out, HQ1.out, hde]; rfl), Lib.hid (by rw [HL1.out, HQ2.out]; rfl), hxx⟩
                  case measure => simp [intOf]; omega
                | false =>
                  go_wp2_with fail
                  go_roundw
                  case rel => exact ⟨k + 1, sc, lc, by omega, rfl, rfl, by go_num, by omega, by omega, Lib.hid (by rw [HS1.out, HQ1.out, hde]; rfl), Lib.hid (by rw [HL1.out, HQ2.out]; rfl), hxx⟩
                  case measure => simp [intOf]; omega
              | false =>
                go_wp2_with fail
                go_roundw
                case rel => exact ⟨k + 1, sc, lc + 1, by omega, rfl, by go_num, by go_num, by omega, by omega, Lib.hid (by rw [HS1.out, HQ1.out]; rfl), Lib.hid (by rw [HL1.out, HQ2.out]; rfl), hxx⟩
                case measure => simp [intOf]; omega
            · have hd3 : decide ((k : Int) < (n1 : Int)) = false := decide_eq_false (by omega)
              have hall : xs.take k = xs := List.take_of_length_le (by have := H1.out; omega)
              have HS : Hid (xs.countP (sameQ ys) = sc) := Lib.hid (by rw [← HSC.out, hall])
              have HL : Hid (xs.countP (goneQ ys) = lc) := Lib.hid (by rw [← HLC.out, hall])
              clear hall HSC HLC
              have hsn : sc ≤ n1 := by omega
              have hln : lc ≤ n1 := by omega
              clear hk hsk hlk
              go_wp2_with fail
              clear hlt hd3
              go_loopw [8, 12] (fun s i wr => ∃ k pc : Nat, k ≤ n2 ∧ s = .int .i64 pc ∧ i = .int .i64 k ∧ pc ≤ k ∧ Hid ((ys.take k).countP (goneQ xs) = pc) ∧ Ext w2 wr) (fun _ i _ => n2 - (intOf i).toNat)
              case atStart => exact ⟨0, 0, Nat.zero_le _, rfl, rfl, Nat.le_refl _, Lib.hid rfl, hx⟩
              case round =>
                clear hx
                obtain ⟨k2, pc, hk, rfl, rfl, hpk, HPC, hx⟩ := hrel
                rename World => wp
                by_cases hlt : k2 < n2
                · have hd3 : decide ((k2 : Int) < (n2 : Int)) = true := decide_eq_true (by omega)
                  have hkc : k2 < ys.length := by have := H2.out; omega
                  obtain ⟨b1, f1, rfl, _, hb1, c0, c1⟩ := (HBO.out wp hx).rd.file hkc
                  obtain ⟨f, hf⟩ : ∃ f, ys[k2] = f := ⟨_, rfl⟩
                  rw [hf] at c0
                  have HL1 : Hid ((ys.take (k2 + 1)).countP (goneQ xs) = pc + if goneQ xs f then 1 else 0) := Lib.hid (by rw [take_snoc ys hkc, List.countP_append, HPC.out, List.countP_singleton, hf])
                  clear hkc hf c1
                  obtain ⟨fp, fd⟩ := f
                  dsimp only at c0
                  have hlt' : (k2 : Int) < (n2 : Int) := by omega
                  have h0 : (0 : Int) ≤ (k2 : Int) := by omega
                  clear HPC
                  go_wp2_with fail
                  refine (get_calls _ fp xs _ wp (HA.out wp (hx2d.trans hx)) (by rw [H1.out]; omega)).mono ?_
                  rintro e w3 ⟨rfl, hx3⟩
                  have hxx := hx.trans hx3
                  clear c0 hx hx3
                  have HQ2 : Hid (goneQ xs ⟨fp, fd⟩ = !(getF xs fp).isSome) := Lib.hid rfl
                  obtain ⟨g, hg⟩ : ∃ g, (getF xs fp).isSome = g := ⟨_, rfl⟩
                  rw [hg] at HQ2 ⊢
                  clear hg
                  cases g with
                  | true =>
                    go_wp2_with fail
                    go_roundw
                    case rel => exact ⟨k2 + 1, pc, by omega, rfl, by go_num, by omega, Lib.hid (by rw [HL1.out, HQ2.out]; rfl), hxx⟩
                    case measure => simp [intOf]; omega
                  | false =>
                    go_wp2_with fail
                    go_roundw
                    case rel => exact ⟨k2 + 1, pc + 1, by omega, by go_num, by go_num, by omega, Lib.hid (by rw [HL1.out, HQ2.out]; rfl), hxx⟩
                    case measure => simp [intOf]; omega
                · have hd3 : decide ((k2 : Int) < (n2 : Int)) = false := decide_eq_false (by omega)
                  have hall : ys.take k2 = ys := List.take_of_length_le (by have := H2.out; omega)
                  have HP : Hid (ys.countP (goneQ xs) = pc) := Lib.hid (by rw [← HPC.out, hall])
                  clear hall HPC
                  have hpn : pc ≤ n2 := by omega
                  clear hk hpk
                  go_wp2_with fail
                  clear hlt hd3
                  go_loopw [7, 8, 15] (fun l q i wr => ∃ (k : Nat) (li qi : Int), k ≤ m ∧ l = .int .i64 li ∧ q = .int .i64 qi ∧ i = .int .i64 k ∧ (-(k : Int) ≤ li ∧ li ≤ 12) ∧ (-(k : Int) ≤ qi ∧ qi ≤ 12) ∧ Hid (li = (lc : Int) - ((cs.take k).countP leftC : Nat)) ∧ Hid (qi = (pc : Int) - ((cs.take k).countP putC : Nat)) ∧ Ext w2 wr) (fun _ _ i _ => m - (intOf i).toNat)
                  case atStart => exact ⟨0, lc, pc, Nat.zero_le _, rfl, rfl, rfl, ⟨by omega, by omega⟩, ⟨by omega, by omega⟩, Lib.hid (by simp), Lib.hid (by simp), hx⟩
                  case round =>
                    clear hx
                    obtain ⟨k3, li, qi, hk, rfl, rfl, rfl, hlb, hqb, HLI, HQI, hx⟩ := hrel
                    rename World => wq
                    obtain ⟨hlb1, hlb2⟩ := hlb
                    obtain ⟨hqb1, hqb2⟩ := hqb
                    by_cases hlt : k3 < m
                    · have hd3 : decide ((k3 : Int) < (m : Int)) = true := decide_eq_true (by omega)
                      have hkc : k3 < cs.length := by have := HM.out; omega
                      obtain ⟨b1, f1, rfl, _, hb1, c0, c1, c2, c3, c4⟩ := (HCO.out wq hx).rd.ch hkc
                      obtain ⟨ch, hch⟩ : ∃ ch, cs[k3] = ch := ⟨_, rfl⟩
                      obtain ⟨he1, he2, he3⟩ := HF4.out _ (List.getElem_mem hkc)
                      rw [hch] at c1 c2 c3 c4 he1 he2 he3
                      have HS1 : Hid ((cs.take (k3 + 1)).countP leftC = (cs.take k3).countP leftC + if leftC ch then 1 else 0) := Lib.hid (by rw [take_snoc cs hkc, List.countP_append, List.countP_singleton, hch])
                      have HL1 : Hid ((cs.take (k3 + 1)).countP putC = (cs.take k3).countP putC + if putC ch then 1 else 0) := Lib.hid (by rw [take_snoc cs hkc, List.countP_append, List.countP_singleton, hch])
                      clear hkc hch c0
                      obtain ⟨cp, cw, ci, co, cn⟩ := ch
                      dsimp only at c1 c2 c3 c4 he1 he2 he3
                      have hlt' : (k3 : Int) < (m : Int) := by omega
                      have h0 : (0 : Int) ≤ (k3 : Int) := by omega
                      cases cw with
                      | true =>
                        clear he1 he2
                        cases ci with
                        | true =>
                          clear he3
                          go_wp2_with fail
                          go_roundw
                          case rel => exact ⟨k3 + 1, li, qi, by omega, rfl, rfl, by go_num, ⟨by omega, by omega⟩, ⟨by omega, by omega⟩, Lib.hid (by rw [HS1.out]; exact HLI.out), Lib.hid (by rw [HL1.out]; exact HQI.out), hx⟩
                          case measure => simp [intOf]; omega
                        | false =>
                          have he := he3 rfl
                          subst he
                          clear he3
                          have hw : IntKind.i64.wrap (li - 1) = li - 1 := IntWalk.i64_in _ (by omega)
                          go_wp2_with fail
                          go_roundw
                          case rel => exact ⟨k3 + 1, li - 1, qi, by omega, rfl, rfl, by go_num, ⟨by omega, by omega⟩, ⟨by omega, by omega⟩, Lib.hid (by rw [HS1.out, show (if leftC (⟨cp, true, false, co, ⟨#[]⟩⟩ : Ch) = true then 1 else 0) = 1 from rfl]; have := HLI.out; omega), Lib.hid (by rw [HL1.out]; exact HQI.out), hx⟩
                          case measure => simp [intOf]; omega
                      | false =>
                        have he := he2 rfl
                        subst he
                        cases ci with
                        | true =>
                          clear he1 he2 he3
                          have hw : IntKind.i64.wrap (qi - 1) = qi - 1 := IntWalk.i64_in _ (by omega)
                          go_wp2_with fail
                          go_roundw
                          case rel => exact ⟨k3 + 1, li, qi - 1, by omega, rfl, rfl, by go_num, ⟨by omega, by omega⟩, ⟨by omega, by omega⟩, Lib.hid (by rw [HS1.out]; exact HLI.out), Lib.hid (by rw [HL1.out, show (if putC (⟨cp, false, true, ⟨#[]⟩, cn⟩ : Ch) = true then 1 else 0) = 1 from rfl]; have := HQI.out; omega), hx⟩
                          case measure => simp [intOf]; omega
                        | false => simp at he1
                    · have hd3 : decide ((k3 : Int) < (m : Int)) = false := decide_eq_false (by omega)
                      have hall : cs.take k3 = cs := List.take_of_length_le (by have := HM.out; omega)
                      have hl0 : li = 0 := by
                        have h1 := HLI.out
                        rw [hall, ← HF1.out, HL.out] at h1
                        omega
                      have hq0 : qi = 0 := by
                        have h1 := HQI.out
                        rw [hall, ← HF2.out, HP.out] at h1
                        omega
                      subst hl0 hq0
                      have hxq := hx2d.trans hx
                      clear hall HLI HQI hlb1 hlb2 hqb1 hqb2 hk hx
                      go_wp2_with fail
                      clear hd3 hlt
                      have hall : RdAll (fun _ => True) (wq.alloc (.cells #[.slice A1 n1 c1, .slice A2 n2 c2] 22)) [⟨A1, n1, c1⟩, ⟨A2, n2, c2⟩] [xs, ys] :=
                        .cons ((HA.out _ (hxq.alloc _)).wide fun _ _ => trivial) (.cons ((HB.out _ (hxq.alloc _)).wide fun _ _ => trivial) .nil)
                      have hsum : sumL [xs, ys] ≤ 100000 := by simp only [sumL, List.flatten_cons, List.flatten_nil, List.append_nil, List.length_append]; rw [H1.out, H2.out]; omega
                      refine (paths_calls _ _ _ _ _ ((built2 wq 22 ⟨A1, n1, c1⟩ ⟨A2, n2, c2⟩).wide fun _ _ => trivial) hall hsum).mono ?_
                      clear hall hsum
                      rintro e w5 ⟨r5, rfl, hR5, hx5'⟩
                      rw [pathsF_rise] at hR5
                      obtain ⟨A5, c5, hv5, _⟩ := hR5.rd.open_
                      subst hv5
                      rw [HNP.out]
                      have hx5 : Ext w w5 := (hxq.alloc _).trans hx5'
                      have hmn : m + sc = np := by have := HF3.out; rw [HS.out] at this; exact this
                      have hmi : (m : Int) + (sc : Int) = (np : Int) := by omega
                      clear hR5 hx5' hxq hmn
                      go_wp2_with fail
                      refine (of_patch_calls _ _ [] xs (fun _ => True) S w5 (Rd.nil _ _) (HA.out w5 hx5) (by simp) (by rw [H1.out]; omega)).mono ?_
                      rintro e w6 ⟨o6, rfl, hO6, hx6⟩
                      obtain ⟨A6, c6, hv6, _⟩ := hO6.rd.open_
                      subst hv6
                      rw [ofF_nil_left xs T1.out, H1.out]
                      clear hO6
                      go_wp2_with fail
                      refine (of_patch_calls _ _ xs [] S (fun _ => True) w6 (HA.out w6 (hx5.trans hx6)) (Rd.nil _ _) (by rw [H1.out]; omega) (by simp)).mono ?_
                      rintro e w7 ⟨o7, rfl, hO7, hx7⟩
                      obtain ⟨A7, c7, hv7, _⟩ := hO7.rd.open_
                      subst hv7
                      rw [ofF_nil_right xs T1.out, H1.out]
                      clear hO7
                      go_wp2_with fail
                      refine (awake8_calls w7).mono ?_
                      rintro e w8 ⟨rfl, hx8⟩
                      go_wp2_with fail
                      go_ret
                      exact ⟨rfl, ((hx5.trans hx6).trans hx7).trans hx8⟩

end Go.Proofs.YtinafpbdlblcaaaDoor
