/-
  cortegelaw7.TreeTells.
-/
import Derived.Test.YtinafpbdlblcaaaDoorRefM
import Derived.Test.YtinafpbdlblcaaaDoorRef7b
import Derived.Test.YtinafpbdlblcaaaDoorAwake7
namespace Go.Proofs.YtinafpbdlblcaaaDoor
open Go.RowKit
set_option linter.unusedVariables false
set_option linter.unusedSimpArgs false
attribute [local go_sem] Oper.semAt_some

set_option maxHeartbeats 1000000 in
set_option maxRecDepth 100000 in
theorem tells7_calls (va vb : Value) (p d : ByteArray) (xs ys : List File) (S : Fp) (w : World) (hA : Rd EF S w va xs) (hB : Rd EF S w vb ys) :
    Calls Tryd.prog 5 #[va, vb, .string p, .string d] w fun e w' => e = .returned (.bool true) ∧ Ext w w' := by
  have hg1 := fun W (hW : Ext w W) => greatFiles_calls va xs 20 S W (hA.kp (hW.mono fun _ _ _ => trivial)) (by omega)
  have hg2 := fun W (hW : Ext w W) => greatFiles_calls vb ys 20 S W (hB.kp (hW.mono fun _ _ _ => trivial)) (by omega)
  obtain ⟨A1, c1, ha, hOa⟩ := hA.open_
  obtain ⟨A2, c2, hb, hOb⟩ := hB.open_
  subst ha hb
  obtain ⟨n1, hn1⟩ : ∃ n, xs.length = n := ⟨_, rfl⟩
  obtain ⟨n2, hn2⟩ : ∃ n, ys.length = n := ⟨_, rfl⟩
  rw [hn1] at hA hg1 ⊢
  rw [hn2] at hB hg2 ⊢
  have H1 := Lib.hid hn1
  have H2 := Lib.hid hn2
  have HG1 := Lib.hid hg1
  have HG2 := Lib.hid hg2
  clear hn1 hn2 hg1 hg2 hOa hOb
  by_cases hgr : greatB xs 20 = true ∨ greatB ys 20 = true ∨ 100 < p.size ∨ 500 < d.size
  · have hr : ∃ b1 b2 b3 b4 : Bool, greatB xs 20 = b1 ∧ greatB ys 20 = b2 ∧ decide ((100 : Int) < (p.size : Int)) = b3 ∧ decide ((500 : Int) < (d.size : Int)) = b4 ∧ (b1 = true ∨ b1 = false ∧ b2 = true ∨ b1 = false ∧ b2 = false ∧ b3 = true ∨ b1 = false ∧ b2 = false ∧ b3 = false ∧ b4 = true) := by
      refine ⟨_, _, _, _, rfl, rfl, rfl, rfl, ?_⟩
      cases h1 : greatB xs 20 with
      | true => exact .inl rfl
      | false =>
        cases h2 : greatB ys 20 with
        | true => exact .inr (.inl ⟨rfl, rfl⟩)
        | false =>
          by_cases h3 : 100 < p.size
          · exact .inr (.inr (.inl ⟨rfl, rfl, decide_eq_true (by omega)⟩))
          · refine .inr (.inr (.inr ⟨rfl, rfl, decide_eq_false (by omega), decide_eq_true ?_⟩))
            rcases hgr with h | h | h | h
            · rw [h1] at h; cases h
            · rw [h2] at h; cases h
            · omega
            · omega
    obtain ⟨b1, b2, b3, b4, e1, e2, e3, e4, hbb⟩ := hr
    clear hgr
    rcases hbb with rfl | ⟨rfl, rfl⟩ | ⟨rfl, rfl, rfl⟩ | ⟨rfl, rfl, rfl, rfl⟩
    · go_enter Tryd.func5, Tryd.ntmps5
      go_wp2_with fail
      refine (HG1.out w (Kp.refl _ _)).mono ?_
      rintro e w1 ⟨rfl, rfl⟩
      rw [e1]
      go_wp2_with fail
      refine (awake7_calls w).mono ?_
      rintro e w2 ⟨rfl, hx2⟩
      go_wp2_with fail
      go_ret
      exact ⟨rfl, hx2⟩
    all_goals
      go_enter Tryd.func5, Tryd.ntmps5
      go_wp2_with fail
      refine (HG1.out w (Kp.refl _ _)).mono ?_
      rintro e w1 ⟨rfl, rfl⟩
      rw [e1]
      go_wp2_with fail
      refine (HG2.out w (Kp.refl _ _)).mono ?_
      rintro e w1 ⟨rfl, rfl⟩
      rw [e2]
      go_wp2_with fail
      refine (awake7_calls w).mono ?_
      rintro e w2 ⟨rfl, hx2⟩
      go_wp2_with fail
      go_ret
      exact ⟨rfl, hx2⟩
  · have e1 : greatB xs 20 = false := by cases h : greatB xs 20 with | true => exact absurd (.inl h) hgr | false => rfl
    have e2 : greatB ys 20 = false := by cases h : greatB ys 20 with | true => exact absurd (.inr (.inl h)) hgr | false => rfl
    have hps : p.size ≤ 100 := by
      rcases Nat.lt_or_ge 100 p.size with h | h
      · exact absurd (.inr (.inr (.inl h))) hgr
      · exact h
    have hds : d.size ≤ 500 := by
      rcases Nat.lt_or_ge 500 d.size with h | h
      · exact absurd (.inr (.inr (.inr h))) hgr
      · exact h
    have e3 : decide ((100 : Int) < (p.size : Int)) = false := decide_eq_false (by omega)
    have e4 : decide ((500 : Int) < (d.size : Int)) = false := decide_eq_false (by omega)
    have hl1 := (greatB_false e1).1
    have hl2 := (greatB_false e2).1
    have hp1 := Lib.hid (greatB_false e1).2
    rw [H1.out] at hl1
    rw [H2.out] at hl2
    clear hgr
    go_enter Tryd.func5, Tryd.ntmps5
    go_wp2_with fail
    refine (HG1.out w (Kp.refl _ _)).mono ?_
    rintro e w1 ⟨rfl, rfl⟩
    rw [e1]
    go_wp2_with fail
    refine (HG2.out w (Kp.refl _ _)).mono ?_
    rintro e w1 ⟨rfl, rfl⟩
    rw [e2]
    clear e1 e2 HG1 HG2
    go_wp2_with (go_at_call 19; refine stop ?_)
    clear e3 e4
    have hlend := lendFiles_calls _ xs _ w hA (by rw [H1.out]; omega)
    rw [H1.out] at hlend
    refine hlend.mono ?_
    clear hlend
    rintro e w4 ⟨g, rfl, hgs, hBl, hx4⟩
    have hL : LentF w4 g xs := ⟨hBl, by rw [H1.out]; omega⟩
    have hLr := hL.rd
    rw [H1.out] at hLr
    have hA5 := hA.kp (hx4.mono fun _ _ _ => trivial)
    have hB5 := hB.kp (hx4.mono fun _ _ _ => trivial)
    have hgl : g < w4.heap.size := hBl.lt
    clear hBl
    go_wp2_with fail
    refine (get_calls _ p xs _ w4 hLr (by rw [H1.out]; omega)).mono ?_
    rintro e w5 ⟨rfl, hx5⟩
    go_wp2_with fail
    refine (refGet_calls _ p xs _ w5 (hA5.kp (hx5.mono fun _ _ _ => trivial)) (by rw [H1.out]; omega)).mono ?_
    rintro e w6 ⟨rfl, hx6⟩
    obtain ⟨gb, hgb⟩ : ∃ b, (getF xs p).isSome = b := ⟨_, rfl⟩
    obtain ⟨gd, hgd⟩ : ∃ b, getD xs p = b := ⟨_, rfl⟩
    rw [hgb, hgd]
    clear hgb hgd
    have hx46 := hx5.trans hx6
    clear hx5 hx6
    have hK : ∀ W, Ext w4 W → Rd EF (fun k => k = g) W (.slice (some ⟨g, 0, none⟩) n1 (n1 + 3)) xs := fun W hW => hLr.kp (hW.mono fun _ _ _ => trivial)
    have hAk : ∀ W, Ext w4 W → Rd EF S W (.slice A1 n1 c1) xs := fun W hW => hA5.kp (hW.mono fun _ _ _ => trivial)
    have hBk : ∀ W, Ext w4 W → Rd EF S W (.slice A2 n2 c2) ys := fun W hW => hB5.kp (hW.mono fun _ _ _ => trivial)
    have HK := Lib.hid hK
    have HAK := Lib.hid hAk
    have HBK := Lib.hid hBk
    clear hK hAk hBk
    go_wp2_with fail
    refine (put38_calls _ p d xs _ w6 (HK.out w6 hx46) (by rw [H1.out]; omega)).mono ?_
    rintro e w7 ⟨r1, rfl, hR1, hx7⟩
    have hx47 := hx46.trans hx7
    obtain ⟨Ar1, nr1, cr1, hvr1⟩ := hR1.1.slice
    subst hvr1
    go_wp2_with fail
    refine (drop_calls _ p xs _ w7 (HK.out w7 hx47) (by rw [H1.out]; omega)).mono ?_
    rintro e w8 ⟨r2, rfl, hR2, hx8⟩
    have hx48 := hx47.trans hx8
    obtain ⟨Ar2, nr2, cr2, hvr2⟩ := hR2.1.slice
    subst hvr2
    have hsum : sumL [xs, ys, []] ≤ 100000 := by simp only [sumL, List.flatten_cons, List.flatten_nil, List.append_nil, List.length_append]; rw [H1.out, H2.out]; omega
    have hall : RdAll (fun _ => True) (w8.alloc (.cells #[.slice (some ⟨g, 0, none⟩) n1 (n1 + 3), .slice A2 n2 c2, .slice none 0 0] 22)) [⟨some ⟨g, 0, none⟩, n1, n1 + 3⟩, ⟨A2, n2, c2⟩, ⟨none, 0, 0⟩] [xs, ys, []] :=
      .cons ((HK.out _ (hx48.alloc _)).wide fun _ _ => trivial) (.cons ((HBK.out _ (hx48.alloc _)).wide fun _ _ => trivial) (.cons (Rd.nil _ _) .nil))
    have hb3 : Rd ESL (fun _ => True) (w8.alloc (.cells #[.slice (some ⟨g, 0, none⟩) n1 (n1 + 3), .slice A2 n2 c2, .slice none 0 0] 22)) (.slice (some ⟨w8.heap.size, 0, none⟩) 3 3) [⟨some ⟨g, 0, none⟩, n1, n1 + 3⟩, ⟨A2, n2, c2⟩, ⟨none, 0, 0⟩] :=
      ((New.made (E := ESL) w8 22 [⟨some ⟨g, 0, none⟩, n1, n1 + 3⟩, ⟨A2, n2, c2⟩, ⟨none, 0, 0⟩] (by simp [maxLen])).rd).wide fun _ _ => trivial
    go_wp2_with fail
    refine (paths_calls _ _ _ _ _ hb3 hall hsum).mono ?_
    clear hall hb3
    rintro e w9 ⟨r3, rfl, hR3, hx9'⟩
    have hpe : pathsF [xs, ys, []] = riseT (flatP [xs, ys]) := by
      rw [pathsF_rise]
      unfold flatP
      simp
    rw [hpe] at hR3
    have hpl : (riseT (flatP [xs, ys])).length ≤ 10000 := Nat.le_trans (riseT_length _) (by
      unfold flatP
      simp only [List.length_map, List.flatten_cons, List.flatten_nil, List.append_nil, List.length_append]; rw [H1.out, H2.out]; omega)
    obtain ⟨ps, hps⟩ : ∃ ps, riseT (flatP [xs, ys]) = ps := ⟨_, rfl⟩
    rw [hps] at hR3 hpl
    have HPS := Lib.hid hps
    have hx9 : Ext w8 w9 := ((Kp.refl _ w8).alloc _).trans hx9'
    have hx49 := hx48.trans hx9
    have hR1n : New EF 30 w4.heap.size w9 (.slice Ar1 nr1 cr1) (putF xs p d) := ((hR1.ext hx8).ext hx9).less hx46.size
    have hR2n : New EF 30 w4.heap.size w9 (.slice Ar2 nr2 cr2) (drF xs p) := (hR2.ext hx9).less hx47.size
    have hR3n : New ES 9 w4.heap.size w9 r3 ps := hR3.less (by have := hx48.size; simp; omega)
    have hd12 : ∀ k, (Value.slice Ar1 nr1 cr1).ownBlock = some k → k < w7.heap.size := fun k h => hR1.1.lt h
    have hd23 : ∀ k, (Value.slice Ar2 nr2 cr2).ownBlock = some k → w7.heap.size ≤ k ∧ k < w8.heap.size := fun k h => ⟨hR2.2 k h, hR2.1.lt h⟩
    have hd33 : ∀ k, r3.ownBlock = some k → w8.heap.size ≤ k := fun k h => by have := hR3.2 k h; simp at this; omega
    have hz78 := hx8.size
    clear hps hpe hR1 hR2 hR3 hsum hx46 hx7 hx47 hx8 hx9' hx48 hx9
    obtain ⟨Ar3, nr3, cr3, hvr3⟩ := hR3n.1.slice
    subst hvr3
    go_wp2_with fail
    refine (refPut_calls _ p d xs _ w9 (HAK.out w9 hx49) (by rw [H1.out]; omega)).mono ?_
    rintro e w10 ⟨q1, rfl, hQ1, hx10⟩
    obtain ⟨As1, ns1, cs1, hvs1⟩ := hQ1.1.slice
    subst hvs1
    go_wp2_with fail
    refine (sameFiles_calls _ _ (putF xs p d) (putF xs p d) _ _ w10 (hR1n.ext hx10).rd hQ1.rd).mono ?_
    rintro e w11 ⟨rfl, hx11⟩
    rw [sameB_refl]
    have hx4b := (hx49.trans hx10).trans hx11
    have hR1b := (hR1n.ext hx10).ext hx11
    have hR2b := (hR2n.ext hx10).ext hx11
    have hR3b := (hR3n.ext hx10).ext hx11
    clear hQ1 hx49 hx10 hx11 hR1n hR2n hR3n
    go_wp2_with fail
    refine (refDrop_calls _ p xs _ w11 (HAK.out w11 hx4b) (by rw [H1.out]; omega)).mono ?_
    rintro e w12 ⟨q2, rfl, hQ2, hx12⟩
    obtain ⟨As2, ns2, cs2, hvs2⟩ := hQ2.1.slice
    subst hvs2
    go_wp2_with fail
    refine (sameFiles_calls _ _ (drF xs p) (drF xs p) _ _ w12 (hR2b.ext hx12).rd hQ2.rd).mono ?_
    rintro e w13 ⟨rfl, hx13⟩
    rw [sameB_refl]
    have hx4c := (hx4b.trans hx12).trans hx13
    have hR1c := (hR1b.ext hx12).ext hx13
    have hR2c := (hR2b.ext hx12).ext hx13
    have hR3c := (hR3b.ext hx12).ext hx13
    clear hQ2 hx4b hx12 hx13 hR1b hR2b hR3b
    have hsum : sumL [xs, ys] ≤ 100000 := by simp only [sumL, List.flatten_cons, List.flatten_nil, List.append_nil, List.length_append]; rw [H1.out, H2.out]; omega
    have hall : RdAll (fun _ => True) (w13.alloc (.cells #[.slice A1 n1 c1, .slice A2 n2 c2] 22)) [⟨A1, n1, c1⟩, ⟨A2, n2, c2⟩] [xs, ys] :=
      .cons ((HAK.out _ (hx4c.alloc _)).wide fun _ _ => trivial) (.cons ((HBK.out _ (hx4c.alloc _)).wide fun _ _ => trivial) .nil)
    have hb3 : Rd ESL (fun _ => True) (w13.alloc (.cells #[.slice A1 n1 c1, .slice A2 n2 c2] 22)) (.slice (some ⟨w13.heap.size, 0, none⟩) 2 2) [⟨A1, n1, c1⟩, ⟨A2, n2, c2⟩] :=
      ((New.made (E := ESL) w13 22 [⟨A1, n1, c1⟩, ⟨A2, n2, c2⟩] (by simp [maxLen])).rd).wide fun _ _ => trivial
    go_wp2_with fail
    refine (refPaths_calls _ _ _ _ _ hb3 hall hsum).mono ?_
    clear hall hb3 hsum
    rintro e w14 ⟨q3, rfl, hQ3, hx14'⟩
    rw [HPS.out] at hQ3
    have hx14 : Ext w13 w14 := ((Kp.refl _ w13).alloc _).trans hx14'
    clear hx14'
    obtain ⟨As3, ns3, cs3, hvs3⟩ := hQ3.1.slice
    subst hvs3
    go_wp2_with fail
    refine (sameTexts_calls _ _ ps _ _ w14 (hR3c.ext hx14).rd hQ3.rd).mono ?_
    rintro e w15 ⟨rfl, hx15⟩
    have hx4d := (hx4c.trans hx14).trans hx15
    have hR1d := (hR1c.ext hx14).ext hx15
    have hR2d := (hR2c.ext hx14).ext hx15
    have hR3d := (hR3c.ext hx14).ext hx15
    clear hQ3 hx4c hx14 hx15 hR1c hR2c hR3c
    go_wp2_with fail
    refine (path_calls p w15 (by omega)).mono ?_
    rintro e w16 ⟨rfl, hx16⟩
    go_wp2_with fail
    refine (refPath_calls p w16 (by omega)).mono ?_
    rintro e w17 ⟨rfl, rfl⟩
    have hx4e := hx4d.trans hx16
    have hR1e := hR1d.ext hx16
    have hR2e := hR2d.ext hx16
    have hR3e := hR3d.ext hx16
    clear hx4d hx16 hR1d hR2d hR3d
    obtain ⟨pb, hpb⟩ : ∃ b, pathB p = b := ⟨_, rfl⟩
    rw [hpb]
    clear hpb
    go_wp2_with fail
    refine (may_calls _ xs _ w17 (HK.out w17 hx4e) (by rw [H1.out]; omega) (fun y hy => by have := (hp1.out y hy).1; omega)).mono ?_
    rintro e w18 ⟨rfl, hx18⟩
    go_wp2_with fail
    refine (refMay_calls _ xs _ w18 (HAK.out w18 (hx4e.trans hx18)) (fun y hy => by have := (hp1.out y hy).1; omega)).mono ?_
    rintro e w19 ⟨rfl, hx19⟩
    have hx4f := (hx4e.trans hx18).trans hx19
    have hR1f := (hR1e.ext hx18).ext hx19
    have hR2f := (hR2e.ext hx18).ext hx19
    have hR3f := (hR3e.ext hx18).ext hx19
    clear hx4e hx18 hx19 hR1e hR2e hR3e
    obtain ⟨mb, hmb⟩ : ∃ b, mayB xs = b := ⟨_, rfl⟩
    rw [hmb]
    clear hmb
    go_wp2_with fail
    refine (same_calls _ _ xs ys _ _ w19 (HK.out w19 hx4f) (HBK.out w19 hx4f)).mono ?_
    rintro e w20 ⟨rfl, hx20⟩
    go_wp2_with fail
    refine (sameFiles_calls _ _ xs ys _ _ w20 (HAK.out w20 (hx4f.trans hx20)) (HBK.out w20 (hx4f.trans hx20))).mono ?_
    rintro e w21 ⟨rfl, hx21⟩
    have hx4g := (hx4f.trans hx20).trans hx21
    have hR1g := (hR1f.ext hx20).ext hx21
    have hR2g := (hR2f.ext hx20).ext hx21
    have hR3g := (hR3f.ext hx20).ext hx21
    clear hx4f hx20 hx21 hR1f hR2f hR3f
    obtain ⟨sb, hsb⟩ : ∃ b, sameB xs ys = b := ⟨_, rfl⟩
    rw [hsb]
    clear hsb
    go_wp2_with fail
    refine (all_calls _ xs _ w21 (HK.out w21 hx4g) (by rw [H1.out]; omega)).mono ?_
    rintro e w22 ⟨sq, rfl, hsq, hx22⟩
    go_wp2_with fail
    refine (files_calls sq xs _ w22 hsq (fun k hk => hk.2) 100 (by rw [H1.out]; omega) (by omega)).mono ?_
    rintro e w23 ⟨fl, rfl, hFL, hx23⟩
    obtain ⟨Afl, nfl, cfl, hvfl⟩ := hFL.1.slice
    subst hvfl
    have hx4h := (hx4g.trans hx22).trans hx23
    have hR1h := (hR1g.ext hx22).ext hx23
    have hR2h := (hR2g.ext hx22).ext hx23
    have hR3h := (hR3g.ext hx22).ext hx23
    clear hx4g hx22 hx23 hR1g hR2g hR3g hsq
    go_wp2_with fail
    refine (sameFiles_calls _ _ xs xs _ _ w23 hFL.rd (HAK.out w23 hx4h)).mono ?_
    rintro e w24 ⟨rfl, hx24⟩
    rw [sameB_refl]
    have hx4i := hx4h.trans hx24
    have hR1i := hR1h.ext hx24
    have hR2i := hR2h.ext hx24
    have hR3i := hR3h.ext hx24
    clear hx4h hx24 hR1h hR2h hR3h hFL
    go_wp2_with fail
    have hpl1 : (putF xs p d).length ≤ 1000 := by
      have h1 : (drF xs p).length ≤ xs.length := List.length_filter_le _ _
      have h2 : (putF xs p d).length = (drF xs p).length + 1 := by
        show (sortK File.path (drF xs p ++ [⟨p, d⟩])).length = _
        rw [sortK_length, List.length_append]; rfl
      rw [H1.out] at h1
      omega
    have hpl2 : (drF xs p).length ≤ 1000 := by
      have : (drF xs p).length ≤ xs.length := List.length_filter_le _ _
      rw [H1.out] at this
      omega
    refine (overFiles_calls _ (putF xs p d) w24 hR1i.1 hpl1).mono ?_
    rintro e w25 ⟨⟨rr, rfl⟩, hk25⟩
    have hx4j : Ext w4 w25 := hx4i.trans' hk25 fun k hk _ e => by have := hR1i.2 k e; omega
    have hR2j := hR2i.kp hk25 fun k hk e => by have := hd12 k e; have := (hd23 k hk).1; omega
    have hR3j := hR3i.kp hk25 fun k hk e => by have := hd12 k e; have := hd33 k hk; omega
    clear hx4i hk25 hR2i hR3i hR1i
    go_wp2_with fail
    refine (overFiles_calls _ (drF xs p) w25 hR2j.1 hpl2).mono ?_
    rintro e w26 ⟨⟨rr2, rfl⟩, hk26⟩
    have hx4k : Ext w4 w26 := hx4j.trans' hk26 fun k hk _ e => by have := hR2j.2 k e; omega
    have hR3k := hR3j.kp hk26 fun k hk e => by have := (hd23 k e).2; have := hd33 k hk; omega
    clear hx4j hk26 hR2j hR3j
    go_wp2_with fail
    refine (overTexts_calls _ ps w26 hR3k.1 hpl).mono ?_
    rintro e w27 ⟨⟨rr3, rfl⟩, hk27⟩
    have hx4l : Ext w4 w27 := hx4k.trans' hk27 fun k hk _ e => by have := hR3k.2 k e; omega
    clear hx4k hk27 hR3k
    have hL27 : LentF w27 g xs := hL.kp hx4l trivial
    go_wp2_with fail
    have hkept := keptFiles_calls g _ xs xs _ w27 hL27 (HAK.out w27 hx4l)
    rw [H1.out, sameB_refl] at hkept
    refine hkept.mono ?_
    clear hkept
    rintro e w28 ⟨rfl, hx28⟩
    go_wp2_with fail
    refine (awake7_calls w28).mono ?_
    rintro e w29 ⟨rfl, hx29⟩
    go_wp2_with fail
    go_ret
    exact ⟨rfl, hx4.trans (hx4l.trans (hx28.trans hx29))⟩

end Go.Proofs.YtinafpbdlblcaaaDoor
