/-
  cortegelaw8.PatchSteps.
-/
import Derived.Test.YtinafpbdlblcaaaDoorPlain4
import Derived.Test.YtinafpbdlblcaaaDoorAwake8
import Derived.Test.YtinafpbdlblcaaaDoorMay2
namespace Go.Proofs.YtinafpbdlblcaaaDoor
open Go.RowKit
set_option linter.unusedVariables false
set_option linter.unusedSimpArgs false
attribute [local go_sem] Oper.semAt_some

set_option maxHeartbeats 1000000 in
set_option maxRecDepth 100000 in
theorem steps8_calls (va vb vc : Value) (xs ys zs : List File) (S : Fp) (w : World) (hA : Rd EF S w va xs) (hB : Rd EF S w vb ys) (hC : Rd EF S w vc zs) :
    Calls Tryd.prog 7 #[va, vb, vc] w fun e w' => e = .returned (.bool true) ∧ Ext w w' := by
  have HG1 := Lib.hid (greatFiles_calls va xs 12 S w hA (by omega))
  have HG2 := Lib.hid (greatFiles_calls vb ys 12 S w hB (by omega))
  have HG3 := Lib.hid (greatFiles_calls vc zs 12 S w hC (by omega))
  obtain ⟨A1, c1, ha, _⟩ := hA.open_
  obtain ⟨A2, c2, hb, _⟩ := hB.open_
  obtain ⟨A3, c3, hc, _⟩ := hC.open_
  subst ha hb hc
  obtain ⟨n1, hn1⟩ : ∃ n, xs.length = n := ⟨_, rfl⟩
  obtain ⟨n2, hn2⟩ : ∃ n, ys.length = n := ⟨_, rfl⟩
  obtain ⟨n3, hn3⟩ : ∃ n, zs.length = n := ⟨_, rfl⟩
  rw [hn1] at hA HG1 ⊢
  rw [hn2] at hB HG2 ⊢
  rw [hn3] at hC HG3 ⊢
  have H1 := Lib.hid hn1
  have H2 := Lib.hid hn2
  have H3 := Lib.hid hn3
  have HA := Lib.hid fun W (hW : Ext w W) => hA.kp (hW.mono fun _ _ _ => trivial)
  have HB := Lib.hid fun W (hW : Ext w W) => hB.kp (hW.mono fun _ _ _ => trivial)
  have HC := Lib.hid fun W (hW : Ext w W) => hC.kp (hW.mono fun _ _ _ => trivial)
  clear hn1 hn2 hn3 hA hB hC
  go_enter Tryd.func7, Tryd.ntmps7
  go_wp2_with fail
  refine HG1.out.mono ?_
  rintro e w1 ⟨rfl, rfl⟩
  cases e1 : greatB xs 12 with
  | true =>
    go_wp2_with fail
    refine (awake8_calls w).mono ?_
    rintro e wz ⟨rfl, hxz⟩
    go_wp2_with fail
    go_ret
    exact ⟨rfl, hxz⟩
  | false =>
    have hl1 := (greatB_false e1).1
    have HP1 := Lib.hid (greatB_false e1).2
    rw [H1.out] at hl1
    clear e1 HG1
    go_wp2_with fail
    refine HG2.out.mono ?_
    rintro e w1 ⟨rfl, rfl⟩
    cases e2 : greatB ys 12 with
    | true =>
      go_wp2_with fail
      refine (awake8_calls w).mono ?_
      rintro e wz ⟨rfl, hxz⟩
      go_wp2_with fail
      go_ret
      exact ⟨rfl, hxz⟩
    | false =>
      have hl2 := (greatB_false e2).1
      have HP2 := Lib.hid (greatB_false e2).2
      rw [H2.out] at hl2
      clear e2 HG2
      go_wp2_with fail
      refine HG3.out.mono ?_
      rintro e w1 ⟨rfl, rfl⟩
      cases e3 : greatB zs 12 with
      | true =>
        go_wp2_with fail
        refine (awake8_calls w).mono ?_
        rintro e wz ⟨rfl, hxz⟩
        go_wp2_with fail
        go_ret
        exact ⟨rfl, hxz⟩
      | false =>
        have hl3 := (greatB_false e3).1
        have HP3 := Lib.hid (greatB_false e3).2
        rw [H3.out] at hl3
        clear e3 HG3
        go_wp2_with fail
        refine (may_calls _ xs _ w (HA.out w (Kp.refl _ w)) (by rw [H1.out]; omega) (fun y hy => by have := (HP1.out y hy).1; omega)).mono ?_
        rintro e m1 ⟨rfl, hm1⟩
        cases t1 : mayB xs with
        | false =>
          go_wp2_with fail
          refine (awake8_calls m1).mono ?_
          rintro e wz ⟨rfl, hxz⟩
          go_wp2_with fail
          go_ret
          exact ⟨rfl, hm1.trans hxz⟩
        | true =>
          have T1 := Lib.hid ((mayB_iff _).1 t1).rise
          have hx1c : Ext w m1 := hm1
          clear hm1 t1
          go_wp2_with fail
          refine (may_calls _ ys _ m1 (HB.out m1 hx1c) (by rw [H2.out]; omega) (fun y hy => by have := (HP2.out y hy).1; omega)).mono ?_
          rintro e m2 ⟨rfl, hm2⟩
          cases t2 : mayB ys with
          | false =>
            go_wp2_with fail
            refine (awake8_calls m2).mono ?_
            rintro e wz ⟨rfl, hxz⟩
            go_wp2_with fail
            go_ret
            exact ⟨rfl, (hx1c.trans hm2).trans hxz⟩
          | true =>
            have T2 := Lib.hid ((mayB_iff _).1 t2).rise
            have hx2c : Ext w m2 := (hx1c.trans hm2)
            clear hm2 t2 hx1c
            go_wp2_with fail
            refine (may_calls _ zs _ m2 (HC.out m2 hx2c) (by rw [H3.out]; omega) (fun y hy => by have := (HP3.out y hy).1; omega)).mono ?_
            rintro e m3 ⟨rfl, hm3⟩
            cases t3 : mayB zs with
            | false =>
              go_wp2_with fail
              refine (awake8_calls m3).mono ?_
              rintro e wz ⟨rfl, hxz⟩
              go_wp2_with fail
              go_ret
              exact ⟨rfl, (hx2c.trans hm3).trans hxz⟩
            | true =>
              have T3 := Lib.hid ((mayB_iff _).1 t3).rise
              have hx3c : Ext w m3 := (hx2c.trans hm3)
              clear hm3 t3 hx2c
              go_wp2_with fail
              refine (of_patch_calls _ _ xs ys _ _ m3 (HA.out m3 hx3c) (HB.out m3 hx3c) (by rw [H1.out]; omega) (by rw [H2.out]; omega)).mono ?_
              rintro e w2 ⟨o1, rfl, hO1, hx2⟩
              obtain ⟨Ao1, no1, co1, hvo1⟩ := hO1.1.slice
              subst hvo1
              have hz2 := hx2.size
              go_wp2_with (at_builtin; refine stop ?_)
              refine list_append (v := .slice none 0 0) (xs := []) tiC rfl rfl rfl rfl (Own.nil _ _) hO1.rd (by simp only [List.length_nil, Nat.zero_add]; have := ofF_length xs ys; have := H1.out; have := H2.out; omega) (by simp only [List.length_nil, Nat.zero_add]; have := ofF_length xs ys; have := H1.out; have := H2.out; unfold maxLen; omega) ?_
              intro v3 w3 hOw3 hk3 hb3
              obtain ⟨hN3, hx3⟩ := (New.nil m3.heap.size w2 57).grow hx2 (Kp.refl _ w2) hOw3 hk3 hb3
              rw [List.nil_append] at hN3
              obtain ⟨A3', n3', c3', hv3⟩ := hN3.1.slice
              subst hv3
              clear hO1 hx2 hOw3 hk3 hb3
              have hx3d := hx3c.trans hx3
              go_wp2_with fail
              refine (of_patch_calls _ _ ys zs _ _ w3 (HB.out w3 hx3d) (HC.out w3 hx3d) (by rw [H2.out]; omega) (by rw [H3.out]; omega)).mono ?_
              rintro e w4 ⟨o2, rfl, hO2, hx4⟩
              obtain ⟨Ao2, no2, co2, hvo2⟩ := hO2.1.slice
              subst hvo2
              go_wp2_with (at_builtin; refine stop ?_)
              refine list_append tiC rfl rfl rfl rfl (hN3.ext hx4).1 hO2.rd (by have := ofF_length xs ys; have := ofF_length ys zs; have := H1.out; have := H2.out; have := H3.out; omega) (by have := ofF_length xs ys; have := ofF_length ys zs; have := H1.out; have := H2.out; have := H3.out; unfold maxLen; omega) ?_
              intro v5 w5 hOw5 hk5 hb5
              obtain ⟨hN5, hx5⟩ := hN3.grow hx3 hx4 hOw5 hk5 hb5
              obtain ⟨A5', n5', c5', hv5⟩ := hN5.1.slice
              subst hv5
              clear hO2 hx4 hOw5 hk5 hb5 hN3 hx3 hx3d
              have hx5d := hx3c.trans hx5
              go_wp2_with fail
              refine (apply_calls _ _ xs _ _ _ w5 (HA.out w5 hx5d) hN5.rd (by rw [H1.out]; omega) (by rw [List.length_append]; have := ofF_length xs ys; have := ofF_length ys zs; have := H1.out; have := H2.out; have := H3.out; omega) (apply_two_big T1.out T2.out (by rw [H1.out]; omega) (by rw [H2.out]; omega) (by rw [H3.out]; omega))).mono ?_
              rintro e w6 ⟨r1, rfl, hR1, hx6⟩
              rw [apply_two T1.out T2.out T3.out] at hR1 ⊢
              obtain ⟨Ar1, nr1, cr1, hvr1⟩ := hR1.1.slice
              subst hvr1
              have hx6d := hx5d.trans hx6
              clear hN5 hx5 hx6 hx5d
              go_wp2_with fail
              refine (of_patch_calls _ _ xs zs _ _ w6 (HA.out w6 hx6d) (HC.out w6 hx6d) (by rw [H1.out]; omega) (by rw [H3.out]; omega)).mono ?_
              rintro e w7 ⟨o3, rfl, hO3, hx7⟩
              obtain ⟨Ao3, no3, co3, hvo3⟩ := hO3.1.slice
              subst hvo3
              go_wp2_with fail
              refine (apply_calls _ _ xs _ _ _ w7 (HA.out w7 (hx6d.trans hx7)) hO3.rd (by rw [H1.out]; omega) (by have := ofF_length xs zs; have := H1.out; have := H3.out; omega) (apply_big (by rw [H1.out]; omega) (by rw [H3.out]; omega))).mono ?_
              rintro e w8 ⟨r2, rfl, hR2, hx8⟩
              rw [apply_ofF T1.out T3.out] at hR2 ⊢
              obtain ⟨Ar2, nr2, cr2, hvr2⟩ := hR2.1.slice
              subst hvr2
              have hx8d := (hx6d.trans hx7).trans hx8
              have hR18 := (hR1.ext hx7).ext hx8
              clear hO3 hx7 hx8 hx6d hR1
              go_wp2_with fail
              refine (sameFiles_calls _ _ zs zs _ _ w8 hR18.rd hR2.rd).mono ?_
              rintro e w9 ⟨rfl, hx9⟩
              rw [sameB_refl]
              go_wp2_with fail
              refine (sameFiles_calls _ _ zs zs _ _ w9 (hR18.ext hx9).rd (HC.out w9 (hx8d.trans hx9))).mono ?_
              rintro e w10 ⟨rfl, hx10⟩
              rw [sameB_refl]
              go_wp2_with fail
              refine (awake8_calls w10).mono ?_
              rintro e w11 ⟨rfl, hx11⟩
              go_wp2_with fail
              go_ret
              exact ⟨rfl, ((hx8d.trans hx9).trans hx10).trans hx11⟩

end Go.Proofs.YtinafpbdlblcaaaDoor
