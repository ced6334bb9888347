/-
  cortegelaw9.JoinSides.
-/
import Derived.Test.YtddooggkcdloeaaGreatDoorSides9P
namespace Go.Proofs.YtddooggkcdloeaaGreatDoor
open Go.RowKit
set_option linter.unusedVariables false
set_option linter.unusedSimpArgs false
attribute [local go_sem] Oper.semAt_some

theorem may3_eq (xs ys zs : List File) : may3 xs ys zs = (mayB xs && (mayB ys && mayB zs)) := rfl
theorem virt_sub (xs ys zs : List File) : (virtOf textM xs ys zs).Sublist (gathF textM id xs ys zs).1 := by
  unfold virtOf
  split
  · exact (List.take_sublist _ _).trans (foldl_drop_sub _ _)
  · exact List.nil_sublist _
theorem virt_len (xs ys zs : List File) : (virtOf textM xs ys zs).length ≤ 1000000 := Nat.le_trans ((mayB_iff _).1 (virtOf_tree xs ys zs)).few (by omega)
theorem virt_size {xs ys zs : List File} (g1 : greatB xs 14 = false) (g2 : greatB ys 14 = false) (g3 : greatB zs 14 = false) : ∀ y ∈ virtOf textM xs ys zs, y.path.size ≤ 1000000 := fun y hy => gathF_size _ _ (small_path g1) (small_path g2) (small_path g3) y ((virt_sub xs ys zs).subset hy)
theorem of_size {xs ys zs : List File} (g1 : greatB xs 14 = false) (g2 : greatB ys 14 = false) (g3 : greatB zs 14 = false) (hm : may3 xs ys zs = true) : ∀ y ∈ (joinOf textM xs ys zs).1, y.path.size ≤ 1000000 := fun y hy => by
  rcases joinOf_cases hm with ⟨_, h⟩ | ⟨h, _⟩
  · rw [h] at hy; cases hy
  · rw [h] at hy; exact gathF_size _ _ (small_path g1) (small_path g2) (small_path g3) y hy

set_option maxHeartbeats 8000000 in
set_option maxRecDepth 100000 in
theorem sides9_a (v0 v1 v2 : Value) (xs ys zs : List File) (w : World) (hA : RdF w v0 xs) (hB : RdF w v1 ys) (hC : RdF w v2 zs) (hg : great9 xs ys zs = false) (hm : may3 xs ys zs = true) (hb : (joinOf textM xs ys zs).2 = []) :
    Calls Tryz.prog 4 #[v0, v1, v2] w fun e w' => e = .returned (.bool true) ∧ Ext w w' := by
  obtain ⟨g1, g2, g3⟩ := great9_false hg
  have hG := great9_calls v0 v1 v2 xs ys zs w hA hB hC
  rw [hg] at hG
  have hM1 := fun W (hW : RdF W v0 xs) => may_calls v0 xs _ W hW (Nat.le_trans (small_len g1) (by omega)) (small_path g1)
  have hM2 := fun W (hW : RdF W v1 ys) => may_calls v1 ys _ W hW (Nat.le_trans (small_len g2) (by omega)) (small_path g2)
  have hM3 := fun W (hW : RdF W v2 zs) => may_calls v2 zs _ W hW (Nat.le_trans (small_len g3) (by omega)) (small_path g3)
  have hO1 := fun W h0 h1 h2 => of9_calls v0 v1 v2 xs ys zs W h0 h1 h2 g1 g2 g3
  have hO2 := fun W h0 h1 h2 => of9_calls v0 v2 v1 xs zs ys W h0 h2 h1 g1 g3 g2
  rw [joinOf_swap] at hO2
  have hO3 := fun W h0 h1 => of9_calls v0 v1 v1 xs ys ys W h0 h1 h1 g1 g2 g2
  have hO4 := fun W h0 h2 => of9_calls v0 v0 v2 xs xs zs W h0 h0 h2 g1 g1 g3
  have hV1 := fun W h0 h1 h2 => virt9_calls v0 v1 v2 xs ys zs W h0 h1 h2 g1 g2 g3
  have hV2 := fun W h0 h1 h2 => virt9_calls v0 v2 v1 xs zs ys W h0 h2 h1 g1 g3 g2
  rw [virtOf_swap] at hV2
  have hVM := fun v W (hW : RdF W v (virtOf textM xs ys zs)) => may_calls v (virtOf textM xs ys zs) _ W hW (virt_len xs ys zs) (virt_size g1 g2 g3)
  rw [virtOf_tree] at hVM
  obtain ⟨m1, m2, m3⟩ := (may3_iff _ _ _).1 hm
  rw [m1] at hM1
  rw [m2] at hM2
  rw [m3] at hM3
  rw [joinOf_same m1 m2] at hO3
  rw [joinOf_right m1 m3] at hO4
  have htm := joinOf_tree hm hb
  have hTM := fun v W (hW : RdF W v (joinOf textM xs ys zs).1) => may_calls v (joinOf textM xs ys zs).1 _ W hW (Nat.le_trans ((mayB_iff _).1 htm).few (by omega)) (of_size g1 g2 g3 hm)
  rw [htm] at hTM
  rw [virtOf_of hm hb] at hV1 hV2 hVM
  rw [hb] at hO1 hO2
  obtain ⟨t, ht⟩ : ∃ t, (joinOf textM xs ys zs).1 = t := ⟨_, rfl⟩
  rw [ht] at hO1 hO2 hTM hV1 hV2 hVM
  have HTM := Lib.hid hTM
  clear m1 m2 m3 htm hTM hb ht hm
  have HG := Lib.hid hG
  have HM1 := Lib.hid hM1
  have HM2 := Lib.hid hM2
  have HM3 := Lib.hid hM3
  have HO1 := Lib.hid hO1
  have HO2 := Lib.hid hO2
  have HO3 := Lib.hid hO3
  have HO4 := Lib.hid hO4
  have HV1 := Lib.hid hV1
  have HV2 := Lib.hid hV2
  have HVM := Lib.hid hVM
  have X0 := Lib.hid hA
  have X1 := Lib.hid hB
  have X2 := Lib.hid hC
  have hx := Lib.hid (Kp.refl All w)
  clear hA hB hC hg g1 g2 g3 hG hM1 hM2 hM3 hO1 hO2 hO3 hO4 hV1 hV2 hVM
  go_enter Tryz.func4, Tryz.ntmps4
  go_wp2_with fail
  refine HG.out.mono ?_
  rintro e w0 ⟨rfl, hw0⟩
  subst hw0
  clear HG
  go_wp2_with fail
  refine (HO1.out _ X0.out X1.out X2.out).mono ?_
  rintro e k1 ⟨r1, s1, rfl, hN, hM, hz⟩
  replace X0 := Lib.hid (X0.out.ext hz)
  replace X1 := Lib.hid (X1.out.ext hz)
  replace X2 := Lib.hid (X2.out.ext hz)
  replace hx := Lib.hid (hx.out.trans hz)
  clear hz
  have T1 := Lib.hid hN.rdF
  have B1 := Lib.hid (hM.rd.wide (T := fun _ => True) fun _ _ => trivial)
  obtain ⟨At1, ct1, ht1⟩ := hN.sl
  obtain ⟨Ab1, cb1, hb1⟩ := hM.sl
  replace hb1 : s1 = .slice Ab1 0 cb1 := hb1
  subst ht1 hb1
  clear hN hM
  go_wp2_with fail
  refine (HO2.out _ X0.out X1.out X2.out).mono ?_
  rintro e k2 ⟨r2, s2, rfl, hN, hM, hz⟩
  replace X0 := Lib.hid (X0.out.ext hz)
  replace X1 := Lib.hid (X1.out.ext hz)
  replace X2 := Lib.hid (X2.out.ext hz)
  replace T1 := Lib.hid (T1.out.ext hz)
  replace B1 := Lib.hid (B1.out.kp (hz.mono fun _ _ _ => trivial))
  replace hx := Lib.hid (hx.out.trans hz)
  clear hz
  have T2 := Lib.hid hN.rdF
  have B2 := Lib.hid (hM.rd.wide (T := fun _ => True) fun _ _ => trivial)
  obtain ⟨At2, ct2, ht2⟩ := hN.sl
  obtain ⟨Ab2, cb2, hb2⟩ := hM.sl
  replace hb2 : s2 = .slice Ab2 0 cb2 := hb2
  subst ht2 hb2
  clear hN hM
  clear HO1 HO2
  go_wp2_with fail
  refine (sameFiles_calls _ _ t t _ _ _ T1.out T2.out).mono ?_
  rintro e k3 ⟨rfl, hz⟩
  replace X0 := Lib.hid (X0.out.ext hz)
  replace X1 := Lib.hid (X1.out.ext hz)
  replace X2 := Lib.hid (X2.out.ext hz)
  replace T1 := Lib.hid (T1.out.ext hz)
  replace B1 := Lib.hid (B1.out.kp (hz.mono fun _ _ _ => trivial))
  replace T2 := Lib.hid (T2.out.ext hz)
  replace B2 := Lib.hid (B2.out.kp (hz.mono fun _ _ _ => trivial))
  replace hx := Lib.hid (hx.out.trans hz)
  clear hz
  rw [sameB_refl]
  go_wp2_with fail
  refine (sameTexts_calls _ _ [] _ _ _ B1.out B2.out).mono ?_
  rintro e k4 ⟨rfl, hz⟩
  replace X0 := Lib.hid (X0.out.ext hz)
  replace X1 := Lib.hid (X1.out.ext hz)
  replace X2 := Lib.hid (X2.out.ext hz)
  replace T1 := Lib.hid (T1.out.ext hz)
  replace B1 := Lib.hid (B1.out.kp (hz.mono fun _ _ _ => trivial))
  replace T2 := Lib.hid (T2.out.ext hz)
  replace B2 := Lib.hid (B2.out.kp (hz.mono fun _ _ _ => trivial))
  replace hx := Lib.hid (hx.out.trans hz)
  clear hz
  clear T2 B2
  go_wp2_with fail
  refine (HTM.out _ _ T1.out).mono ?_
  rintro e k5 ⟨rfl, hz⟩
  replace X0 := Lib.hid (X0.out.ext hz)
  replace X1 := Lib.hid (X1.out.ext hz)
  replace X2 := Lib.hid (X2.out.ext hz)
  replace T1 := Lib.hid (T1.out.ext hz)
  replace B1 := Lib.hid (B1.out.kp (hz.mono fun _ _ _ => trivial))
  replace hx := Lib.hid (hx.out.trans hz)
  clear hz
  go_wp2_with fail
  refine (HV1.out _ X0.out X1.out X2.out).mono ?_
  rintro e k6 ⟨a, rfl, hN, hz⟩
  replace X0 := Lib.hid (X0.out.ext hz)
  replace X1 := Lib.hid (X1.out.ext hz)
  replace X2 := Lib.hid (X2.out.ext hz)
  replace T1 := Lib.hid (T1.out.ext hz)
  replace B1 := Lib.hid (B1.out.kp (hz.mono fun _ _ _ => trivial))
  replace hx := Lib.hid (hx.out.trans hz)
  clear hz
  have Va := Lib.hid hN.rdF
  clear hN
  go_wp2_with fail
  refine (HVM.out _ _ Va.out).mono ?_
  rintro e k7 ⟨rfl, hz⟩
  replace X0 := Lib.hid (X0.out.ext hz)
  replace X1 := Lib.hid (X1.out.ext hz)
  replace X2 := Lib.hid (X2.out.ext hz)
  replace T1 := Lib.hid (T1.out.ext hz)
  replace B1 := Lib.hid (B1.out.kp (hz.mono fun _ _ _ => trivial))
  replace Va := Lib.hid (Va.out.ext hz)
  replace hx := Lib.hid (hx.out.trans hz)
  clear hz
  clear Va HVM
  go_wp2_with fail
  refine (HM1.out _ X0.out).mono ?_
  rintro e k8 ⟨rfl, hz⟩
  replace X0 := Lib.hid (X0.out.ext hz)
  replace X1 := Lib.hid (X1.out.ext hz)
  replace X2 := Lib.hid (X2.out.ext hz)
  replace T1 := Lib.hid (T1.out.ext hz)
  replace B1 := Lib.hid (B1.out.kp (hz.mono fun _ _ _ => trivial))
  replace hx := Lib.hid (hx.out.trans hz)
  clear hz
  go_wp2_with fail
  refine (HM2.out _ X1.out).mono ?_
  rintro e k9 ⟨rfl, hz⟩
  replace X0 := Lib.hid (X0.out.ext hz)
  replace X1 := Lib.hid (X1.out.ext hz)
  replace X2 := Lib.hid (X2.out.ext hz)
  replace T1 := Lib.hid (T1.out.ext hz)
  replace B1 := Lib.hid (B1.out.kp (hz.mono fun _ _ _ => trivial))
  replace hx := Lib.hid (hx.out.trans hz)
  clear hz
  go_wp2_with fail
  refine (HM3.out _ X2.out).mono ?_
  rintro e k10 ⟨rfl, hz⟩
  replace X0 := Lib.hid (X0.out.ext hz)
  replace X1 := Lib.hid (X1.out.ext hz)
  replace X2 := Lib.hid (X2.out.ext hz)
  replace T1 := Lib.hid (T1.out.ext hz)
  replace B1 := Lib.hid (B1.out.kp (hz.mono fun _ _ _ => trivial))
  replace hx := Lib.hid (hx.out.trans hz)
  clear hz
  clear HM1 HM2 HM3
  go_wp2_with fail
  refine (HO3.out _ X0.out X1.out).mono ?_
  rintro e k11 ⟨r3, s3, rfl, hN, hM, hz⟩
  replace X0 := Lib.hid (X0.out.ext hz)
  replace X1 := Lib.hid (X1.out.ext hz)
  replace X2 := Lib.hid (X2.out.ext hz)
  replace T1 := Lib.hid (T1.out.ext hz)
  replace B1 := Lib.hid (B1.out.kp (hz.mono fun _ _ _ => trivial))
  replace hx := Lib.hid (hx.out.trans hz)
  clear hz
  have T3 := Lib.hid hN.rdF
  have B3 := Lib.hid (hM.rd.wide (T := fun _ => True) fun _ _ => trivial)
  obtain ⟨At3, ct3, ht3⟩ := hN.sl
  obtain ⟨Ab3, cb3, hb3⟩ := hM.sl
  replace hb3 : s3 = .slice Ab3 0 cb3 := hb3
  subst ht3 hb3
  clear hN hM
  go_wp2_with fail
  refine (HO4.out _ X0.out X2.out).mono ?_
  rintro e k12 ⟨r4, s4, rfl, hN, hM, hz⟩
  replace X0 := Lib.hid (X0.out.ext hz)
  replace X1 := Lib.hid (X1.out.ext hz)
  replace X2 := Lib.hid (X2.out.ext hz)
  replace T1 := Lib.hid (T1.out.ext hz)
  replace B1 := Lib.hid (B1.out.kp (hz.mono fun _ _ _ => trivial))
  replace T3 := Lib.hid (T3.out.ext hz)
  replace B3 := Lib.hid (B3.out.kp (hz.mono fun _ _ _ => trivial))
  replace hx := Lib.hid (hx.out.trans hz)
  clear hz
  have T4 := Lib.hid hN.rdF
  have B4 := Lib.hid (hM.rd.wide (T := fun _ => True) fun _ _ => trivial)
  obtain ⟨At4, ct4, ht4⟩ := hN.sl
  obtain ⟨Ab4, cb4, hb4⟩ := hM.sl
  replace hb4 : s4 = .slice Ab4 0 cb4 := hb4
  subst ht4 hb4
  clear hN hM
  clear HO3 HO4 B3 B4 B1
  go_wp2_with fail
  refine (sameFiles_calls _ _ ys ys _ _ _ T3.out X1.out).mono ?_
  rintro e k13 ⟨rfl, hz⟩
  replace X0 := Lib.hid (X0.out.ext hz)
  replace X1 := Lib.hid (X1.out.ext hz)
  replace X2 := Lib.hid (X2.out.ext hz)
  replace T1 := Lib.hid (T1.out.ext hz)
  replace T3 := Lib.hid (T3.out.ext hz)
  replace T4 := Lib.hid (T4.out.ext hz)
  replace hx := Lib.hid (hx.out.trans hz)
  clear hz
  rw [sameB_refl]
  go_wp2_with fail
  refine (sameFiles_calls _ _ zs zs _ _ _ T4.out X2.out).mono ?_
  rintro e k14 ⟨rfl, hz⟩
  replace X0 := Lib.hid (X0.out.ext hz)
  replace X1 := Lib.hid (X1.out.ext hz)
  replace X2 := Lib.hid (X2.out.ext hz)
  replace T1 := Lib.hid (T1.out.ext hz)
  replace T3 := Lib.hid (T3.out.ext hz)
  replace T4 := Lib.hid (T4.out.ext hz)
  replace hx := Lib.hid (hx.out.trans hz)
  clear hz
  rw [sameB_refl]
  clear T3 T4
  go_wp2_with fail
  refine (HV1.out _ X0.out X1.out X2.out).mono ?_
  rintro e k15 ⟨b, rfl, hN, hz⟩
  replace X0 := Lib.hid (X0.out.ext hz)
  replace X1 := Lib.hid (X1.out.ext hz)
  replace X2 := Lib.hid (X2.out.ext hz)
  replace T1 := Lib.hid (T1.out.ext hz)
  replace hx := Lib.hid (hx.out.trans hz)
  clear hz
  have Vb := Lib.hid hN.rdF
  clear hN
  go_wp2_with fail
  refine (sameFiles_calls _ _ t t _ _ _ Vb.out T1.out).mono ?_
  rintro e k16 ⟨rfl, hz⟩
  replace X0 := Lib.hid (X0.out.ext hz)
  replace X1 := Lib.hid (X1.out.ext hz)
  replace X2 := Lib.hid (X2.out.ext hz)
  replace T1 := Lib.hid (T1.out.ext hz)
  replace Vb := Lib.hid (Vb.out.ext hz)
  replace hx := Lib.hid (hx.out.trans hz)
  clear hz
  rw [sameB_refl]
  clear Vb T1
  go_wp2_with fail
  refine (HV1.out _ X0.out X1.out X2.out).mono ?_
  rintro e k17 ⟨c, rfl, hN, hz⟩
  replace X0 := Lib.hid (X0.out.ext hz)
  replace X1 := Lib.hid (X1.out.ext hz)
  replace X2 := Lib.hid (X2.out.ext hz)
  replace hx := Lib.hid (hx.out.trans hz)
  clear hz
  have Vc := Lib.hid hN.rdF
  clear hN
  go_wp2_with fail
  refine (HV2.out _ X0.out X1.out X2.out).mono ?_
  rintro e k18 ⟨d, rfl, hN, hz⟩
  replace X0 := Lib.hid (X0.out.ext hz)
  replace X1 := Lib.hid (X1.out.ext hz)
  replace X2 := Lib.hid (X2.out.ext hz)
  replace Vc := Lib.hid (Vc.out.ext hz)
  replace hx := Lib.hid (hx.out.trans hz)
  clear hz
  have Vd := Lib.hid hN.rdF
  clear hN
  go_wp2_with fail
  refine (sameFiles_calls _ _ t t _ _ _ Vc.out Vd.out).mono ?_
  rintro e k19 ⟨rfl, hz⟩
  replace X0 := Lib.hid (X0.out.ext hz)
  replace X1 := Lib.hid (X1.out.ext hz)
  replace X2 := Lib.hid (X2.out.ext hz)
  replace Vc := Lib.hid (Vc.out.ext hz)
  replace Vd := Lib.hid (Vd.out.ext hz)
  replace hx := Lib.hid (hx.out.trans hz)
  clear hz
  rw [sameB_refl]
  clear Vc Vd X0 X1 X2
  go_wp2_with fail
  refine (awake9_calls _).mono ?_
  rintro e k20 ⟨rfl, hz⟩
  replace hx := Lib.hid (hx.out.trans hz)
  clear hz
  go_wp2_with fail
  go_ret
  exact ⟨rfl, hx.out⟩

set_option maxHeartbeats 8000000 in
set_option maxRecDepth 100000 in
theorem sides9_b (v0 v1 v2 : Value) (xs ys zs : List File) (w : World) (hA : RdF w v0 xs) (hB : RdF w v1 ys) (hC : RdF w v2 zs) (hg : great9 xs ys zs = false) (hm : may3 xs ys zs = true) (hb : (joinOf textM xs ys zs).2 ≠ []) :
    Calls Tryz.prog 4 #[v0, v1, v2] w fun e w' => e = .returned (.bool true) ∧ Ext w w' := by
  obtain ⟨g1, g2, g3⟩ := great9_false hg
  have hG := great9_calls v0 v1 v2 xs ys zs w hA hB hC
  rw [hg] at hG
  have hM1 := fun W (hW : RdF W v0 xs) => may_calls v0 xs _ W hW (Nat.le_trans (small_len g1) (by omega)) (small_path g1)
  have hM2 := fun W (hW : RdF W v1 ys) => may_calls v1 ys _ W hW (Nat.le_trans (small_len g2) (by omega)) (small_path g2)
  have hM3 := fun W (hW : RdF W v2 zs) => may_calls v2 zs _ W hW (Nat.le_trans (small_len g3) (by omega)) (small_path g3)
  have hO1 := fun W h0 h1 h2 => of9_calls v0 v1 v2 xs ys zs W h0 h1 h2 g1 g2 g3
  have hO2 := fun W h0 h1 h2 => of9_calls v0 v2 v1 xs zs ys W h0 h2 h1 g1 g3 g2
  rw [joinOf_swap] at hO2
  have hO3 := fun W h0 h1 => of9_calls v0 v1 v1 xs ys ys W h0 h1 h1 g1 g2 g2
  have hO4 := fun W h0 h2 => of9_calls v0 v0 v2 xs xs zs W h0 h0 h2 g1 g1 g3
  have hV1 := fun W h0 h1 h2 => virt9_calls v0 v1 v2 xs ys zs W h0 h1 h2 g1 g2 g3
  have hV2 := fun W h0 h1 h2 => virt9_calls v0 v2 v1 xs zs ys W h0 h2 h1 g1 g3 g2
  rw [virtOf_swap] at hV2
  have hVM := fun v W (hW : RdF W v (virtOf textM xs ys zs)) => may_calls v (virtOf textM xs ys zs) _ W hW (virt_len xs ys zs) (virt_size g1 g2 g3)
  rw [virtOf_tree] at hVM
  obtain ⟨m1, m2, m3⟩ := (may3_iff _ _ _).1 hm
  rw [m1] at hM1
  rw [m2] at hM2
  rw [m3] at hM3
  rw [joinOf_same m1 m2] at hO3
  rw [joinOf_right m1 m3] at hO4
  have ht0 : (joinOf textM xs ys zs).1 = [] := by
    rcases joinOf_cases hm with ⟨_, h⟩ | ⟨h, _⟩
    · exact h
    · rw [h] at hb; exact absurd rfl hb
  rw [ht0] at hO1 hO2
  obtain ⟨bb, hbb⟩ : ∃ t, (joinOf textM xs ys zs).2 = t := ⟨_, rfl⟩
  rw [hbb] at hO1 hO2 hb
  have hpos := List.length_pos_iff.2 hb
  have hd1 : decide ((0 : Int) < (bb.length : Int)) = true := decide_eq_true (by omega)
  have hd2 : decide (0 < bb.length) = true := decide_eq_true (by omega)
  have hd3 : ((bb.length : Int) == (0 : Int)) = false := by rw [beq_eq_false_iff_ne]; omega
  have hd4 : (bb.length == 0) = false := by rw [beq_eq_false_iff_ne]; omega
  have hd5 : decide ((bb.length : Int) = (0 : Int)) = false := decide_eq_false (by omega)
  obtain ⟨V, hV⟩ : ∃ t, virtOf textM xs ys zs = t := ⟨_, rfl⟩
  rw [hV] at hV1 hV2 hVM
  obtain ⟨nb, hnb⟩ : ∃ n, bb.length = n := ⟨_, rfl⟩
  rw [hnb] at hd1 hd2 hd3 hd4 hd5
  have HNB := Lib.hid hnb
  clear m1 m2 m3 hb hbb ht0 hm hpos hV hnb
  have HG := Lib.hid hG
  have HM1 := Lib.hid hM1
  have HM2 := Lib.hid hM2
  have HM3 := Lib.hid hM3
  have HO1 := Lib.hid hO1
  have HO2 := Lib.hid hO2
  have HO3 := Lib.hid hO3
  have HO4 := Lib.hid hO4
  have HV1 := Lib.hid hV1
  have HV2 := Lib.hid hV2
  have HVM := Lib.hid hVM
  have X0 := Lib.hid hA
  have X1 := Lib.hid hB
  have X2 := Lib.hid hC
  have hx := Lib.hid (Kp.refl All w)
  clear hA hB hC hg g1 g2 g3 hG hM1 hM2 hM3 hO1 hO2 hO3 hO4 hV1 hV2 hVM
  go_enter Tryz.func4, Tryz.ntmps4
  go_wp2_with fail
  refine HG.out.mono ?_
  rintro e w0 ⟨rfl, hw0⟩
  subst hw0
  clear HG
  go_wp2_with fail
  refine (HO1.out _ X0.out X1.out X2.out).mono ?_
  rintro e k1 ⟨r1, s1, rfl, hN, hM, hz⟩
  replace X0 := Lib.hid (X0.out.ext hz)
  replace X1 := Lib.hid (X1.out.ext hz)
  replace X2 := Lib.hid (X2.out.ext hz)
  replace hx := Lib.hid (hx.out.trans hz)
  clear hz
  have T1 := Lib.hid hN.rdF
  have B1 := Lib.hid (hM.rd.wide (T := fun _ => True) fun _ _ => trivial)
  obtain ⟨At1, ct1, ht1⟩ := hN.sl
  obtain ⟨Ab1, cb1, hb1⟩ := hM.sl
  replace ht1 : r1 = .slice At1 0 ct1 := ht1
  subst ht1 hb1
  clear hN hM
  rw [HNB.out] at B1 ⊢
  go_wp2_with fail
  refine (HO2.out _ X0.out X1.out X2.out).mono ?_
  rintro e k2 ⟨r2, s2, rfl, hN, hM, hz⟩
  replace X0 := Lib.hid (X0.out.ext hz)
  replace X1 := Lib.hid (X1.out.ext hz)
  replace X2 := Lib.hid (X2.out.ext hz)
  replace T1 := Lib.hid (T1.out.ext hz)
  replace B1 := Lib.hid (B1.out.kp (hz.mono fun _ _ _ => trivial))
  replace hx := Lib.hid (hx.out.trans hz)
  clear hz
  have T2 := Lib.hid hN.rdF
  have B2 := Lib.hid (hM.rd.wide (T := fun _ => True) fun _ _ => trivial)
  obtain ⟨At2, ct2, ht2⟩ := hN.sl
  obtain ⟨Ab2, cb2, hb2⟩ := hM.sl
  replace ht2 : r2 = .slice At2 0 ct2 := ht2
  subst ht2 hb2
  clear hN hM
  rw [HNB.out] at B2 ⊢
  clear HO1 HO2
  go_wp2_with fail
  refine (sameFiles_calls _ _ [] [] _ _ _ T1.out T2.out).mono ?_
  rintro e k3 ⟨rfl, hz⟩
  replace X0 := Lib.hid (X0.out.ext hz)
  replace X1 := Lib.hid (X1.out.ext hz)
  replace X2 := Lib.hid (X2.out.ext hz)
  replace T1 := Lib.hid (T1.out.ext hz)
  replace B1 := Lib.hid (B1.out.kp (hz.mono fun _ _ _ => trivial))
  replace T2 := Lib.hid (T2.out.ext hz)
  replace B2 := Lib.hid (B2.out.kp (hz.mono fun _ _ _ => trivial))
  replace hx := Lib.hid (hx.out.trans hz)
  clear hz
  rw [sameB_refl]
  go_wp2_with fail
  refine (sameTexts_calls _ _ bb _ _ _ B1.out B2.out).mono ?_
  rintro e k4 ⟨rfl, hz⟩
  replace X0 := Lib.hid (X0.out.ext hz)
  replace X1 := Lib.hid (X1.out.ext hz)
  replace X2 := Lib.hid (X2.out.ext hz)
  replace T1 := Lib.hid (T1.out.ext hz)
  replace B1 := Lib.hid (B1.out.kp (hz.mono fun _ _ _ => trivial))
  replace T2 := Lib.hid (T2.out.ext hz)
  replace B2 := Lib.hid (B2.out.kp (hz.mono fun _ _ _ => trivial))
  replace hx := Lib.hid (hx.out.trans hz)
  clear hz
  clear T2 B2
  go_wp2_with fail
  refine (HV1.out _ X0.out X1.out X2.out).mono ?_
  rintro e k5 ⟨a, rfl, hN, hz⟩
  replace X0 := Lib.hid (X0.out.ext hz)
  replace X1 := Lib.hid (X1.out.ext hz)
  replace X2 := Lib.hid (X2.out.ext hz)
  replace T1 := Lib.hid (T1.out.ext hz)
  replace B1 := Lib.hid (B1.out.kp (hz.mono fun _ _ _ => trivial))
  replace hx := Lib.hid (hx.out.trans hz)
  clear hz
  have Va := Lib.hid hN.rdF
  clear hN
  go_wp2_with fail
  refine (HVM.out _ _ Va.out).mono ?_
  rintro e k6 ⟨rfl, hz⟩
  replace X0 := Lib.hid (X0.out.ext hz)
  replace X1 := Lib.hid (X1.out.ext hz)
  replace X2 := Lib.hid (X2.out.ext hz)
  replace T1 := Lib.hid (T1.out.ext hz)
  replace B1 := Lib.hid (B1.out.kp (hz.mono fun _ _ _ => trivial))
  replace Va := Lib.hid (Va.out.ext hz)
  replace hx := Lib.hid (hx.out.trans hz)
  clear hz
  clear Va HVM
  go_wp2_with fail
  refine (HM1.out _ X0.out).mono ?_
  rintro e k7 ⟨rfl, hz⟩
  replace X0 := Lib.hid (X0.out.ext hz)
  replace X1 := Lib.hid (X1.out.ext hz)
  replace X2 := Lib.hid (X2.out.ext hz)
  replace T1 := Lib.hid (T1.out.ext hz)
  replace B1 := Lib.hid (B1.out.kp (hz.mono fun _ _ _ => trivial))
  replace hx := Lib.hid (hx.out.trans hz)
  clear hz
  go_wp2_with fail
  refine (HM2.out _ X1.out).mono ?_
  rintro e k8 ⟨rfl, hz⟩
  replace X0 := Lib.hid (X0.out.ext hz)
  replace X1 := Lib.hid (X1.out.ext hz)
  replace X2 := Lib.hid (X2.out.ext hz)
  replace T1 := Lib.hid (T1.out.ext hz)
  replace B1 := Lib.hid (B1.out.kp (hz.mono fun _ _ _ => trivial))
  replace hx := Lib.hid (hx.out.trans hz)
  clear hz
  go_wp2_with fail
  refine (HM3.out _ X2.out).mono ?_
  rintro e k9 ⟨rfl, hz⟩
  replace X0 := Lib.hid (X0.out.ext hz)
  replace X1 := Lib.hid (X1.out.ext hz)
  replace X2 := Lib.hid (X2.out.ext hz)
  replace T1 := Lib.hid (T1.out.ext hz)
  replace B1 := Lib.hid (B1.out.kp (hz.mono fun _ _ _ => trivial))
  replace hx := Lib.hid (hx.out.trans hz)
  clear hz
  clear HM1 HM2 HM3
  go_wp2_with fail
  refine (HO3.out _ X0.out X1.out).mono ?_
  rintro e k10 ⟨r3, s3, rfl, hN, hM, hz⟩
  replace X0 := Lib.hid (X0.out.ext hz)
  replace X1 := Lib.hid (X1.out.ext hz)
  replace X2 := Lib.hid (X2.out.ext hz)
  replace T1 := Lib.hid (T1.out.ext hz)
  replace B1 := Lib.hid (B1.out.kp (hz.mono fun _ _ _ => trivial))
  replace hx := Lib.hid (hx.out.trans hz)
  clear hz
  have T3 := Lib.hid hN.rdF
  have B3 := Lib.hid (hM.rd.wide (T := fun _ => True) fun _ _ => trivial)
  obtain ⟨At3, ct3, ht3⟩ := hN.sl
  obtain ⟨Ab3, cb3, hb3⟩ := hM.sl
  replace hb3 : s3 = .slice Ab3 0 cb3 := hb3
  subst ht3 hb3
  clear hN hM
  go_wp2_with fail
  refine (HO4.out _ X0.out X2.out).mono ?_
  rintro e k11 ⟨r4, s4, rfl, hN, hM, hz⟩
  replace X0 := Lib.hid (X0.out.ext hz)
  replace X1 := Lib.hid (X1.out.ext hz)
  replace X2 := Lib.hid (X2.out.ext hz)
  replace T1 := Lib.hid (T1.out.ext hz)
  replace B1 := Lib.hid (B1.out.kp (hz.mono fun _ _ _ => trivial))
  replace T3 := Lib.hid (T3.out.ext hz)
  replace B3 := Lib.hid (B3.out.kp (hz.mono fun _ _ _ => trivial))
  replace hx := Lib.hid (hx.out.trans hz)
  clear hz
  have T4 := Lib.hid hN.rdF
  have B4 := Lib.hid (hM.rd.wide (T := fun _ => True) fun _ _ => trivial)
  obtain ⟨At4, ct4, ht4⟩ := hN.sl
  obtain ⟨Ab4, cb4, hb4⟩ := hM.sl
  replace hb4 : s4 = .slice Ab4 0 cb4 := hb4
  subst ht4 hb4
  clear hN hM
  clear HO3 HO4 B3 B4 B1
  go_wp2_with fail
  refine (sameFiles_calls _ _ ys ys _ _ _ T3.out X1.out).mono ?_
  rintro e k12 ⟨rfl, hz⟩
  replace X0 := Lib.hid (X0.out.ext hz)
  replace X1 := Lib.hid (X1.out.ext hz)
  replace X2 := Lib.hid (X2.out.ext hz)
  replace T1 := Lib.hid (T1.out.ext hz)
  replace T3 := Lib.hid (T3.out.ext hz)
  replace T4 := Lib.hid (T4.out.ext hz)
  replace hx := Lib.hid (hx.out.trans hz)
  clear hz
  rw [sameB_refl]
  go_wp2_with fail
  refine (sameFiles_calls _ _ zs zs _ _ _ T4.out X2.out).mono ?_
  rintro e k13 ⟨rfl, hz⟩
  replace X0 := Lib.hid (X0.out.ext hz)
  replace X1 := Lib.hid (X1.out.ext hz)
  replace X2 := Lib.hid (X2.out.ext hz)
  replace T1 := Lib.hid (T1.out.ext hz)
  replace T3 := Lib.hid (T3.out.ext hz)
  replace T4 := Lib.hid (T4.out.ext hz)
  replace hx := Lib.hid (hx.out.trans hz)
  clear hz
  rw [sameB_refl]
  clear T3 T4
  go_wp2_with fail
  refine (HV1.out _ X0.out X1.out X2.out).mono ?_
  rintro e k14 ⟨c, rfl, hN, hz⟩
  replace X0 := Lib.hid (X0.out.ext hz)
  replace X1 := Lib.hid (X1.out.ext hz)
  replace X2 := Lib.hid (X2.out.ext hz)
  replace T1 := Lib.hid (T1.out.ext hz)
  replace hx := Lib.hid (hx.out.trans hz)
  clear hz
  have Vc := Lib.hid hN.rdF
  clear hN
  go_wp2_with fail
  refine (HV2.out _ X0.out X1.out X2.out).mono ?_
  rintro e k15 ⟨d, rfl, hN, hz⟩
  replace X0 := Lib.hid (X0.out.ext hz)
  replace X1 := Lib.hid (X1.out.ext hz)
  replace X2 := Lib.hid (X2.out.ext hz)
  replace T1 := Lib.hid (T1.out.ext hz)
  replace Vc := Lib.hid (Vc.out.ext hz)
  replace hx := Lib.hid (hx.out.trans hz)
  clear hz
  have Vd := Lib.hid hN.rdF
  clear hN
  go_wp2_with fail
  refine (sameFiles_calls _ _ V V _ _ _ Vc.out Vd.out).mono ?_
  rintro e k16 ⟨rfl, hz⟩
  replace X0 := Lib.hid (X0.out.ext hz)
  replace X1 := Lib.hid (X1.out.ext hz)
  replace X2 := Lib.hid (X2.out.ext hz)
  replace T1 := Lib.hid (T1.out.ext hz)
  replace Vc := Lib.hid (Vc.out.ext hz)
  replace Vd := Lib.hid (Vd.out.ext hz)
  replace hx := Lib.hid (hx.out.trans hz)
  clear hz
  rw [sameB_refl]
  clear Vc Vd X0 X1 X2
  go_wp2_with fail
  refine (awake9_calls _).mono ?_
  rintro e k17 ⟨rfl, hz⟩
  replace hx := Lib.hid (hx.out.trans hz)
  clear hz
  go_wp2_with fail
  go_ret
  exact ⟨rfl, hx.out⟩

set_option maxHeartbeats 8000000 in
set_option maxRecDepth 100000 in
theorem sides9_c (v0 v1 v2 : Value) (xs ys zs : List File) (w : World) (hA : RdF w v0 xs) (hB : RdF w v1 ys) (hC : RdF w v2 zs) (hg : great9 xs ys zs = false) (hm : may3 xs ys zs = false) :
    Calls Tryz.prog 4 #[v0, v1, v2] w fun e w' => e = .returned (.bool true) ∧ Ext w w' := by
  obtain ⟨g1, g2, g3⟩ := great9_false hg
  have hG := great9_calls v0 v1 v2 xs ys zs w hA hB hC
  rw [hg] at hG
  have hM1 := fun W (hW : RdF W v0 xs) => may_calls v0 xs _ W hW (Nat.le_trans (small_len g1) (by omega)) (small_path g1)
  have hM2 := fun W (hW : RdF W v1 ys) => may_calls v1 ys _ W hW (Nat.le_trans (small_len g2) (by omega)) (small_path g2)
  have hM3 := fun W (hW : RdF W v2 zs) => may_calls v2 zs _ W hW (Nat.le_trans (small_len g3) (by omega)) (small_path g3)
  have hO1 := fun W h0 h1 h2 => of9_calls v0 v1 v2 xs ys zs W h0 h1 h2 g1 g2 g3
  have hO2 := fun W h0 h1 h2 => of9_calls v0 v2 v1 xs zs ys W h0 h2 h1 g1 g3 g2
  rw [joinOf_swap] at hO2
  have hO3 := fun W h0 h1 => of9_calls v0 v1 v1 xs ys ys W h0 h1 h1 g1 g2 g2
  have hO4 := fun W h0 h2 => of9_calls v0 v0 v2 xs xs zs W h0 h0 h2 g1 g1 g3
  have hV1 := fun W h0 h1 h2 => virt9_calls v0 v1 v2 xs ys zs W h0 h1 h2 g1 g2 g3
  have hV2 := fun W h0 h1 h2 => virt9_calls v0 v2 v1 xs zs ys W h0 h2 h1 g1 g3 g2
  rw [virtOf_swap] at hV2
  have hVM := fun v W (hW : RdF W v (virtOf textM xs ys zs)) => may_calls v (virtOf textM xs ys zs) _ W hW (virt_len xs ys zs) (virt_size g1 g2 g3)
  rw [virtOf_tree] at hVM
  rw [joinOf_false hm] at hO1 hO2
  rw [virtOf_false hm] at hV1 hV2 hVM
  rw [may3_eq] at hm
  have HN := Lib.hid hm
  clear hm hO3 hO4
  have hO3 := hO1
  have hO4 := hO1
  generalize mayB xs = q1 at *
  generalize mayB ys = q2 at *
  generalize mayB zs = q3 at *
  have HG := Lib.hid hG
  have HM1 := Lib.hid hM1
  have HM2 := Lib.hid hM2
  have HM3 := Lib.hid hM3
  have HO1 := Lib.hid hO1
  have HO2 := Lib.hid hO2
  have HO3 := Lib.hid hO3
  have HO4 := Lib.hid hO4
  have HV1 := Lib.hid hV1
  have HV2 := Lib.hid hV2
  have HVM := Lib.hid hVM
  have X0 := Lib.hid hA
  have X1 := Lib.hid hB
  have X2 := Lib.hid hC
  have hx := Lib.hid (Kp.refl All w)
  clear hA hB hC hg g1 g2 g3 hG hM1 hM2 hM3 hO1 hO2 hO3 hO4 hV1 hV2 hVM
  go_enter Tryz.func4, Tryz.ntmps4
  go_wp2_with fail
  refine HG.out.mono ?_
  rintro e w0 ⟨rfl, hw0⟩
  subst hw0
  clear HG
  go_wp2_with fail
  refine (HO1.out _ X0.out X1.out X2.out).mono ?_
  rintro e k1 ⟨r1, s1, rfl, hN, hM, hz⟩
  replace X0 := Lib.hid (X0.out.ext hz)
  replace X1 := Lib.hid (X1.out.ext hz)
  replace X2 := Lib.hid (X2.out.ext hz)
  replace hx := Lib.hid (hx.out.trans hz)
  clear hz
  have T1 := Lib.hid hN.rdF
  have B1 := Lib.hid (hM.rd.wide (T := fun _ => True) fun _ _ => trivial)
  obtain ⟨At1, ct1, ht1⟩ := hN.sl
  obtain ⟨Ab1, cb1, hb1⟩ := hM.sl
  replace ht1 : r1 = .slice At1 0 ct1 := ht1
  subst ht1 hb1
  clear hN hM
  go_wp2_with fail
  refine (HO2.out _ X0.out X1.out X2.out).mono ?_
  rintro e k2 ⟨r2, s2, rfl, hN, hM, hz⟩
  replace X0 := Lib.hid (X0.out.ext hz)
  replace X1 := Lib.hid (X1.out.ext hz)
  replace X2 := Lib.hid (X2.out.ext hz)
  replace T1 := Lib.hid (T1.out.ext hz)
  replace B1 := Lib.hid (B1.out.kp (hz.mono fun _ _ _ => trivial))
  replace hx := Lib.hid (hx.out.trans hz)
  clear hz
  have T2 := Lib.hid hN.rdF
  have B2 := Lib.hid (hM.rd.wide (T := fun _ => True) fun _ _ => trivial)
  obtain ⟨At2, ct2, ht2⟩ := hN.sl
  obtain ⟨Ab2, cb2, hb2⟩ := hM.sl
  replace ht2 : r2 = .slice At2 0 ct2 := ht2
  subst ht2 hb2
  clear hN hM
  clear HO1 HO2
  go_wp2_with fail
  refine (sameFiles_calls _ _ [] [] _ _ _ T1.out T2.out).mono ?_
  rintro e k3 ⟨rfl, hz⟩
  replace X0 := Lib.hid (X0.out.ext hz)
  replace X1 := Lib.hid (X1.out.ext hz)
  replace X2 := Lib.hid (X2.out.ext hz)
  replace T1 := Lib.hid (T1.out.ext hz)
  replace B1 := Lib.hid (B1.out.kp (hz.mono fun _ _ _ => trivial))
  replace T2 := Lib.hid (T2.out.ext hz)
  replace B2 := Lib.hid (B2.out.kp (hz.mono fun _ _ _ => trivial))
  replace hx := Lib.hid (hx.out.trans hz)
  clear hz
  rw [sameB_refl]
  go_wp2_with fail
  refine (sameTexts_calls _ _ [bQ] _ _ _ B1.out B2.out).mono ?_
  rintro e k4 ⟨rfl, hz⟩
  replace X0 := Lib.hid (X0.out.ext hz)
  replace X1 := Lib.hid (X1.out.ext hz)
  replace X2 := Lib.hid (X2.out.ext hz)
  replace T1 := Lib.hid (T1.out.ext hz)
  replace B1 := Lib.hid (B1.out.kp (hz.mono fun _ _ _ => trivial))
  replace T2 := Lib.hid (T2.out.ext hz)
  replace B2 := Lib.hid (B2.out.kp (hz.mono fun _ _ _ => trivial))
  replace hx := Lib.hid (hx.out.trans hz)
  clear hz
  clear T2 B2
  go_wp2_with fail
  refine (HV1.out _ X0.out X1.out X2.out).mono ?_
  rintro e k5 ⟨a, rfl, hN, hz⟩
  replace X0 := Lib.hid (X0.out.ext hz)
  replace X1 := Lib.hid (X1.out.ext hz)
  replace X2 := Lib.hid (X2.out.ext hz)
  replace T1 := Lib.hid (T1.out.ext hz)
  replace B1 := Lib.hid (B1.out.kp (hz.mono fun _ _ _ => trivial))
  replace hx := Lib.hid (hx.out.trans hz)
  clear hz
  have Va := Lib.hid hN.rdF
  clear hN
  go_wp2_with fail
  refine (HVM.out _ _ Va.out).mono ?_
  rintro e k6 ⟨rfl, hz⟩
  replace X0 := Lib.hid (X0.out.ext hz)
  replace X1 := Lib.hid (X1.out.ext hz)
  replace X2 := Lib.hid (X2.out.ext hz)
  replace T1 := Lib.hid (T1.out.ext hz)
  replace B1 := Lib.hid (B1.out.kp (hz.mono fun _ _ _ => trivial))
  replace Va := Lib.hid (Va.out.ext hz)
  replace hx := Lib.hid (hx.out.trans hz)
  clear hz
  clear Va HVM
  go_wp2_with fail
  refine (HM1.out _ X0.out).mono ?_
  rintro e k7 ⟨rfl, hz⟩
  replace X0 := Lib.hid (X0.out.ext hz)
  replace X1 := Lib.hid (X1.out.ext hz)
  replace X2 := Lib.hid (X2.out.ext hz)
  replace T1 := Lib.hid (T1.out.ext hz)
  replace B1 := Lib.hid (B1.out.kp (hz.mono fun _ _ _ => trivial))
  replace hx := Lib.hid (hx.out.trans hz)
  clear hz
  cases q1 with
  | false =>
    clear HM1 HM2 HM3 HN X0 X1 X2 HV1 HV2
    go_wp2_with fail
    rename World => wc
    refine (sameTexts_calls _ _ [bQ] _ _ _ (B1.out.kp ((Kp.refl _ wc).alloc _)) ((New.made (E := ES) wc 9 [bQ] (by simp [maxLen])).rd)).mono ?_
    rintro e kz ⟨rfl, hz⟩
    replace hx := Lib.hid ((hx.out.alloc (.cells #[.string bQ] 9)).trans hz)
    go_wp2_with fail
    refine (awake9_calls _).mono ?_
    rintro e k55 ⟨rfl, hz⟩
    replace hx := Lib.hid (hx.out.trans hz)
    clear hz
    go_wp2_with fail
    go_ret
    exact ⟨rfl, hx.out⟩
  | true =>
    go_wp2_with fail
    refine (HM2.out _ X1.out).mono ?_
    rintro e k8 ⟨rfl, hz⟩
    replace X0 := Lib.hid (X0.out.ext hz)
    replace X1 := Lib.hid (X1.out.ext hz)
    replace X2 := Lib.hid (X2.out.ext hz)
    replace T1 := Lib.hid (T1.out.ext hz)
    replace B1 := Lib.hid (B1.out.kp (hz.mono fun _ _ _ => trivial))
    replace hx := Lib.hid (hx.out.trans hz)
    clear hz
    cases q2 with
    | false =>
      clear HM1 HM2 HM3 HN X0 X1 X2 HV1 HV2
      go_wp2_with fail
      rename World => wc
      refine (sameTexts_calls _ _ [bQ] _ _ _ (B1.out.kp ((Kp.refl _ wc).alloc _)) ((New.made (E := ES) wc 9 [bQ] (by simp [maxLen])).rd)).mono ?_
      rintro e kz ⟨rfl, hz⟩
      replace hx := Lib.hid ((hx.out.alloc (.cells #[.string bQ] 9)).trans hz)
      go_wp2_with fail
      refine (awake9_calls _).mono ?_
      rintro e k57 ⟨rfl, hz⟩
      replace hx := Lib.hid (hx.out.trans hz)
      clear hz
      go_wp2_with fail
      go_ret
      exact ⟨rfl, hx.out⟩
    | true =>
      go_wp2_with fail
      refine (HM3.out _ X2.out).mono ?_
      rintro e k9 ⟨rfl, hz⟩
      replace X0 := Lib.hid (X0.out.ext hz)
      replace X1 := Lib.hid (X1.out.ext hz)
      replace X2 := Lib.hid (X2.out.ext hz)
      replace T1 := Lib.hid (T1.out.ext hz)
      replace B1 := Lib.hid (B1.out.kp (hz.mono fun _ _ _ => trivial))
      replace hx := Lib.hid (hx.out.trans hz)
      clear hz
      cases q3 with
      | false =>
        clear HM1 HM2 HM3 HN X0 X1 X2 HV1 HV2
        go_wp2_with fail
        rename World => wc
        refine (sameTexts_calls _ _ [bQ] _ _ _ (B1.out.kp ((Kp.refl _ wc).alloc _)) ((New.made (E := ES) wc 9 [bQ] (by simp [maxLen])).rd)).mono ?_
        rintro e kz ⟨rfl, hz⟩
        replace hx := Lib.hid ((hx.out.alloc (.cells #[.string bQ] 9)).trans hz)
        go_wp2_with fail
        refine (awake9_calls _).mono ?_
        rintro e k59 ⟨rfl, hz⟩
        replace hx := Lib.hid (hx.out.trans hz)
        clear hz
        go_wp2_with fail
        go_ret
        exact ⟨rfl, hx.out⟩
      | true => exact absurd HN.out (by simp)

set_option maxHeartbeats 1000000 in
set_option maxRecDepth 100000 in
theorem sides9_calls (v0 v1 v2 : Value) (xs ys zs : List File) (w : World) (hA : RdF w v0 xs) (hB : RdF w v1 ys) (hC : RdF w v2 zs) :
    Calls Tryz.prog 4 #[v0, v1, v2] w fun e w' => e = .returned (.bool true) ∧ Ext w w' := by
  have hG := great9_calls v0 v1 v2 xs ys zs w hA hB hC
  have HA := Lib.hid awake9_calls
  cases hg : great9 xs ys zs with
  | true =>
    rw [hg] at hG
    have HG := Lib.hid hG
    clear hG hA hB hC hg
    go_enter Tryz.func4, Tryz.ntmps4
    go_wp2_with fail
    refine HG.out.mono ?_
    rintro e w0 ⟨rfl, hw0⟩
    subst hw0
    clear HG
    go_wp2_with fail
    refine (HA.out _).mono ?_
    rintro e w1 ⟨rfl, hx1⟩
    go_wp2_with fail
    go_ret
    exact ⟨rfl, hx1⟩
  | false =>
    cases hm : may3 xs ys zs with
    | false => exact sides9_c v0 v1 v2 xs ys zs w hA hB hC hg hm
    | true =>
      by_cases hb : (joinOf textM xs ys zs).2 = []
      · exact sides9_a v0 v1 v2 xs ys zs w hA hB hC hg hm hb
      · exact sides9_b v0 v1 v2 xs ys zs w hA hB hC hg hm hb

end Go.Proofs.YtddooggkcdloeaaGreatDoor
