/-
  cortegelaw7.TreeUnder.
-/
import Derived.Test.YtinafpbdlblcaaaDoorAwake7
import Derived.Test.YtinafpbdlblcaaaDoorPlain3
namespace Go.Proofs.YtinafpbdlblcaaaDoor
open Go.RowKit
set_option linter.unusedVariables false
set_option linter.unusedSimpArgs false
attribute [local go_sem] Oper.semAt_some

theorem und_size (p q s : ByteArray) : (undB p q s).size = p.size + s.size + q.size := by
  unfold undB
  rw [ByteArray.size_append, ByteArray.size_append]

set_option maxHeartbeats 1000000 in
theorem under_main (p q d : ByteArray) (w : World) (hps : p.size ≤ 20) (hqs : q.size ≤ 20) (hdd : d.size ≤ 400) (hpp : pathB p = true) (hpq : pathB q = true) :
    Calls Tryd.prog 4 #[.string p, .string q, .string d] w fun e w' => e = .returned (.bool true) ∧ Ext w w' := by
  have hp := isPath_of hps hpp
  have hq := isPath_of hqs hpq
  have hd1 : decide ((20 : Int) < (p.size : Int)) = false := decide_eq_false (by omega)
  have hd2 : decide ((20 : Int) < (q.size : Int)) = false := decide_eq_false (by omega)
  have hd3 : decide ((400 : Int) < (d.size : Int)) = false := decide_eq_false (by omega)
  have s1 : slashB.size = 1 := rfl
  have s2 : dashB.size = 1 := rfl
  have s3 : slash2B.size = 2 := rfl
  have s4 : blankB.size = 1 := rfl
  have z1 : (p ++ slashB).size = p.size + 1 := by rw [ByteArray.size_append, s1]
  have z2 : (p ++ dashB).size = p.size + 1 := by rw [ByteArray.size_append, s2]
  have z3 : (p ++ slash2B).size = p.size + 2 := by rw [ByteArray.size_append, s3]
  have z4 : (p ++ blankB).size = p.size + 1 := by rw [ByteArray.size_append, s4]
  have z5 : (slashB ++ p).size = p.size + 1 := by rw [ByteArray.size_append, s1]; omega
  have zu : (undB p q slashB).size ≤ 1000000 := by rw [und_size, s1]; omega
  have zd : (undB p q dashB).size ≤ 1000000 := by rw [und_size, s2]; omega
  have zt : (undB p q slash2B).size ≤ 1000000 := by rw [und_size, s3]; omega
  have a1 := fun W => run_string_add_sum (P := Tryd.prog) W p slashB (by rw [s1]; omega)
  have a2 := fun W => run_string_add_sum (P := Tryd.prog) W p dashB (by rw [s2]; omega)
  have a3 := fun W => run_string_add_sum (P := Tryd.prog) W p slash2B (by rw [s3]; omega)
  have a4 := fun W => run_string_add_sum (P := Tryd.prog) W p blankB (by rw [s4]; omega)
  have a5 := fun W => run_string_add_sum (P := Tryd.prog) W slashB p (by rw [s1]; omega)
  have b1 : ∀ W, (Op.stringOp .add (p ++ slashB) q).run Tryd.prog W = .ok (.string (undB p q slashB)) W := fun W => run_string_add_sum (P := Tryd.prog) W (p ++ slashB) q (by rw [z1]; omega)
  have b2 : ∀ W, (Op.stringOp .add (p ++ dashB) q).run Tryd.prog W = .ok (.string (undB p q dashB)) W := fun W => run_string_add_sum (P := Tryd.prog) W (p ++ dashB) q (by rw [z2]; omega)
  have b3 : ∀ W, (Op.stringOp .add (p ++ slash2B) q).run Tryd.prog W = .ok (.string (undB p q slash2B)) W := fun W => run_string_add_sum (P := Tryd.prog) W (p ++ slash2B) q (by rw [z3]; omega)
  have hP1 := fun W => path_calls p W (by omega)
  have hP2 := fun W => path_calls q W (by omega)
  have hPut1 := fun W => put_calls (.slice (some ⟨W.heap.size, 0, none⟩) 1 1) (undB p q slashB) d [⟨p, d⟩] _ _ (builtF W _ [⟨p, d⟩] rfl (show (1 : Nat) ≤ maxLen by decide)) (show (1 : Nat) ≤ 19 by decide)
  have hPut2 := fun W => put_calls (.slice (some ⟨W.heap.size, 0, none⟩) 1 1) (undB p q dashB) d [⟨p, d⟩] _ _ (builtF W _ [⟨p, d⟩] rfl (show (1 : Nat) ≤ maxLen by decide)) (show (1 : Nat) ≤ 19 by decide)
  have hP3 := fun W => path_calls (undB p q slashB) W zu
  have hP4 := fun W => path_calls (undB p q slash2B) W zt
  have hP5 := fun W => path_calls (slashB ++ p) W (by rw [z5]; omega)
  have hP6 := fun W => path_calls (p ++ slashB) W (by rw [z1]; omega)
  have hM3 := fun W => (may_calls (.slice (some ⟨W.heap.size, 0, none⟩) 1 1) [⟨p ++ blankB, bNo⟩] _ _ (builtF W _ [⟨p ++ blankB, bNo⟩] rfl (show (1 : Nat) ≤ maxLen by decide)) (show (1 : Nat) ≤ 1000000 by decide) (fun y hy => by rw [List.mem_singleton.1 hy]; show (p ++ blankB).size ≤ _; rw [z4]; omega))
  rw [hpp] at hP1
  rw [hpq] at hP2
  rw [put_two p q slashB d 47 [] slashB_list] at hPut1
  rw [put_two p q dashB d 45 [] dashB_list] at hPut2
  rw [under_path hp hq] at hP3
  rw [two_path hp hq] at hP4
  rw [ahead_path hp] at hP5
  rw [behind_path hp] at hP6
  rw [show mayB [⟨p ++ blankB, bNo⟩] = false from blank_may p] at hM3
  have HP1 := Lib.hid hP1
  have HP2 := Lib.hid hP2
  have HPut1 := Lib.hid hPut1
  have HPut2 := Lib.hid hPut2
  have HP3 := Lib.hid hP3
  have HP4 := Lib.hid hP4
  have HP5 := Lib.hid hP5
  have HP6 := Lib.hid hP6
  have HM3 := Lib.hid hM3
  have HQ := Lib.hid hq
  have HP := Lib.hid hp
  have HPP := Lib.hid hpp
  have HZU := Lib.hid zu
  have HZD := Lib.hid zd
  clear hP1 hP2 hPut1 hPut2 hP3 hP4 hP5 hP6 hM3 hp hq hpp hpq zu zd zt s1 s2 s3 s4 z1 z2 z3 z4 z5
  have c1 : (⟨#[47]⟩ : ByteArray) = slashB := rfl
  have c2 : (⟨#[45]⟩ : ByteArray) = dashB := rfl
  have c3 : (⟨#[47, 47]⟩ : ByteArray) = slash2B := rfl
  have c4 : (⟨#[32]⟩ : ByteArray) = blankB := rfl
  go_enter Tryd.func4, Tryd.ntmps4
  go_wp2_with fail
  refine (HP1.out _).mono ?_
  rintro e w1 ⟨rfl, hx1⟩
  go_wp2_with fail
  refine (HP2.out _).mono ?_
  rintro e w2 ⟨rfl, hx2⟩
  go_wp2_with fail
  refine (HPut1.out _).mono ?_
  rintro e w3 ⟨u, rfl, hN3, hx3⟩
  obtain ⟨A, c, rfl, _⟩ := hN3.rd.open_
  have HN3 := Lib.hid hN3
  clear hN3
  go_wp2_with fail
  refine (HPut2.out _).mono ?_
  rintro e w4 ⟨v, rfl, hN4, hx4⟩
  have HN4 := Lib.hid hN4
  clear hN4
  have hps4 : ∀ (s : ByteArray), (undB p q s).size ≤ 1000000 → ∀ y ∈ ([⟨p, d⟩, ⟨undB p q s, d⟩] : List File), y.path.size ≤ 1000000 := fun s hs y hy => by
    rcases List.mem_cons.1 hy with rfl | hy
    · show p.size ≤ _; omega
    · rw [List.mem_singleton.1 hy]; exact hs
  have HPS := Lib.hid hps4
  have hg := get_calls (.slice A 2 c) (undB p q slashB) [⟨p, d⟩, ⟨undB p q slashB, d⟩] _ w4 ((HN3.out.ext ((Kp.refl _ w3).alloc _ |>.trans hx4)).rd) (show (2 : Nat) ≤ 1000000 by decide)
  rw [under_get] at hg
  have HG := Lib.hid hg
  clear hg hps4
  go_wp2_with fail
  refine HG.out.mono ?_
  clear HG
  rintro e w5 ⟨rfl, hx5⟩
  have hm := may_calls (.slice A 2 c) [⟨p, d⟩, ⟨undB p q slashB, d⟩] _ w5 ((HN3.out.ext (((Kp.refl _ w3).alloc _ |>.trans hx4).trans hx5)).rd) (show (2 : Nat) ≤ 1000000 by decide) (HPS.out _ HZU.out)
  rw [under_may] at hm
  have HM := Lib.hid hm
  clear hm
  go_wp2_with fail
  refine HM.out.mono ?_
  clear HM
  rintro e w6 ⟨rfl, hx6⟩
  have hm := may_calls v [⟨p, d⟩, ⟨undB p q dashB, d⟩] _ w6 ((HN4.out.ext (hx5.trans hx6)).rd) (show (2 : Nat) ≤ 1000000 by decide) (HPS.out _ HZD.out)
  rw [dash_may HP.out HQ.out d hdd HPP.out] at hm
  have HM := Lib.hid hm
  clear hm
  go_wp2_with fail
  refine HM.out.mono ?_
  clear HM
  rintro e w7 ⟨rfl, hx7⟩
  go_wp2_with fail
  refine (HP3.out _).mono ?_
  rintro e w8 ⟨rfl, hx8⟩
  go_wp2_with fail
  refine (HP4.out _).mono ?_
  rintro e w9 ⟨rfl, hx9⟩
  go_wp2_with fail
  refine (HP5.out _).mono ?_
  rintro e w10 ⟨rfl, hx10⟩
  go_wp2_with fail
  refine (HP6.out _).mono ?_
  rintro e w11 ⟨rfl, hx11⟩
  go_wp2_with fail
  refine (HM3.out _).mono ?_
  rintro e w12 ⟨rfl, hx12⟩
  have hx412 : Ext w3 w12 := ((((((((((Kp.refl _ w3).alloc _).trans hx4).trans hx5).trans hx6).trans hx7).trans hx8).trans hx9).trans hx10).trans hx11).alloc _ |>.trans hx12
  have hdr := drop_calls (.slice A 2 c) p [⟨p, d⟩, ⟨undB p q slashB, d⟩] _ w12 ((HN3.out.ext hx412).rd) (show (2 : Nat) ≤ 1000000 by decide)
  have HDr := Lib.hid hdr
  clear hdr
  go_wp2_with fail
  refine HDr.out.mono ?_
  clear HDr
  rintro e w13 ⟨v13, rfl, hN13, hx13⟩
  have hsub := dropF_sub [⟨p, d⟩, ⟨undB p q slashB, d⟩] p
  have hm := may_calls v13 (dropF [⟨p, d⟩, ⟨undB p q slashB, d⟩] p) _ w13 hN13.rd (Nat.le_trans hsub.length_le (show (2 : Nat) ≤ 1000000 by decide)) (fun y hy => HPS.out _ HZU.out y (hsub.subset hy))
  rw [drop_may HP.out HQ.out d hdd] at hm
  have HM := Lib.hid hm
  clear hm hN13 hsub
  go_wp2_with fail
  refine HM.out.mono ?_
  clear HM
  rintro e w14 ⟨rfl, hx14⟩
  go_wp2_with fail
  refine (awake7_calls w14).mono ?_
  rintro e w15 ⟨rfl, hx15⟩
  go_wp2_with fail
  go_ret
  exact ⟨rfl, (((((((Kp.refl _ w).trans hx1).trans hx2).alloc _).trans hx3).trans hx412).trans hx13).trans (hx14.trans hx15)⟩

set_option maxHeartbeats 1000000 in
theorem treeUnder_calls (p q d : ByteArray) (w : World) (hps : p.size ≤ 9223372036854775807) (hqs : q.size ≤ 9223372036854775807) (hds : d.size ≤ 9223372036854775807) :
    Calls Tryd.prog 4 #[.string p, .string q, .string d] w fun e w' => e = .returned (.bool true) ∧ Ext w w' := by
  have HA := Lib.hid awake7_calls
  by_cases h1 : p.size ≤ 20
  · have hd1 : decide ((20 : Int) < (p.size : Int)) = false := decide_eq_false (by omega)
    by_cases h2 : q.size ≤ 20
    · have hd2 : decide ((20 : Int) < (q.size : Int)) = false := decide_eq_false (by omega)
      by_cases h3 : d.size ≤ 400
      · have hd3 : decide ((400 : Int) < (d.size : Int)) = false := decide_eq_false (by omega)
        have hP1 := fun W => path_calls p W (by omega)
        have hP2 := fun W => path_calls q W (by omega)
        cases hp : pathB p with
        | false =>
          rw [hp] at hP1
          have HP1 := Lib.hid hP1
          clear hP1 hP2
          go_enter Tryd.func4, Tryd.ntmps4
          go_wp2_with fail
          refine (HP1.out _).mono ?_
          rintro e w1 ⟨rfl, hx1⟩
          go_wp2_with fail
          refine (HA.out _).mono ?_
          rintro e w2 ⟨rfl, hx2⟩
          go_wp2_with fail
          go_ret
          exact ⟨rfl, hx1.trans hx2⟩
        | true =>
          cases hq : pathB q with
          | true => exact under_main p q d w h1 h2 h3 hp hq
          | false =>
            rw [hp] at hP1
            rw [hq] at hP2
            have HP1 := Lib.hid hP1
            have HP2 := Lib.hid hP2
            clear hP1 hP2
            go_enter Tryd.func4, Tryd.ntmps4
            go_wp2_with fail
            refine (HP1.out _).mono ?_
            rintro e w1 ⟨rfl, hx1⟩
            go_wp2_with fail
            refine (HP2.out _).mono ?_
            rintro e w2 ⟨rfl, hx2⟩
            go_wp2_with fail
            refine (HA.out _).mono ?_
            rintro e w3 ⟨rfl, hx3⟩
            go_wp2_with fail
            go_ret
            exact ⟨rfl, (hx1.trans hx2).trans hx3⟩
      · have hd3 : decide ((400 : Int) < (d.size : Int)) = true := decide_eq_true (by omega)
        go_enter Tryd.func4, Tryd.ntmps4
        go_wp2_with fail
        refine (HA.out _).mono ?_
        rintro e w3 ⟨rfl, hx3⟩
        go_wp2_with fail
        go_ret
        exact ⟨rfl, hx3⟩
    · have hd2 : decide ((20 : Int) < (q.size : Int)) = true := decide_eq_true (by omega)
      go_enter Tryd.func4, Tryd.ntmps4
      go_wp2_with fail
      refine (HA.out _).mono ?_
      rintro e w3 ⟨rfl, hx3⟩
      go_wp2_with fail
      go_ret
      exact ⟨rfl, hx3⟩
  · have hd1 : decide ((20 : Int) < (p.size : Int)) = true := decide_eq_true (by omega)
    go_enter Tryd.func4, Tryd.ntmps4
    go_wp2_with fail
    refine (HA.out _).mono ?_
    rintro e w3 ⟨rfl, hx3⟩
    go_wp2_with fail
    go_ret
    exact ⟨rfl, hx3⟩

end Go.Proofs.YtinafpbdlblcaaaDoor
