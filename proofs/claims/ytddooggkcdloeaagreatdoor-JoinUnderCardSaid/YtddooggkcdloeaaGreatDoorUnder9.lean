/-
  cortegelaw9.JoinUnder.
-/
import Derived.Test.YtddooggkcdloeaaGreatDoorAwake9
namespace Go.Proofs.YtddooggkcdloeaaGreatDoor
open Go.RowKit
set_option linter.unusedVariables false
set_option linter.unusedSimpArgs false
attribute [local go_sem] Oper.semAt_some

theorem und_size9 (p q s : ByteArray) : (undB p q s).size = p.size + s.size + q.size := by
  unfold undB
  rw [ByteArray.size_append, ByteArray.size_append]
theorem reach_two (o : Fl) {p u : ByteArray} (h : p ≠ u) (d e x : ByteArray) : reachB o (atF [⟨p, d⟩] x) (atF [⟨u, e⟩] x) = false := by
  by_cases hx : p = x
  · rw [at_other (fun hu => h (hx.trans hu.symm)), reach_none_b]
  · rw [at_other hx, reach_none_a]
theorem one_size9 {p d : ByteArray} (h : p.size ≤ 1000000) : ∀ y ∈ ([⟨p, d⟩] : List File), y.path.size ≤ 1000000 := fun y hy => by rw [List.mem_singleton.1 hy]; exact h

/-- join.Of and join.Virtual, at two trees of one file each, at paths that are not the same. -/
theorem two_calls (v1 v2 v3 : Value) (os : List File) (p u d e : ByteArray) (w : World) (hA : RdF w v1 os) (hB : RdF w v2 [⟨p, d⟩]) (hC : RdF w v3 [⟨u, e⟩]) (h : p ≠ u) (hp : p.size ≤ 1000000) (hu : u.size ≤ 1000000) (ho : os = [] ∨ os = [⟨p, d⟩]) :
    Calls Tryz.prog 12 #[v1, v2, v3] w (JoinPost w (joinOf noM os [⟨p, d⟩] [⟨u, e⟩]).1 (joinOf noM os [⟨p, d⟩] [⟨u, e⟩]).2) ∧ Calls Tryz.prog 14 #[v1, v2, v3] w (VirtPost w (virtOf noM os [⟨p, d⟩] [⟨u, e⟩])) := by
  have hl : os.length ≤ 1000 := by rcases ho with rfl | rfl <;> simp
  have hs : ∀ y ∈ os, y.path.size ≤ 1000000 := by rcases ho with rfl | rfl <;> first | exact nil_size | exact one_size9 hp
  have hr : ∀ x, reachB (atF os x) (atF [⟨p, d⟩] x) (atF [⟨u, e⟩] x) = true → MrgAt noM (atF os x).data (atF [⟨p, d⟩] x).data (atF [⟨u, e⟩] x).data := fun x hx => by rw [reach_two _ h] at hx; cases hx
  exact ⟨joinOf_calls noM v1 v2 v3 os _ _ _ w hA hB hC hl (by simp) (by simp) hs (one_size9 hp) (one_size9 hu) (fun _ => gathF_size _ _ hs (one_size9 hp) (one_size9 hu)) fun _ => hr,
    virtOf_calls noM v1 v2 v3 os _ _ _ w hA hB hC hl (by simp) (by simp) hs (one_size9 hp) (one_size9 hu) (fun _ => gathF_size _ _ hs (one_size9 hp) (one_size9 hu)) fun _ => hr⟩

set_option maxHeartbeats 1000000 in
set_option maxRecDepth 100000 in
theorem under9_main (p q d e : ByteArray) (w : World) (hps : p.size ≤ 20) (hqs : q.size ≤ 20) (hdd : d.size ≤ 400) (hee : e.size ≤ 400) (hpp : pathB p = true) (hpq : pathB q = true) :
    Calls Tryz.prog 6 #[.string p, .string q, .string d, .string e] w fun e w' => e = .returned (.bool true) ∧ Ext w w' := by
  have hp := isPath_of hps hpp
  have hq := isPath_of hqs hpq
  have hd1 : decide ((20 : Int) < (p.size : Int)) = false := decide_eq_false (by omega)
  have hd2 : decide ((20 : Int) < (q.size : Int)) = false := decide_eq_false (by omega)
  have hd3 : decide ((400 : Int) < (d.size : Int)) = false := decide_eq_false (by omega)
  have hd4 : decide ((400 : Int) < (e.size : Int)) = false := decide_eq_false (by omega)
  have s1 : slashB.size = 1 := rfl
  have z1 : (p ++ slashB).size = p.size + 1 := by rw [ByteArray.size_append, s1]
  have zu : (undB p q slashB).size ≤ 1000000 := by rw [und_size9, s1]; omega
  have a1 := fun W => run_string_add_sum (P := Tryz.prog) W p slashB (by rw [s1]; omega)
  have b1 : ∀ W, (Op.stringOp .add (p ++ slashB) q).run Tryz.prog W = .ok (.string (undB p q slashB)) W := fun W => run_string_add_sum (P := Tryz.prog) W (p ++ slashB) q (by rw [z1]; omega)
  have hP1 := fun W => path_calls p W (by omega)
  have hP2 := fun W => path_calls q W (by omega)
  rw [hpp] at hP1
  rw [hpq] at hP2
  have hJ1 := fun v2 v3 W hA hB hC => (two_calls (.slice none 0 0) v2 v3 [] p (undB p q slashB) d e W hA hB hC (und_ne p q) (by omega) zu (.inl rfl)).1
  have hJ2 := fun v1 v2 v3 W hA hB hC => (two_calls v1 v2 v3 [⟨p, d⟩] p (undB p q slashB) d e W hA hB hC (und_ne p q) (by omega) zu (.inr rfl)).1
  have hV := fun v2 v3 W hA hB hC => (two_calls (.slice none 0 0) v2 v3 [] p (undB p q slashB) d e W hA hB hC (und_ne p q) (by omega) zu (.inl rfl)).2
  rw [join_two hp hq d e hdd hee noM hpp] at hJ1
  rw [join_same hp hq d e hdd hee noM hpp] at hJ2
  rw [virt_two hp hq d e hdd hee noM hpp] at hV
  have HP1 := Lib.hid hP1
  have HP2 := Lib.hid hP2
  have HJ1 := Lib.hid hJ1
  have HJ2 := Lib.hid hJ2
  have HV := Lib.hid hV
  clear hP1 hP2 hJ1 hJ2 hV hp hq hpp hpq zu s1 z1
  have c1 : (⟨#[47]⟩ : ByteArray) = slashB := rfl
  go_enter Tryz.func6, Tryz.ntmps6
  go_wp2_with fail
  refine (HP1.out _).mono ?_
  rintro e w1 ⟨rfl, hx1⟩
  go_wp2_with fail
  refine (HP2.out _).mono ?_
  rintro e w2 ⟨rfl, hx2⟩
  have hx12 := hx1.trans hx2
  clear HP1 HP2 hx1 hx2
  go_wp2_with fail
  have hRa : RdF (w2.alloc (.cells #[.string p, .string d] 40)) (.slice (some ⟨w2.heap.size, 0, none⟩) 1 1) [⟨p, d⟩] := (New.made (E := EF) w2 40 [⟨p, d⟩] (by simp [maxLen])).rdF
  have hRb : RdF ((w2.alloc (.cells #[.string p, .string d] 40)).alloc (.cells #[.string (undB p q slashB), .string e] 40)) (.slice (some ⟨(w2.alloc (.cells #[.string p, .string d] 40)).heap.size, 0, none⟩) 1 1) [⟨undB p q slashB, e⟩] := (New.made (E := EF) (w2.alloc (.cells #[.string p, .string d] 40)) 40 [⟨undB p q slashB, e⟩] (by simp [maxLen])).rdF
  rw [show (w2.alloc (.cells #[.string p, .string d] 40)).heap.size = w2.heap.size + 1 by simp] at hRb
  have hRa2 : RdF ((w2.alloc (.cells #[.string p, .string d] 40)).alloc (.cells #[.string (undB p q slashB), .string e] 40)) _ _ := hRa.ext ((Kp.refl _ _).alloc _)
  have hx3 : Ext w ((w2.alloc (.cells #[.string p, .string d] 40)).alloc (.cells #[.string (undB p q slashB), .string e] 40)) := (hx12.alloc _).alloc _
  generalize ((w2.alloc (.cells #[.string p, .string d] 40)).alloc (.cells #[.string (undB p q slashB), .string e] 40)) = w3 at hRb hRa2 hx3 ⊢
  have Ra := Lib.hid fun W (hW : Ext w3 W) => hRa2.ext hW
  have Rb := Lib.hid fun W (hW : Ext w3 W) => hRb.ext hW
  clear hRa hRb hRa2 hx12
  refine (HJ1.out _ _ w3 (Rd.nil _ _) (Ra.out _ (Kp.refl _ _)) (Rb.out _ (Kp.refl _ _))).mono ?_
  rintro e w4 ⟨r4, s4, rfl, hN4, hM4, hx4⟩
  have HM4 := Lib.hid fun W (hW : Ext w4 W) => (hM4.ext hW).rd
  obtain ⟨A4, c4, h4⟩ := hN4.sl
  subst h4
  obtain ⟨A4', c4', h4'⟩ := hM4.sl
  subst h4'
  clear HJ1 hN4 hM4
  go_wp2_with fail
  refine (HJ2.out _ _ _ w4 (Ra.out _ hx4) (Ra.out _ hx4) (Rb.out _ hx4)).mono ?_
  rintro e w5 ⟨r5, s5, rfl, hN5, hM5, hx5⟩
  have HN5 := Lib.hid fun W (hW : Ext w5 W) => (hN5.ext hW).rdF
  have HM4' := Lib.hid fun W (hW : Ext w5 W) => HM4.out W (hx5.trans hW)
  have hx35 := hx4.trans hx5
  obtain ⟨A5, c5, h5⟩ := hM5.sl
  subst h5
  clear HJ2 hN5 hM5 hx4 hx5 HM4
  go_wp2_with fail
  refine (sameTexts_calls _ _ [undB p q slashB] _ _ _ (HM4'.out _ ((Kp.refl _ w5).alloc _)) ((New.made (E := ES) w5 9 [undB p q slashB] (by simp [maxLen])).rd)).mono ?_
  rintro e w6 ⟨rfl, hx6⟩
  have hx56 := ((Kp.refl All w5).alloc (.cells #[.string (undB p q slashB)] 9)).trans hx6
  have HS := Lib.hid (sameFiles_calls _ _ _ _ _ _ w6 (HN5.out w6 hx56) (Rb.out w6 (hx35.trans hx56)))
  have hx36 := hx35.trans hx56
  clear HM4' HN5 hx6 hx56 hx35
  go_wp2_with fail
  refine HS.out.mono ?_
  clear HS
  rintro e w7 ⟨rfl, hx7⟩
  rw [sameB_refl]
  have hx37 := hx36.trans hx7
  clear hx36 hx7
  go_wp2_with fail
  refine (HV.out _ _ w7 (Rd.nil _ _) (Ra.out _ hx37) (Rb.out _ hx37)).mono ?_
  rintro e w8 ⟨r8, rfl, hN8, hx8⟩
  have HS := Lib.hid (sameFiles_calls _ _ _ _ _ _ w8 hN8.rdF (Ra.out w8 (hx37.trans hx8)))
  have hx38 := hx37.trans hx8
  clear hN8 hx37 hx8 HV
  go_wp2_with fail
  refine HS.out.mono ?_
  clear HS
  rintro e w9 ⟨rfl, hx9⟩
  rw [sameB_refl]
  have hx39 := hx38.trans hx9
  clear hx38 hx9 Ra Rb
  go_wp2_with fail
  refine (awake9_calls w9).mono ?_
  rintro e w10 ⟨rfl, hx10⟩
  go_wp2_with fail
  go_ret
  exact ⟨rfl, hx3.trans (hx39.trans hx10)⟩

set_option maxHeartbeats 1000000 in
set_option maxRecDepth 100000 in
theorem under9_calls (p q d e : ByteArray) (w : World) (hps : p.size ≤ 9223372036854775807) (hqs : q.size ≤ 9223372036854775807) (hds : d.size ≤ 9223372036854775807) (hes : e.size ≤ 9223372036854775807) :
    Calls Tryz.prog 6 #[.string p, .string q, .string d, .string e] w fun e w' => e = .returned (.bool true) ∧ Ext w w' := by
  have HA := Lib.hid awake9_calls
  have hP1 := fun W => path_any p W hps
  have hP2 := fun W => path_any q W hqs
  cases hp : pathB p with
  | false =>
    rw [hp] at hP1
    have HP1 := Lib.hid hP1
    clear hP1 hP2
    go_enter Tryz.func6, Tryz.ntmps6
    go_wp2_with fail
    refine (HP1.out _).mono ?_
    rintro e w1 ⟨rfl, hx1⟩
    go_wp2_with fail
    refine (HA.out _).mono ?_
    rintro e w2 ⟨rfl, hx2⟩
    go_wp2_with fail
    go_ret
    exact ⟨rfl, (hx1).trans hx2⟩
  | true =>
    cases hq : pathB q with
    | false =>
      rw [hp] at hP1
      rw [hq] at hP2
      have HP1 := Lib.hid hP1
      have HP2 := Lib.hid hP2
      clear hP1 hP2
      go_enter Tryz.func6, Tryz.ntmps6
      go_wp2_with fail
      refine (HP1.out _).mono ?_
      rintro e w1 ⟨rfl, hx1⟩
      go_wp2_with fail
      refine (HP2.out _).mono ?_
      rintro e w2 ⟨rfl, hx2⟩
      go_wp2_with fail
      refine (HA.out _).mono ?_
      rintro e w3 ⟨rfl, hx3⟩
      go_wp2_with fail
      go_ret
      exact ⟨rfl, ((hx1).trans hx2).trans hx3⟩
    | true =>
      by_cases h1 : p.size ≤ 20
      · by_cases h2 : q.size ≤ 20
        · by_cases h3 : d.size ≤ 400
          · by_cases h4 : e.size ≤ 400
            · exact under9_main p q d e w h1 h2 h3 h4 hp hq
            · have hd4 : decide ((400 : Int) < (e.size : Int)) = true := decide_eq_true (by omega)
              have hd3 : decide ((400 : Int) < (d.size : Int)) = false := decide_eq_false (by omega)
              have hd2 : decide ((20 : Int) < (q.size : Int)) = false := decide_eq_false (by omega)
              have hd1 : decide ((20 : Int) < (p.size : Int)) = false := decide_eq_false (by omega)
              rw [hp] at hP1
              rw [hq] at hP2
              have HP1 := Lib.hid hP1
              have HP2 := Lib.hid hP2
              clear hP1 hP2 hp hq
              go_enter Tryz.func6, Tryz.ntmps6
              go_wp2_with fail
              refine (HP1.out _).mono ?_
              rintro e w1 ⟨rfl, hx1⟩
              go_wp2_with fail
              refine (HP2.out _).mono ?_
              rintro e w2 ⟨rfl, hx2⟩
              go_wp2_with fail
              refine (HA.out _).mono ?_
              rintro e w3 ⟨rfl, hx3⟩
              go_wp2_with fail
              go_ret
              exact ⟨rfl, ((hx1).trans hx2).trans hx3⟩
          · have hd3 : decide ((400 : Int) < (d.size : Int)) = true := decide_eq_true (by omega)
            have hd2 : decide ((20 : Int) < (q.size : Int)) = false := decide_eq_false (by omega)
            have hd1 : decide ((20 : Int) < (p.size : Int)) = false := decide_eq_false (by omega)
            rw [hp] at hP1
            rw [hq] at hP2
            have HP1 := Lib.hid hP1
            have HP2 := Lib.hid hP2
            clear hP1 hP2 hp hq
            go_enter Tryz.func6, Tryz.ntmps6
            go_wp2_with fail
            refine (HP1.out _).mono ?_
            rintro e w1 ⟨rfl, hx1⟩
            go_wp2_with fail
            refine (HP2.out _).mono ?_
            rintro e w2 ⟨rfl, hx2⟩
            go_wp2_with fail
            refine (HA.out _).mono ?_
            rintro e w3 ⟨rfl, hx3⟩
            go_wp2_with fail
            go_ret
            exact ⟨rfl, ((hx1).trans hx2).trans hx3⟩
        · have hd2 : decide ((20 : Int) < (q.size : Int)) = true := decide_eq_true (by omega)
          have hd1 : decide ((20 : Int) < (p.size : Int)) = false := decide_eq_false (by omega)
          rw [hp] at hP1
          rw [hq] at hP2
          have HP1 := Lib.hid hP1
          have HP2 := Lib.hid hP2
          clear hP1 hP2 hp hq
          go_enter Tryz.func6, Tryz.ntmps6
          go_wp2_with fail
          refine (HP1.out _).mono ?_
          rintro e w1 ⟨rfl, hx1⟩
          go_wp2_with fail
          refine (HP2.out _).mono ?_
          rintro e w2 ⟨rfl, hx2⟩
          go_wp2_with fail
          refine (HA.out _).mono ?_
          rintro e w3 ⟨rfl, hx3⟩
          go_wp2_with fail
          go_ret
          exact ⟨rfl, ((hx1).trans hx2).trans hx3⟩
      · have hd1 : decide ((20 : Int) < (p.size : Int)) = true := decide_eq_true (by omega)
        rw [hp] at hP1
        rw [hq] at hP2
        have HP1 := Lib.hid hP1
        have HP2 := Lib.hid hP2
        clear hP1 hP2 hp hq
        go_enter Tryz.func6, Tryz.ntmps6
        go_wp2_with fail
        refine (HP1.out _).mono ?_
        rintro e w1 ⟨rfl, hx1⟩
        go_wp2_with fail
        refine (HP2.out _).mono ?_
        rintro e w2 ⟨rfl, hx2⟩
        go_wp2_with fail
        refine (HA.out _).mono ?_
        rintro e w3 ⟨rfl, hx3⟩
        go_wp2_with fail
        go_ret
        exact ⟨rfl, ((hx1).trans hx2).trans hx3⟩

end Go.Proofs.YtddooggkcdloeaaGreatDoor
