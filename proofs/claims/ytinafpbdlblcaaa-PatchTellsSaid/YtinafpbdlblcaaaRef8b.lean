/-
  cortegeref8.Of.
-/
import Derived.Test.YtinafpbdlblcaaaOf
import Derived.Test.YtinafpbdlblcaaaRef8a
namespace Go.Proofs.Ytinafpbdlblcaaa
open Go.RowKit
set_option linter.unusedVariables false
set_option linter.unusedSimpArgs false
attribute [local go_sem] Oper.semAt_some

theorem tiC8 : TI EC Try.prog 27 31 56 :=
  TI.mk' (z := .agg #[.string ⟨#[]⟩, .bool false, .bool false, .string ⟨#[]⟩, .string ⟨#[]⟩]) Try.underlying27 (by kernel_rfl) (by rfl) (by decide)

set_option maxHeartbeats 800000 in
set_option maxRecDepth 100000 in
/-- cortegeref8.Of. -/
theorem refOf_calls (v u : Value) (xs ys : List File) (S T : Fp) (w : World) (hR : Rd EF S w v xs) (hR' : Rd EF T w u ys) (hb : xs.length ≤ 1000) (hb' : ys.length ≤ 1000) :
    Calls Try.prog 11 #[v, u] w fun e w' => ∃ r, e = .returned r ∧ New EC 31 w.heap.size w' r (ofF xs ys) ∧ Ext w w' := by
  obtain ⟨A1, c1, rfl, hO1⟩ := hR.open_
  obtain ⟨A2, c2, rfl, hO2⟩ := hR'.open_
  obtain ⟨n1, hn1⟩ : ∃ n, xs.length = n := ⟨_, rfl⟩
  obtain ⟨n2, hn2⟩ : ∃ n, ys.length = n := ⟨_, rfl⟩
  rw [hn1] at hR hb ⊢
  rw [hn2] at hR' hb' ⊢
  have H1 := Lib.hid hn1
  have H2 := Lib.hid hn2
  clear hn1 hn2 hO1 hO2
  go_enter Try.func11, Try.ntmps11
  go_wp2_with (go_at_call 23; refine stop ?_)
  have hA : ∀ W, Ext w W → RdAll (fun _ => True) W [⟨A1, n1, c1⟩, ⟨A2, n2, c2⟩] [xs, ys] := fun W hW => .cons ((hR.kp (hW.mono fun _ _ _ => trivial)).wide fun _ _ => trivial) (.cons ((hR'.kp (hW.mono fun _ _ _ => trivial)).wide fun _ _ => trivial) .nil)
  have hsum : sumL [xs, ys] ≤ 100000 := by simp only [sumL, List.flatten_cons, List.flatten_nil, List.append_nil, List.length_append]; rw [H1.out, H2.out]; omega
  refine (refPaths_calls _ _ _ _ _ ((built2 w 22 ⟨A1, n1, c1⟩ ⟨A2, n2, c2⟩).wide fun _ _ => trivial) (hA _ ((Kp.refl _ w).alloc _)) hsum).mono ?_
  rintro e w1 ⟨r1, rfl, hN1, hx1'⟩
  have hx1 : Ext w w1 := ((Kp.refl _ w).alloc _).trans hx1'
  have hpl : (riseT (flatP [xs, ys])).length ≤ 2000 := Nat.le_trans (riseT_length _) (by
    unfold flatP
    simp only [List.length_map, List.flatten_cons, List.flatten_nil, List.append_nil, List.length_append]; rw [H1.out, H2.out]; omega)
  obtain ⟨ps, hps⟩ : ∃ ps, riseT (flatP [xs, ys]) = ps := ⟨_, rfl⟩
  rw [hps] at hN1 hpl
  have HPS : Hid (ofF xs ys = ofL xs ys ps) := Lib.hid (by unfold ofF; rw [hps])
  obtain ⟨A, c, hr1, hO⟩ := hN1.rd.open_
  subst hr1
  obtain ⟨n, hn⟩ : ∃ n, ps.length = n := ⟨_, rfl⟩
  rw [hn] at hpl hN1 ⊢
  have HN := Lib.hid hn
  clear hps hx1' hA hsum hn
  go_wp2_with fail
  go_loopw [5, 7] (fun o i wr => ∃ k : Nat, k ≤ n ∧ i = .int .i64 k ∧ New EC 31 w1.heap.size wr o (ofL xs ys (ps.take k)) ∧ Ext w1 wr) (fun _ i _ => n - (intOf i).toNat)
  case atStart => exact ⟨0, Nat.zero_le _, rfl, New.nil _ _ _, Kp.refl _ _⟩
  case round =>
    obtain ⟨k, hk, rfl, hN, hxp⟩ := hrel
    rename World => wo
    have hx : Ext w wo := hx1.trans hxp
    by_cases hlt : k < n
    · have hd3 : decide ((k : Int) < (n : Int)) = true := decide_eq_true (by omega)
      have hkp : k < ps.length := by have := HN.out; omega
      obtain ⟨b, off, rfl, _, hbl, q0⟩ := hO.rd.text hkp
      obtain ⟨p, hp⟩ : ∃ p, ps[k] = p := ⟨_, rfl⟩
      have hsn : ofL xs ys (ps.take (k + 1)) = ofL xs ys (ps.take k) ++ if diffB (chg xs ys p) then [chg xs ys p] else [] := by rw [take_snoc ps hkp, ofL_snoc, hp]
      have hol : (ofL xs ys (ps.take k)).length ≤ 2000 := by
        unfold ofL
        refine Nat.le_trans (List.length_filter_le _ _) ?_
        rw [List.length_map, List.length_take]; omega
      obtain ⟨ol, holq⟩ : ∃ ol, ofL xs ys (ps.take k) = ol := ⟨_, rfl⟩
      rw [hp] at q0
      rw [holq] at hN hsn hol
      have hat : ∀ W, Ext w1 W → W.cell? ⟨b, off + k, none⟩ = some (.string p) := fun W hW => (hW.cell (p := ⟨b, off + k, none⟩) hbl trivial).trans q0
      have HAT := Lib.hid hat
      have c0 := hat wo hxp
      have hlt' : (k : Int) < (n : Int) := by omega
      have h0 : (0 : Int) ≤ (k : Int) := by omega
      have hw : IntKind.i64.wrap ((k : Int) + 1) = (k : Int) + 1 := IntWalk.i64_in _ (by omega)
      have HS := Lib.hid hsn
      have HOL := Lib.hid hol
      clear hsn hp holq hol hat q0
      obtain ⟨A0, m0, k0, hv0⟩ := hN.1.slice
      subst hv0
      go_wp2_with (go_at_call 19; refine stop ?_)
      refine (refGet_calls (.slice A1 n1 c1) p xs (fun _ => True) _ ((hR.kp (hx.mono fun _ _ _ => trivial)).wide fun _ _ => trivial) (by rw [H1.out]; omega)).mono ?_
      rintro e w3 ⟨rfl, hx3⟩
      obtain ⟨g1, hg1⟩ : ∃ g, (getF xs p).isSome = g := ⟨_, rfl⟩
      obtain ⟨d1, hd1⟩ : ∃ d, getD xs p = d := ⟨_, rfl⟩
      rw [hg1, hd1]
      have HG1 := Lib.hid hg1
      have HD1 := Lib.hid hd1
      have hxp3 : Ext w1 w3 := hxp.trans hx3
      clear hg1 hd1 c0
      have c0 := HAT.out w3 hxp3
      go_wp2_with (go_at_call 19; refine stop ?_)
      refine (refGet_calls (.slice A2 n2 c2) p ys (fun _ => True) _ ((hR'.kp ((hx.trans hx3).mono fun _ _ _ => trivial)).wide fun _ _ => trivial) (by rw [H2.out]; omega)).mono ?_
      rintro e w5 ⟨rfl, hx5⟩
      obtain ⟨g2, hg2⟩ : ∃ g, (getF ys p).isSome = g := ⟨_, rfl⟩
      obtain ⟨d2, hd2⟩ : ∃ d, getD ys p = d := ⟨_, rfl⟩
      rw [hg2, hd2]
      have HG2 := Lib.hid hg2
      have HD2 := Lib.hid hd2
      have HCH : Hid (chg xs ys p = ⟨p, g1, g2, d1, d2⟩) := Lib.hid (by unfold chg; rw [HG1.out, HD1.out, hg2, hd2])
      have hxp5 : Ext w1 w5 := hxp3.trans hx5
      have hN5 := hN.ext (hx3.trans hx5)
      clear hg2 hd2 c0
      have c0 := HAT.out w5 hxp5
      clear HG1 HG2 HD1 HD2 hx3 hx5
      cases g1 with
      | true =>
        cases g2 with
        | true =>
          cases hde : (d1.toList == d2.toList) with
          | false =>
            go_wp2_with (at_builtin; refine stop ?_)
            refine list_append1 tiC8 ⟨p, true, true, d1, d2⟩ rfl rfl rfl hN5 hxp5 rfl rfl rfl (by have := HOL.out; omega) (by have := HOL.out; unfold maxLen; omega) ?_
            intro v' w' hN' hx'
            obtain ⟨A', n', c', hv'⟩ := hN'.1.slice
            subst hv'
            clear c0
            go_wp2_with fail
            go_roundw
            case rel => exact ⟨k + 1, by omega, by go_num, by rw [HS.out, HCH.out, show diffB ⟨p, true, true, d1, d2⟩ = true from by unfold diffB; rw [hde]; rfl]; exact hN', hx'⟩
            case measure => simp [intOf]; omega
          | true =>
            go_wp2_with fail
            go_roundw
            case rel => exact ⟨k + 1, by omega, by go_num, by rw [HS.out, HCH.out, show diffB ⟨p, true, true, d1, d2⟩ = false from by unfold diffB; rw [hde]; rfl]; simpa using hN5, hxp5⟩
            case measure => simp [intOf]; omega
        | false =>
          go_wp2_with (at_builtin; refine stop ?_)
          refine list_append1 tiC8 ⟨p, true, false, d1, d2⟩ rfl rfl rfl hN5 hxp5 rfl rfl rfl (by have := HOL.out; omega) (by have := HOL.out; unfold maxLen; omega) ?_
          intro v' w' hN' hx'
          obtain ⟨A', n', c', hv'⟩ := hN'.1.slice
          subst hv'
          clear c0
          go_wp2_with fail
          go_roundw
          case rel => exact ⟨k + 1, by omega, by go_num, by rw [HS.out, HCH.out, show diffB ⟨p, true, false, d1, d2⟩ = true from rfl]; exact hN', hx'⟩
          case measure => simp [intOf]; omega
      | false =>
        cases g2 with
        | true =>
          go_wp2_with (at_builtin; refine stop ?_)
          refine list_append1 tiC8 ⟨p, false, true, d1, d2⟩ rfl rfl rfl hN5 hxp5 rfl rfl rfl (by have := HOL.out; omega) (by have := HOL.out; unfold maxLen; omega) ?_
          intro v' w' hN' hx'
          obtain ⟨A', n', c', hv'⟩ := hN'.1.slice
          subst hv'
          clear c0
          go_wp2_with fail
          go_roundw
          case rel => exact ⟨k + 1, by omega, by go_num, by rw [HS.out, HCH.out, show diffB ⟨p, false, true, d1, d2⟩ = true from rfl]; exact hN', hx'⟩
          case measure => simp [intOf]; omega
        | false =>
          cases hde : (d1.toList == d2.toList) with
          | false =>
            go_wp2_with (at_builtin; refine stop ?_)
            refine list_append1 tiC8 ⟨p, false, false, d1, d2⟩ rfl rfl rfl hN5 hxp5 rfl rfl rfl (by have := HOL.out; omega) (by have := HOL.out; unfold maxLen; omega) ?_
            intro v' w' hN' hx'
            obtain ⟨A', n', c', hv'⟩ := hN'.1.slice
            subst hv'
            clear c0
            go_wp2_with fail
            go_roundw
            case rel => exact ⟨k + 1, by omega, by go_num, by rw [HS.out, HCH.out, show diffB ⟨p, false, false, d1, d2⟩ = true from by unfold diffB; rw [hde]; rfl]; exact hN', hx'⟩
            case measure => simp [intOf]; omega
          | true =>
            go_wp2_with fail
            go_roundw
            case rel => exact ⟨k + 1, by omega, by go_num, by rw [HS.out, HCH.out, show diffB ⟨p, false, false, d1, d2⟩ = false from by unfold diffB; rw [hde]; rfl]; simpa using hN5, hxp5⟩
            case measure => simp [intOf]; omega
    · have hd3 : decide ((k : Int) < (n : Int)) = false := decide_eq_false (by omega)
      have hall : ps.take k = ps := List.take_of_length_le (by have := HN.out; omega)
      rw [hall] at hN
      clear hall
      obtain ⟨A', n', c', hv'⟩ := hN.1.slice
      subst hv'
      go_wp2_with fail
      go_ret
      exact ⟨_, rfl, by rw [HPS.out]; exact hN.less hx1.size, hx⟩

end Go.Proofs.Ytinafpbdlblcaaa
