/-
  cortegeref8.Apply.
-/
import Derived.Test.YtinafpbdlblcaaaChange
namespace Go.Proofs.Ytinafpbdlblcaaa
open Go.RowKit
set_option linter.unusedVariables false
set_option linter.unusedSimpArgs false
attribute [local go_sem] Oper.semAt_some

set_option maxHeartbeats 800000 in
set_option maxRecDepth 100000 in
/-- cortegeref8.Apply. -/
theorem refApply_calls (v u : Value) (xs : List File) (cs : List Ch) (S T : Fp) (w : World) (hR : Rd EF S w v xs) (hC : Rd EC T w u cs) (hb : xs.length ≤ 900) (hcl : cs.length ≤ 1000) (hbig : ∀ k t, applyF xs (cs.take k) = some t → t.length ≤ 38) :
    Calls Try.prog 8 #[v, u] w fun e w' => ∃ r, e = .returned (.tuple #[r, .bool (applyF xs cs).isSome]) ∧ New EF 43 w.heap.size w' r ((applyF xs cs).getD []) ∧ Ext w w' := by
  obtain ⟨A, c, rfl, hO⟩ := hC.open_
  obtain ⟨n, hn⟩ : ∃ n, cs.length = n := ⟨_, rfl⟩
  have hlen := hO.len
  rw [hn] at hlen hC ⊢
  have HN := Lib.hid hn
  have HBIG := Lib.hid hbig
  clear hn hC hbig
  go_enter Try.func8, Try.ntmps8
  go_wp2_with (at_builtin; refine stop ?_)
  refine list_append (v := .slice none 0 0) (xs := []) (ys := xs) tiF rfl rfl rfl rfl (Own.nil _ _) hR (by simp; omega) (by simp [maxLen]; omega) ?_
  intro r0 w1 hO1 hK1 hB1
  have hx1 : Ext w w1 := hK1.mono fun k _ _ h => by cases h
  have hN1 : New EF 43 w.heap.size w1 r0 xs := ⟨hO1, fun g hg => by
    rcases hB1 with h | h
    · rw [h] at hg; cases hg
    · rw [h] at hg; simp at hg; omega⟩
  clear hO1 hK1 hB1
  go_wp2_with fail
  go_loopw [6, 7] (fun o i wr => ∃ (k : Nat) (t : List File), k ≤ n ∧ i = .int .i64 k ∧ applyF xs (cs.take k) = some t ∧ New EF 43 w.heap.size wr o t ∧ Ext w wr) (fun _ i _ => n - (intOf i).toNat)
  case atStart => exact ⟨0, xs, Nat.zero_le _, rfl, rfl, hN1, hx1⟩
  case round =>
    obtain ⟨k, t, hk, rfl, hap, hN, hx⟩ := hrel
    rename World => wo
    have HAP := Lib.hid hap
    have htl : t.length ≤ 38 := HBIG.out k t hap
    by_cases hlt : k < n
    · have hd3 : decide ((k : Int) < (n : Int)) = true := decide_eq_true (by omega)
      have hkc : k < cs.length := by have := HN.out; omega
      obtain ⟨b, off, rfl, _, hbl, q0, q1, q2, q3, q4⟩ := hO.rd.ch hkc
      have hts : cs.take (k + 1) = cs.take k ++ [cs[k]] := take_snoc cs hkc
      obtain ⟨ch, hch⟩ : ∃ ch, cs[k] = ch := ⟨_, rfl⟩
      rw [hch] at q0 q1 q2 q3 q4 hts
      obtain ⟨cp, cw, ci, co, cn⟩ := ch
      dsimp only at q0 q1 q2 q3 q4
      have hat : ∀ W, Ext w W → W.cell? ⟨b, off + k * 5, none⟩ = some (.string cp) ∧ W.cell? ⟨b, off + k * 5 + 1, none⟩ = some (.bool cw) ∧ W.cell? ⟨b, off + k * 5 + 2, none⟩ = some (.bool ci) ∧ W.cell? ⟨b, off + k * 5 + 3, none⟩ = some (.string co) ∧ W.cell? ⟨b, off + k * 5 + 4, none⟩ = some (.string cn) := fun W hW =>
        ⟨(hW.cell (p := ⟨b, off + k * 5, none⟩) hbl trivial).trans q0, (hW.cell (p := ⟨b, off + k * 5 + 1, none⟩) hbl trivial).trans q1, (hW.cell (p := ⟨b, off + k * 5 + 2, none⟩) hbl trivial).trans q2, (hW.cell (p := ⟨b, off + k * 5 + 3, none⟩) hbl trivial).trans q3, (hW.cell (p := ⟨b, off + k * 5 + 4, none⟩) hbl trivial).trans q4⟩
      have HAT := Lib.hid hat
      obtain ⟨c0, c1, c2, c3, c4⟩ := hat wo hx
      have hlt' : (k : Int) < (n : Int) := by omega
      have h0 : (0 : Int) ≤ (k : Int) := by omega
      have hw : IntKind.i64.wrap ((k : Int) + 1) = (k : Int) + 1 := IntWalk.i64_in _ (by omega)
      have HT := Lib.hid hts
      clear hts hch hap hat q0 q1 q2 q3 q4
      obtain ⟨A', n', c', hv'⟩ := hN.1.slice
      subst hv'
      go_wp2_with (go_at_call 19; refine stop ?_)
      refine (refGet_calls _ cp t _ _ hN.rd (by omega)).mono ?_
      rintro e w3 ⟨rfl, hx3'⟩
      have hx3 : Ext w w3 := hx.trans hx3'
      have hN3 := hN.ext hx3'
      clear c0 c1 c2 c3 c4
      obtain ⟨b0, b1, b2, b3, b4⟩ := HAT.out w3 hx3
      obtain ⟨g, hg⟩ : ∃ g, (getF t cp).isSome = g := ⟨_, rfl⟩
      obtain ⟨d, hd⟩ : ∃ d, getD t cp = d := ⟨_, rfl⟩
      rw [hg, hd]
      have HG := Lib.hid hg
      have HD := Lib.hid hd
      clear hg hd hx3'
      cases cw with
      | true =>
        cases g with
        | true =>
          cases hde : (d.toList == co.toList) with
          | false =>
            go_wp2_with fail
            go_ret2
            have hnone : applyF xs cs = none := applyF_stop xs cs (k + 1) (by rw [HT.out, applyF_snoc _ _ _ HAP.out]; unfold stepF; rw [if_neg (by simp only [HG.out, HD.out]; rw [hde]; simp)])
            exact ⟨_, by rw [hnone]; rfl, by rw [hnone]; exact New.nil _ _ _, hx3⟩
          | true =>
            have hst : stepF t ⟨cp, true, ci, co, cn⟩ = some (if ci then putF t cp cn else drF t cp) := by
              unfold stepF; rw [if_pos (by simp only [HG.out, HD.out, hde]; rfl)]
            have HST := Lib.hid hst
            clear hst
            cases ci with
            | true =>
              go_wp2_with fail
              go_still_tail 11, (by kernel_rfl)
              have hxq : Ext w w3.drew := hx3.drew
              have hNq : New EF 43 w.heap.size w3.drew _ t := hN3.ext (Kp.refl _ w3).drew
              go_wp2_with (go_at_call 20; refine stop ?_)
              refine (refPut_calls _ cp cn t _ _ hNq.rd (by omega)).mono ?_
              rintro e w4 ⟨r4, rfl, hN4, hx4⟩
              obtain ⟨A4, n4, c4, hv4⟩ := hN4.1.slice
              subst hv4
              clear b0 b1 b2 b3 b4
              go_wp2_with fail
              go_roundw
              case rel => exact ⟨k + 1, putF t cp cn, by omega, by go_num, by rw [HT.out, applyF_snoc _ _ _ HAP.out, HST.out]; rfl, hN4.less (hxq).size, (hxq).trans hx4⟩
              case measure => simp [intOf]; omega
            | false =>
              have hxq := hx3
              have hNq := hN3
              go_wp2_with (go_at_call 21; refine stop ?_)
              refine (refDrop_calls _ cp t _ _ hNq.rd (by omega)).mono ?_
              rintro e w4 ⟨r4, rfl, hN4, hx4⟩
              obtain ⟨A4, n4, c4, hv4⟩ := hN4.1.slice
              subst hv4
              clear b0 b1 b2 b3 b4
              go_wp2_with fail
              go_roundw
              case rel => exact ⟨k + 1, drF t cp, by omega, by go_num, by rw [HT.out, applyF_snoc _ _ _ HAP.out, HST.out]; rfl, hN4.less (hxq).size, (hxq).trans hx4⟩
              case measure => simp [intOf]; omega
        | false =>
          go_wp2_with fail
          go_ret2
          have hnone : applyF xs cs = none := applyF_stop xs cs (k + 1) (by rw [HT.out, applyF_snoc _ _ _ HAP.out]; unfold stepF; rw [if_neg (by simp only [HG.out, HD.out]; simp)])
          exact ⟨_, by rw [hnone]; rfl, by rw [hnone]; exact New.nil _ _ _, hx3⟩
      | false =>
        cases g with
        | true =>
          go_wp2_with fail
          go_ret2
          have hnone : applyF xs cs = none := applyF_stop xs cs (k + 1) (by rw [HT.out, applyF_snoc _ _ _ HAP.out]; unfold stepF; rw [if_neg (by simp only [HG.out, HD.out]; simp)])
          exact ⟨_, by rw [hnone]; rfl, by rw [hnone]; exact New.nil _ _ _, hx3⟩
        | false =>
          cases hde : (d.toList == co.toList) with
          | false =>
            go_wp2_with fail
            go_ret2
            have hnone : applyF xs cs = none := applyF_stop xs cs (k + 1) (by rw [HT.out, applyF_snoc _ _ _ HAP.out]; unfold stepF; rw [if_neg (by simp only [HG.out, HD.out]; rw [hde]; simp)])
            exact ⟨_, by rw [hnone]; rfl, by rw [hnone]; exact New.nil _ _ _, hx3⟩
          | true =>
            have hst : stepF t ⟨cp, false, ci, co, cn⟩ = some (if ci then putF t cp cn else drF t cp) := by
              unfold stepF; rw [if_pos (by simp only [HG.out, HD.out, hde]; rfl)]
            have HST := Lib.hid hst
            clear hst
            cases ci with
            | true =>
              go_wp2_with fail
              go_still_tail 11, (by kernel_rfl)
              have hxq : Ext w w3.drew := hx3.drew
              have hNq : New EF 43 w.heap.size w3.drew _ t := hN3.ext (Kp.refl _ w3).drew
              go_wp2_with (go_at_call 20; refine stop ?_)
              refine (refPut_calls _ cp cn t _ _ hNq.rd (by omega)).mono ?_
              rintro e w4 ⟨r4, rfl, hN4, hx4⟩
              obtain ⟨A4, n4, c4, hv4⟩ := hN4.1.slice
              subst hv4
              clear b0 b1 b2 b3 b4
              go_wp2_with fail
              go_roundw
              case rel => exact ⟨k + 1, putF t cp cn, by omega, by go_num, by rw [HT.out, applyF_snoc _ _ _ HAP.out, HST.out]; rfl, hN4.less (hxq).size, (hxq).trans hx4⟩
              case measure => simp [intOf]; omega
            | false =>
              have hxq := hx3
              have hNq := hN3
              go_wp2_with (go_at_call 21; refine stop ?_)
              refine (refDrop_calls _ cp t _ _ hNq.rd (by omega)).mono ?_
              rintro e w4 ⟨r4, rfl, hN4, hx4⟩
              obtain ⟨A4, n4, c4, hv4⟩ := hN4.1.slice
              subst hv4
              clear b0 b1 b2 b3 b4
              go_wp2_with fail
              go_roundw
              case rel => exact ⟨k + 1, drF t cp, by omega, by go_num, by rw [HT.out, applyF_snoc _ _ _ HAP.out, HST.out]; rfl, hN4.less (hxq).size, (hxq).trans hx4⟩
              case measure => simp [intOf]; omega
    · have hd3 : decide ((k : Int) < (n : Int)) = false := decide_eq_false (by omega)
      have hall : cs.take k = cs := List.take_of_length_le (by have := HN.out; omega)
      rw [hall] at HAP
      clear hall hap
      obtain ⟨A', n', c', hv'⟩ := hN.1.slice
      subst hv'
      go_wp2_with fail
      go_ret2
      exact ⟨_, by rw [HAP.out]; rfl, by rw [HAP.out]; exact hN, hx⟩

end Go.Proofs.Ytinafpbdlblcaaa
