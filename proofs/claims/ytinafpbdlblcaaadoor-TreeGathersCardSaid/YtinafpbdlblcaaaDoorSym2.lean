/-
  slices.symMergeCmpFunc at files: one file behind a rising row.
-/
import Derived.Test.YtinafpbdlblcaaaDoorSym
namespace Go.Proofs.YtinafpbdlblcaaaDoor
open Go.RowKit
set_option linter.unusedVariables false
set_option linter.unusedSimpArgs false

theorem rise_le {L : List File} (hL : RiseK File.path L) {k : Nat} {z y : File} (hz : L[k]? = some z) (h : ltB y.path z.path = false) : ∀ u ∈ L.take (k + 1), ltB y.path u.path = false := by
  intro u hu
  obtain ⟨i, hi, rfl⟩ := List.mem_iff_getElem.1 hu
  rw [List.length_take] at hi
  rw [List.getElem_take]
  obtain ⟨hk, rfl⟩ := List.getElem?_eq_some_iff.1 hz
  exact leB_trans (rise_at File.path hL (i := i) (j := k) (by omega) hk) h
theorem rise_gt {L : List File} (hL : RiseK File.path L) {k : Nat} {z y : File} (hz : L[k]? = some z) (h : ltB y.path z.path = true) : ∀ u ∈ L.drop k, ltB y.path u.path = true := by
  intro u hu
  obtain ⟨i, hi, rfl⟩ := List.mem_iff_getElem.1 hu
  rw [List.length_drop] at hi
  rw [List.getElem_drop]
  obtain ⟨hk, rfl⟩ := List.getElem?_eq_some_iff.1 hz
  exact lt_of_lt_le h (rise_at File.path hL (i := k) (j := k + i) (by omega) (by omega))

set_option maxHeartbeats 1000000 in
set_option maxRecDepth 100000 in
/-- One file behind a rising row. -/
theorem symRight_calls (g c : Nat) (A L B : List File) (y : File) (a m b : Nat) (len : Nat) (hlen : A.length + L.length + 1 + B.length = len) (ha : A.length = a) (hm : a + L.length = m) (hb : m + 1 = b) (hL1 : 1 < L.length) (hLr : RiseK File.path L) (hl : len ≤ 1000000) (w : World)
    (h : Own EF 30 w (.slice (some ⟨g, 0, none⟩) len c) (A ++ (L ++ y :: B))) :
    Calls Tryd.prog 77 #[.slice (some ⟨g, 0, none⟩) len c, .int .i64 a, .int .i64 m, .int .i64 b, .func (.func 42) #[] #[]] w fun e w' => (∃ v, e = .returned v) ∧
      Own EF 30 w' (.slice (some ⟨g, 0, none⟩) len c) (A ++ (sortK File.path (L ++ [y]) ++ B)) ∧ Kp (fun k => k ≠ g) w w' := by
  go_enter Tryd.func77, Tryd.ntmps77
  have hw1 : IntKind.i64.wrap ((m : Int) - (a : Int)) = (L.length : Int) := by rw [IntWalk.i64_in _ (by omega)]; omega
  have hw2 : IntKind.i64.wrap ((b : Int) - (m : Int)) = 1 := by rw [IntWalk.i64_in _ (by omega)]; omega
  have hw3 : ((L.length : Int) == 1) = false := by rw [beq_eq_false_iff_ne]; omega
  have hw4 : (L.length == 1) = false := by rw [beq_eq_false_iff_ne]; omega
  have HA := Lib.hid ha
  have HM := Lib.hid hm
  have HB := Lib.hid hb
  have HL := Lib.hid hlen
  clear ha hm hb hlen
  go_wp2_with fail
  clear hw1 hw2 hw3 hw4
  go_loopw [14, 15] (fun u v wr => ∃ i j : Nat, i ≤ j ∧ j ≤ L.length ∧ u = .int .i64 ((a + i : Nat) : Int) ∧ v = .int .i64 ((a + j : Nat) : Int) ∧ (∀ z ∈ L.take i, ltB y.path z.path = false) ∧ (∀ z ∈ L.drop j, ltB y.path z.path = true) ∧ Own EF 30 wr (.slice (some ⟨g, 0, none⟩) len c) (A ++ (L ++ y :: B)) ∧ Kp (fun j => j ≠ g) w wr) (fun u v _ => (intOf v).toNat - (intOf u).toNat)
  case atStart =>
    have h1 := HM.out
    exact ⟨0, L.length, Nat.zero_le _, Nat.le_refl _, rfl, by rw [h1], by simp, by simp, h, Kp.refl _ _⟩
  case round =>
    obtain ⟨i, j, hij, hj, rfl, rfl, h1, h2, hOwn, hKp⟩ := hrel
    rename_i wr
    have H1 := Lib.hid h1
    have H2 := Lib.hid h2
    have hml : m ≤ 1000000 := by have := HB.out; have := HL.out; have := HA.out; have := HM.out; omega
    have hbm : a + L.length = m := HM.out
    obtain ⟨i0, hi0⟩ : ∃ i0, a + i = i0 := ⟨_, rfl⟩
    obtain ⟨j0, hj0⟩ : ∃ j0, a + j = j0 := ⟨_, rfl⟩
    rw [hi0, hj0]
    have HI0 := Lib.hid hi0
    have HJ0 := Lib.hid hj0
    by_cases hlt : i < j
    · have hd : decide ((i0 : Int) < (j0 : Int)) = true := decide_eq_true (by omega)
      have hd' : decide (i0 < j0) = true := decide_eq_true (by omega)
      obtain ⟨k, hk⟩ : ∃ k, (i + j + 2 * a) / 2 - a = k := ⟨_, rfl⟩
      obtain ⟨k0, hk0⟩ : ∃ k0, a + k = k0 := ⟨_, rfl⟩
      have hki : i ≤ k := by omega
      have hkj : k < j := by omega
      obtain ⟨z, hz⟩ : ∃ z, L[k]? = some z := ⟨_, List.getElem?_eq_getElem (by omega)⟩
      have ha := HA.out
      have hgx : (A ++ (L ++ y :: B))[m]? = some y := by rw [List.getElem?_append_right (by omega), List.getElem?_append_right (by omega), show m - A.length - L.length = 0 by omega]; rfl
      have hgz : (A ++ (L ++ y :: B))[k0]? = some z := by
        rw [List.getElem?_append_right (by omega), show k0 - A.length = k by omega, List.getElem?_append_left (by omega), hz]
      obtain ⟨cx0, cx1⟩ := hOwn.file hgx
      obtain ⟨cy0, cy1⟩ := hOwn.file hgz
      have hlen := HL.out
      have ix0 : (0 : Int) ≤ (m : Int) := by omega
      have ix1 : (m : Int) < (len : Int) := by omega
      have iy0 : (0 : Int) ≤ (k0 : Int) := by omega
      have iy1 : (k0 : Int) < (len : Int) := by omega
      have HZ := Lib.hid hz
      have HK := Lib.hid hk
      have HK0 := Lib.hid hk0
      obtain ⟨s1, s2, s3⟩ := mid_facts i0 j0 k0 (by omega) (by omega) (by omega)
      clear h1 h2 hi0 hj0 hbm hk hk0 hz ha hgx hgz hlen
      go_wp2_with fail
      go_still_tail 9, (by kernel_rfl)
      go_wp2_with (go_at_call 42; refine stop ?_)
      refine (put1_calls y z _).mono ?_
      rintro e W5 ⟨rfl, hW5⟩
      have hK5 : Ext wr W5 := by rw [← hW5]; exact (((Kp.refl _ wr).drew.alloc _).alloc _)
      clear hW5
      have hO5 := hOwn.kp hK5 (fun _ _ => trivial)
      cases hxy : ltB y.path z.path with
      | false =>
        have hcm : decide (cmpB y.path z.path < 0) = false := by rw [decide_eq_false_iff_not, cmpB_neg, hxy]; simp
        go_wp2_with fail
        refine ⟨⟨k + 1, j, by omega, hj, ?_, by rw [HJ0.out], rise_le hLr HZ.out hxy, H2.out, hO5, hKp.trans (Kp.of_ext hK5)⟩, ?_⟩
        · have := HK0.out
          have e : ((a + (k + 1) : Nat) : Int) = (k0 : Int) + 1 := by omega
          rw [e]
        · have := HK0.out
          have := HI0.out
          have := HJ0.out
          simp [intOf]; omega
      | true =>
        have hcm : decide (cmpB y.path z.path < 0) = true := by rw [decide_eq_true_iff, cmpB_neg, hxy]
        go_wp2_with fail
        refine ⟨⟨i, k, hki, by omega, by rw [HI0.out], by rw [HK0.out], H1.out, rise_gt hLr HZ.out hxy, hO5, hKp.trans (Kp.of_ext hK5)⟩, ?_⟩
        have := HK0.out
        have := HI0.out
        have := HJ0.out
        simp [intOf]; omega
    · have hd : decide ((i0 : Int) < (j0 : Int)) = false := decide_eq_false (by omega)
      have hd' : decide (i0 < j0) = false := decide_eq_false (by omega)
      have hij2 : i = j := by omega
      subst hij2
      have hsort : sortK File.path (L ++ [y]) = L.take i ++ y :: L.drop i := by
        have := merge_one_right File.path y (L.take i) (L.drop i) (by rw [List.take_append_drop]; exact hLr) h1 h2
        rw [List.take_append_drop] at this
        exact this
      have HS := Lib.hid hsort
      clear h1 h2 hi0 hj0 hbm hsort
      go_wp2_with fail
      go_loopw [17] (fun u wq => ∃ t : Nat, i ≤ t ∧ t ≤ L.length ∧ u = .int .i64 ((a + t : Nat) : Int) ∧ Own EF 30 wq (.slice (some ⟨g, 0, none⟩) len c) (A ++ (L.take t ++ y :: (L.drop t ++ B))) ∧ Kp (fun j => j ≠ g) w wq) (fun u _ => (intOf u).toNat - a)
      case atStart => exact ⟨L.length, hj, Nat.le_refl _, by rw [HM.out], by simpa using hOwn, hKp⟩
      case round =>
        obtain ⟨t, hit, ht, rfl, hOt, hKt⟩ := hrel
        rename_i wt
        have hI := HI0.out
        have hM2 := HM.out
        by_cases hti : i < t
        · obtain ⟨s, hs⟩ : ∃ s, t = s + 1 := ⟨t - 1, by omega⟩
          subst hs
          obtain ⟨p, hp⟩ : ∃ p, a + s = p := ⟨_, rfl⟩
          have hcast : ((a + (s + 1) : Nat) : Int) = (p : Int) + 1 := by omega
          rw [hcast]
          have d1 : decide ((i0 : Int) < (p : Int) + 1) = true := decide_eq_true (by omega)
          obtain ⟨z, hz⟩ : ∃ z, L[s]? = some z := ⟨_, List.getElem?_eq_getElem (by omega)⟩
          have hat := way_at A L B y z s hz
          have hnx := way_next A L B y z s hz
          have hpl : (A ++ L.take s).length = p := by have := HA.out; rw [List.length_append, List.length_take]; omega
          have hset := swap_mid (A ++ L.take s) (L.drop (s + 1) ++ B) y z
          rw [hpl] at hset
          rw [hnx] at hOt
          have hgx : ((A ++ L.take s) ++ z :: ([] ++ y :: (L.drop (s + 1) ++ B)))[p]? = some z := by rw [List.getElem?_append_right (by omega), hpl, Nat.sub_self]; rfl
          have hgy : ((A ++ L.take s) ++ z :: ([] ++ y :: (L.drop (s + 1) ++ B)))[p + 1]? = some y := by rw [List.getElem?_append_right (by omega), hpl, Nat.add_sub_cancel_left]; rfl
          obtain ⟨cx0, cx1⟩ := hOt.file hgx
          obtain ⟨cy0, cy1⟩ := hOt.file hgy
          have fx0 := hOt.free (p * 2)
          have fx1 := hOt.free (p * 2 + 1)
          have fy0 := hOt.free ((p + 1) * 2)
          have fy1 := hOt.free ((p + 1) * 2 + 1)
          have hl2 := HL.out
          have hA2 := HA.out
          have hi1 : (p : Int) + 1 < (len : Int) := by omega
          have hi2 : (p : Int) < (len : Int) := by omega
          have hi3 : (0 : Int) ≤ (p : Int) + 1 := by omega
          have hi4 : (0 : Int) ≤ (p : Int) := by omega
          have HPQ := Lib.hid hp
          have HT := Lib.hid hat
          have HST := Lib.hid hset
          have HGX := Lib.hid hgx
          have HGY := Lib.hid hgy
          have hi5 : IntKind.i64.wrap (p : Int) = p := IntWalk.i64_in _ (by omega)
          clear hp hI hM2 hat hnx hpl hset hgx hgy hl2 hA2 hz hcast
          go_wp2_with fail
          go_region
          go_wp2_with fail
          go_roundw
          case rel =>
            refine ⟨s, by omega, by omega, by rw [HPQ.out], ?_, (((((hKt.setCell (.inr (by simp)) _).setCell (.inr (by simp)) _).setCell (.inr (by simp)) _).setCell (.inr (by simp)) _).drew)⟩
            have h1 := (hOt.setF (i := p + 1) (List.getElem?_eq_some_iff.1 HGY.out).1 z).setF (i := p) (by rw [List.length_set]; exact (List.getElem?_eq_some_iff.1 HGX.out).1) y
            rw [show ((A ++ L.take s) ++ z :: ([] ++ y :: (L.drop (s + 1) ++ B))) = ((A ++ L.take s) ++ z :: y :: (L.drop (s + 1) ++ B)) from rfl, HST.out] at h1
            rw [HT.out]
            exact h1.kp (S := All) ((Kp.refl _ _).drew) (fun _ _ => trivial)
          case measure =>
            have := HPQ.out
            have := HI0.out
            simp [intOf]; omega
        · have hti2 : t = i := by omega
          subst hti2
          rw [hI]
          have d1 : decide ((i0 : Int) < (i0 : Int)) = false := by simp
          clear hI hM2
          go_wp2_with fail
          refine bodyPost_ret (results_none rfl _ _ _) rfl ⟨⟨_, rfl⟩, ?_, hKt⟩
          rw [HS.out]
          simpa using hOt

end Go.Proofs.YtinafpbdlblcaaaDoor
