/-
  slices.symMergeCmpFunc at files.
-/
import Derived.Test.YtinafpbdlblcaaaDoorSwap
namespace Go.Proofs.YtinafpbdlblcaaaDoor
open Go.RowKit
set_option linter.unusedVariables false
set_option linter.unusedSimpArgs false

theorem rise_lt {R : List File} (hR : RiseK File.path R) {k : Nat} {y x : File} (hy : R[k]? = some y) (h : ltB y.path x.path = true) : ∀ z ∈ R.take (k + 1), ltB z.path x.path = true := by
  intro z hz
  obtain ⟨i, hi, rfl⟩ := List.mem_iff_getElem.1 hz
  rw [List.length_take] at hi
  rw [List.getElem_take]
  obtain ⟨hk, rfl⟩ := List.getElem?_eq_some_iff.1 hy
  exact lt_of_le_lt (rise_at File.path hR (i := i) (j := k) (by omega) hk) h
theorem rise_ge {R : List File} (hR : RiseK File.path R) {k : Nat} {y x : File} (hy : R[k]? = some y) (h : ltB y.path x.path = false) : ∀ z ∈ R.drop k, ltB z.path x.path = false := by
  intro z hz
  obtain ⟨i, hi, rfl⟩ := List.mem_iff_getElem.1 hz
  rw [List.length_drop] at hi
  rw [List.getElem_drop]
  obtain ⟨hk, rfl⟩ := List.getElem?_eq_some_iff.1 hy
  exact leB_trans h (rise_at File.path hR (i := k) (j := k + i) (by omega) (by omega))
/-- A file on its way to its place. -/
theorem way_at (A T B : List File) (x y : File) (t : Nat) (hy : T[t]? = some y) : A ++ (T.take t ++ x :: (T.drop t ++ B)) = (A ++ T.take t) ++ x :: ([] ++ y :: (T.drop (t + 1) ++ B)) := by
  obtain ⟨ht, rfl⟩ := List.getElem?_eq_some_iff.1 hy
  rw [List.drop_eq_getElem_cons ht]
  simp only [List.append_assoc, List.cons_append, List.nil_append]
theorem way_next (A T B : List File) (x y : File) (t : Nat) (hy : T[t]? = some y) : A ++ (T.take (t + 1) ++ x :: (T.drop (t + 1) ++ B)) = (A ++ T.take t) ++ y :: ([] ++ x :: (T.drop (t + 1) ++ B)) := by
  obtain ⟨ht, rfl⟩ := List.getElem?_eq_some_iff.1 hy
  rw [take_snoc T ht]
  simp only [List.append_assoc, List.cons_append, List.nil_append]

theorem mid_facts (i j k : Nat) (h : (i + j) / 2 = k) (hi : i ≤ 1000000) (hj : j ≤ 1000000) :
    wrap64 ((i : Int) + (j : Int)) = (i : Int) + (j : Int) ∧ IntKind.u64.wrap ((i : Int) + (j : Int)) = (i : Int) + (j : Int) ∧ ((i : Int) + (j : Int)) / 2 = (k : Int) := by
  have a1 : -9223372036854775808 ≤ (i : Int) + (j : Int) ∧ (i : Int) + (j : Int) ≤ 9223372036854775807 := by omega
  have a2 : 0 ≤ (i : Int) + (j : Int) ∧ (i : Int) + (j : Int) ≤ 18446744073709551615 := by omega
  have a3 : ((i : Int) + (j : Int)) / 2 = (k : Int) := by omega
  exact ⟨IntWalk.wrap64_in _ a1, IntWalk.u64_in _ a2, a3⟩

set_option maxHeartbeats 1000000 in
set_option maxRecDepth 100000 in
/-- One file ahead of a rising row. -/
theorem symLeft_calls (g c : Nat) (A R B : List File) (x : File) (a m b : Nat) (len : Nat) (hlen : A.length + 1 + R.length + B.length = len) (ha : A.length = a) (hm : a + 1 = m) (hb : m + R.length = b) (hR : RiseK File.path R) (hl : len ≤ 1000000) (w : World)
    (h : Own EF 30 w (.slice (some ⟨g, 0, none⟩) len c) (A ++ (x :: (R ++ B)))) :
    Calls Tryd.prog 77 #[.slice (some ⟨g, 0, none⟩) len c, .int .i64 a, .int .i64 m, .int .i64 b, .func (.func 42) #[] #[]] w fun e w' => (∃ v, e = .returned v) ∧
      Own EF 30 w' (.slice (some ⟨g, 0, none⟩) len c) (A ++ (sortK File.path (x :: R) ++ B)) ∧ Kp (fun k => k ≠ g) w w' := by
  go_enter Tryd.func77, Tryd.ntmps77
  have hw1 : IntKind.i64.wrap ((m : Int) - (a : Int)) = 1 := by rw [IntWalk.i64_in _ (by omega)]; omega
  have HA := Lib.hid ha
  have HM := Lib.hid hm
  have HB := Lib.hid hb
  have HL := Lib.hid hlen
  clear ha hm hb hlen
  go_wp2_with fail
  clear hw1
  go_loopw [10, 11] (fun u v wr => ∃ i j : Nat, i ≤ j ∧ j ≤ R.length ∧ u = .int .i64 ((m + i : Nat) : Int) ∧ v = .int .i64 ((m + j : Nat) : Int) ∧ (∀ y ∈ R.take i, ltB y.path x.path = true) ∧ (∀ y ∈ R.drop j, ltB y.path x.path = false) ∧ Own EF 30 wr (.slice (some ⟨g, 0, none⟩) len c) (A ++ (x :: (R ++ B))) ∧ Kp (fun j => j ≠ g) w wr) (fun u v _ => (intOf v).toNat - (intOf u).toNat)
  case atStart =>
    have h1 := HB.out
    exact ⟨0, R.length, Nat.zero_le _, Nat.le_refl _, rfl, by rw [h1], by simp, by simp, h, Kp.refl _ _⟩
  case round =>
    obtain ⟨i, j, hij, hj, rfl, rfl, h1, h2, hOwn, hKp⟩ := hrel
    rename_i wr
    have H1 := Lib.hid h1
    have H2 := Lib.hid h2
    have hbl : b ≤ 1000000 := by have := HB.out; have := HL.out; have := HA.out; have := HM.out; omega
    have hbm : m + R.length = b := HB.out
    obtain ⟨i0, hi0⟩ : ∃ i0, m + i = i0 := ⟨_, rfl⟩
    obtain ⟨j0, hj0⟩ : ∃ j0, m + j = j0 := ⟨_, rfl⟩
    rw [hi0, hj0]
    have HI0 := Lib.hid hi0
    have HJ0 := Lib.hid hj0
    by_cases hlt : i < j
    · have hd : decide ((i0 : Int) < (j0 : Int)) = true := decide_eq_true (by omega)
      have hd' : decide (i0 < j0) = true := decide_eq_true (by omega)
      obtain ⟨k, hk⟩ : ∃ k, (i + j + 2 * m) / 2 - m = k := ⟨_, rfl⟩
      obtain ⟨k0, hk0⟩ : ∃ k0, m + k = k0 := ⟨_, rfl⟩
      have hki : i ≤ k := by omega
      have hkj : k < j := by omega
      obtain ⟨y, hy⟩ : ∃ y, R[k]? = some y := ⟨_, List.getElem?_eq_getElem (by omega)⟩
      have ha := HA.out
      have hm := HM.out
      have hgx : (A ++ (x :: (R ++ B)))[a]? = some x := by rw [List.getElem?_append_right (by omega), ha, Nat.sub_self]; rfl
      have hgy : (A ++ (x :: (R ++ B)))[k0]? = some y := by
        rw [List.getElem?_append_right (by omega), show k0 - A.length = k + 1 by omega, List.getElem?_cons_succ, List.getElem?_append_left (by omega), hy]
      obtain ⟨cx0, cx1⟩ := hOwn.file hgx
      obtain ⟨cy0, cy1⟩ := hOwn.file hgy
      have hlen := HL.out
      have ix0 : (0 : Int) ≤ (a : Int) := by omega
      have ix1 : (a : Int) < (len : Int) := by omega
      have iy0 : (0 : Int) ≤ (k0 : Int) := by omega
      have iy1 : (k0 : Int) < (len : Int) := by omega
      have HY := Lib.hid hy
      have HK := Lib.hid hk
      have HK0 := Lib.hid hk0
      obtain ⟨s1, s2, s3⟩ := mid_facts i0 j0 k0 (by omega) (by omega) (by omega)
      clear h1 h2 hi0 hj0 hbm hk hk0 hy ha hm hgx hgy hlen
      go_wp2_with fail
      go_still_tail 9, (by kernel_rfl)
      go_wp2_with (go_at_call 42; refine stop ?_)
      refine (put1_calls y x _).mono ?_
      rintro e W5 ⟨rfl, hW5⟩
      have hK5 : Ext wr W5 := by rw [← hW5]; exact (((Kp.refl _ wr).drew.alloc _).alloc _)
      clear hW5
      have hO5 := hOwn.kp hK5 (fun _ _ => trivial)
      cases hxy : ltB y.path x.path with
      | true =>
        have hcm : decide (cmpB y.path x.path < 0) = true := by rw [decide_eq_true_iff, cmpB_neg, hxy]
        go_wp2_with fail
        refine ⟨⟨k + 1, j, by omega, hj, ?_, by rw [HJ0.out], rise_lt hR HY.out hxy, H2.out, hO5, hKp.trans (Kp.of_ext hK5)⟩, ?_⟩
        · have := HK0.out
          have e : ((m + (k + 1) : Nat) : Int) = (k0 : Int) + 1 := by omega
          rw [e]
        · have := HK0.out
          have := HI0.out
          have := HJ0.out
          simp [intOf]; omega
      | false =>
        have hcm : decide (cmpB y.path x.path < 0) = false := by rw [decide_eq_false_iff_not, cmpB_neg, hxy]; simp
        go_wp2_with fail
        refine ⟨⟨i, k, hki, by omega, by rw [HI0.out], by rw [HK0.out], H1.out, rise_ge hR HY.out hxy, hO5, hKp.trans (Kp.of_ext hK5)⟩, ?_⟩
        have := HK0.out
        have := HI0.out
        have := HJ0.out
        simp [intOf]; omega
    · have hd : decide ((i0 : Int) < (j0 : Int)) = false := decide_eq_false (by omega)
      have hd' : decide (i0 < j0) = false := decide_eq_false (by omega)
      have hij2 : i = j := by omega
      subst hij2
      obtain ⟨T, hT⟩ : ∃ T, R = T := ⟨_, rfl⟩
      have hsort : sortK File.path (x :: R) = R.take i ++ x :: R.drop i := by
        have := merge_one_left File.path x (R.take i) (R.drop i) (by rw [List.take_append_drop]; exact hR) h1 h2
        rw [List.take_append_drop] at this
        exact this
      have w1 : IntKind.i64.wrap ((i0 : Int) - 1) = (i0 : Int) - 1 := IntWalk.i64_in _ (by omega)
      have HS := Lib.hid hsort
      clear h1 h2 hi0 hj0 hbm hsort hT
      go_wp2_with fail
      go_loopw [13] (fun u wq => ∃ t : Nat, t ≤ i ∧ u = .int .i64 ((a + t : Nat) : Int) ∧ Own EF 30 wq (.slice (some ⟨g, 0, none⟩) len c) (A ++ (R.take t ++ x :: (R.drop t ++ B))) ∧ Kp (fun j => j ≠ g) w wq) (fun u _ => i0 - (intOf u).toNat)
      case atStart => exact ⟨0, Nat.zero_le _, rfl, by simpa using hOwn, hKp⟩
      case round =>
        obtain ⟨t, ht, rfl, hOt, hKt⟩ := hrel
        rename_i wt
        obtain ⟨p, hp⟩ : ∃ p, a + t = p := ⟨_, rfl⟩
        rw [hp]
        have hm := HM.out
        have hI := HI0.out
        by_cases hti : t < i
        · have d1 : decide ((p : Int) < (i0 : Int) - 1) = true := decide_eq_true (by omega)
          obtain ⟨y, hy⟩ : ∃ y, R[t]? = some y := ⟨_, List.getElem?_eq_getElem (by omega)⟩
          have hat := way_at A R B x y t hy
          have hnx := way_next A R B x y t hy
          have hpl : (A ++ R.take t).length = p := by have := HA.out; rw [List.length_append, List.length_take]; omega
          have hset := set_two (A ++ R.take t) [] (R.drop (t + 1) ++ B) x y p (p + 1) hpl (by rw [hpl]; rfl)
          rw [hat] at hOt
          have hgx : ((A ++ R.take t) ++ x :: ([] ++ y :: (R.drop (t + 1) ++ B)))[p]? = some x := by rw [List.getElem?_append_right (by omega), hpl, Nat.sub_self]; rfl
          have hgy : ((A ++ R.take t) ++ x :: ([] ++ y :: (R.drop (t + 1) ++ B)))[p + 1]? = some y := by rw [List.getElem?_append_right (by omega), hpl, Nat.add_sub_cancel_left]; rfl
          obtain ⟨cx0, cx1⟩ := hOt.file hgx
          obtain ⟨cy0, cy1⟩ := hOt.file hgy
          have fx0 := hOt.free (p * 2)
          have fx1 := hOt.free (p * 2 + 1)
          have fy0 := hOt.free ((p + 1) * 2)
          have fy1 := hOt.free ((p + 1) * 2 + 1)
          have hR := HB.out
          have hl2 := HL.out
          have hA2 := HA.out
          have hi1 : (p : Int) + 1 < (len : Int) := by omega
          have hi2 : (p : Int) < (len : Int) := by omega
          have hi3 : (0 : Int) ≤ (p : Int) + 1 := by omega
          have hi4 : (0 : Int) ≤ (p : Int) := by omega
          have HPQ := Lib.hid hp
          have HT := Lib.hid hnx
          have HST := Lib.hid hset
          have HGX := Lib.hid hgx
          have HGY := Lib.hid hgy
          have wp1 : IntKind.i64.wrap ((p : Int) + 1) = (p : Int) + 1 := IntWalk.i64_in _ (by omega)
          clear hp hm hI hat hnx hpl hset hgx hgy hR hl2 hA2 hy
          go_wp2_with fail
          go_region
          go_wp2_with fail
          go_roundw
          case rel =>
            refine ⟨t + 1, by omega, ?_, ?_, (((((hKt.setCell (.inr (by simp)) _).setCell (.inr (by simp)) _).setCell (.inr (by simp)) _).setCell (.inr (by simp)) _).drew)⟩
            · have := HPQ.out
              have e : ((a + (t + 1) : Nat) : Int) = (p : Int) + 1 := by omega
              rw [e]
            · have h1 := (hOt.setF (i := p) (List.getElem?_eq_some_iff.1 HGX.out).1 y).setF (i := p + 1) (by rw [List.length_set]; exact (List.getElem?_eq_some_iff.1 HGY.out).1) x
              rw [HST.out, ← HT.out] at h1
              exact h1.kp (S := All) ((Kp.refl _ _).drew) (fun _ _ => trivial)
          case measure =>
            have := HPQ.out
            have := HI0.out
            have := HM.out
            simp [intOf]; omega
        · have d1 : decide ((p : Int) < (i0 : Int) - 1) = false := decide_eq_false (by omega)
          have hti2 : t = i := by omega
          subst hti2
          clear hp hm hI
          go_wp2_with fail
          refine bodyPost_ret (results_none rfl _ _ _) rfl ⟨⟨_, rfl⟩, ?_, hKt⟩
          rw [HS.out]
          simpa using hOt

end Go.Proofs.YtinafpbdlblcaaaDoor
