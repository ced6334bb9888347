/-
  slices.SortStableFunc at files, by their paths.
-/
import Derived.Test.YtddooggkcdloeaaGreatDoorSeq
import Derived.Test.YtddooggkcdloeaaGreatDoorOrd
import Derived.Deep.QuietTactic
import Derived.BigQuiet
import Derived.StillTailTactics
import Derived.BigRegion
import Derived.Laws.Cover1
namespace Go.Proofs.YtddooggkcdloeaaGreatDoor
open Go.RowKit
set_option linter.unusedVariables false
set_option linter.unusedSimpArgs false

def cmpB (x y : ByteArray) : Int := if ltB x y = true then -1 else if ltB y x = true then 1 else 0
theorem cmpB_neg (x y : ByteArray) : (cmpB x y < 0) ↔ ltB x y = true := by
  unfold cmpB
  split
  · simp [*]
  · split <;> simp [*]

theorem isNaN_calls (x : ByteArray) (w : World) : Calls Tryz.prog 78 #[.string x] w fun e w' => e = .returned (.bool false) ∧ w = w' := by
  go_enter Tryz.func78, Tryz.ntmps78
  go_wp2_with fail
  go_ret
  exact ⟨by simp, rfl⟩

theorem compare_calls (x y : ByteArray) (w : World) : Calls Tryz.prog 56 #[.string x, .string y] w fun e w' => e = .returned (.int .i64 (cmpB x y)) ∧ w = w' := by
  have h1 : Op.bytesLess x.toList y.toList = ltB x y := rfl
  have h2 : ltB x y = false → (x.toList == y.toList) = !ltB y x := by
    intro a
    rw [toList_beq]
    cases b : ltB y x with
    | true => simp; rintro rfl; rw [ltB_irrefl] at b; cases b
    | false => simp [ltB_tri a b]
  cases ha : ltB x y with
  | true =>
    rw [ha] at h1
    clear h2
    go_enter Tryz.func56, Tryz.ntmps56
    go_wp2_with (go_at_call 78; refine (isNaN_calls _ _).mono ?_; rintro e w' ⟨rfl, rfl⟩)
    go_ret
    exact ⟨by unfold cmpB; rw [if_pos ha]; rfl, rfl⟩
  | false =>
    rw [ha] at h1
    replace h2 := h2 ha
    cases hb : ltB y x with
    | true =>
      rw [hb] at h2
      go_enter Tryz.func56, Tryz.ntmps56
      go_wp2_with (go_at_call 78; refine (isNaN_calls _ _).mono ?_; rintro e w' ⟨rfl, rfl⟩)
      go_ret
      exact ⟨by unfold cmpB; rw [if_neg (by rw [ha]; simp), if_pos hb]; rfl, rfl⟩
    | false =>
      rw [hb] at h2
      go_enter Tryz.func56, Tryz.ntmps56
      go_wp2_with (go_at_call 78; refine (isNaN_calls _ _).mono ?_; rintro e w' ⟨rfl, rfl⟩)
      go_ret
      exact ⟨by unfold cmpB; rw [if_neg (by rw [ha]; simp), if_neg (by rw [hb]; simp)]; rfl, rfl⟩

theorem put1_calls (f g : File) (w : World) :
    Calls Tryz.prog 55 #[.agg #[.string f.path, .string f.data], .agg #[.string g.path, .string g.data]] w fun e w' => e = .returned (.int .i64 (cmpB f.path g.path)) ∧ (w.alloc (.cells #[.string f.path, .string f.data] 40)).alloc (.cells #[.string g.path, .string g.data] 40) = w' := by
  go_enter Tryz.func55, Tryz.ntmps55
  go_wp2_with (go_at_call 56; refine (compare_calls _ _ _).mono ?_; rintro e w' ⟨rfl, rfl⟩)
  go_ret
  exact ⟨rfl, rfl⟩

/-- One file is stored over another one. -/
theorem Own.setF {t : TypeId} {w : World} {g n c : Nat} {xs : List File} (h : Own EF t w (.slice (some ⟨g, 0, none⟩) n c) xs) {i : Nat} (hi : i < xs.length) (y : File) :
    Own EF t ((w.setCell ⟨g, i * 2, none⟩ (.string y.path)).setCell ⟨g, i * 2 + 1, none⟩ (.string y.data)) (.slice (some ⟨g, 0, none⟩) n c) (xs.set i y) := by
  obtain ⟨hl, h2⟩ := h
  rcases h2 with ⟨h1, _⟩ | ⟨g', cap, cur, h1, hb, hg, hn, hm, hs, ht⟩
  · cases h1
  · injection h1 with h1 h1' h1''
    injection h1 with h1
    injection h1 with h1
    subst h1 h1' h1''
    have hfl : ∀ (l : List File) (i : Nat) (y : File), EF.flat (l.set i y) = ((EF.flat l).set (i * 2) (.string y.path)).set (i * 2 + 1) (.string y.data) := by
      intro l
      induction l with
      | nil => intro i y; simp [El.flat]
      | cons z l ih =>
        intro i y
        cases i with
        | zero => rfl
        | succ i =>
          rw [List.set_cons_succ, EF.flat_cons, EF.flat_cons, ih]
          show _ = (List.set (EF.enc z ++ EF.flat l) ((i + 1) * 2) _).set ((i + 1) * 2 + 1) _
          rw [show (i + 1) * 2 = i * 2 + 2 by omega]
          rfl
    have hh : ((w.setCell ⟨g, i * 2, none⟩ (.string y.path)).setCell ⟨g, i * 2 + 1, none⟩ (.string y.data)).heap[g]? = some (.cells ((cur.setIfInBounds (i * 2) (.string y.path)).setIfInBounds (i * 2 + 1) (.string y.data)) t (0, 0)) :=
      Blk.set_ (Blk.set_ (show Blk w g t cur from hg) (i * 2) (.string y.path)) (i * 2 + 1) (.string y.data)
    refine ⟨by rw [hfl]; simpa using hl, .inr ⟨g, c, _, by rw [List.length_set], hb, hh, by rw [List.length_set]; exact hn, hm, by simpa using hs, ?_⟩⟩
    rw [hfl, ← ht, List.length_set]
    have hlt : i * 2 + 1 < xs.length * 2 := by omega
    simp only [Array.toList_setIfInBounds]
    show List.take (xs.length * 2) _ = ((List.take (xs.length * 2) _).set _ _).set _ _
    rw [List.take_set, List.take_set]

theorem swap_mid (A B : List File) (x y : File) : ((A ++ y :: x :: B).set (A.length + 1) y).set A.length x = A ++ x :: y :: B := by
  rw [List.set_append_right _ _ (by omega), Nat.add_sub_cancel_left, List.set_append_right _ _ (Nat.le_refl _), Nat.sub_self]
  rfl

theorem ins_mid (L ys zs : List File) (x y : File) (m : Nat) (hm : m < ys.length) (hy : ys[m] = y) :
    L ++ (ys.take (m + 1) ++ (x :: (ys.drop (m + 1) ++ zs))) = (L ++ ys.take m) ++ y :: x :: (ys.drop (m + 1) ++ zs) := by
  rw [take_snoc ys hm, hy]; simp
theorem ins_mid' (L ys zs : List File) (x y : File) (m : Nat) (hm : m < ys.length) (hy : ys[m] = y) :
    (L ++ ys.take m) ++ x :: y :: (ys.drop (m + 1) ++ zs) = L ++ (ys.take m ++ (x :: (ys.drop m ++ zs))) := by
  rw [List.drop_eq_getElem_cons hm, hy]; simp

theorem Own.file {t : TypeId} {w : World} {g n c : Nat} {xs : List File} (h : Own EF t w (.slice (some ⟨g, 0, none⟩) n c) xs) {i : Nat} {x : File} (hx : xs[i]? = some x) :
    w.cell? ⟨g, i * 2, none⟩ = some (.string x.path) ∧ w.cell? ⟨g, i * 2 + 1, none⟩ = some (.string x.data) := by
  obtain ⟨hi, rfl⟩ := List.getElem?_eq_some_iff.1 hx
  obtain ⟨A, c', hv, _, _, _, hA⟩ := h.rd
  obtain ⟨b, off, h1, _, _, h2, h3⟩ := hA.file hi
  cases hv
  cases h1
  simp only [Nat.zero_add] at h2 h3
  exact ⟨h2, h3⟩

theorem Own.free {α : Type} {E : El α} {t : TypeId} {w : World} {g n c : Nat} {xs : List α} (h : Own E t w (.slice (some ⟨g, 0, none⟩) n c) xs) (i : Nat) : w.frozen? ⟨g, i, none⟩ = false := by
  rcases h.2 with ⟨h1, _⟩ | ⟨g', cap, cur, h1, _, h2, _⟩
  · cases h1
  · cases h1
    simp [World.frozen?, h2]

set_option maxHeartbeats 1000000 in
set_option maxRecDepth 100000 in
/-- slices.insertionSortCmpFunc. -/
theorem insertionSort_calls (g c : Nat) (xs : List File) (a b : Nat) (hab : a ≤ b) (hb : b ≤ xs.length) (hlen : xs.length ≤ 1000000) (w : World) (h : Own EF 40 w (.slice (some ⟨g, 0, none⟩) xs.length c) xs) :
    Calls Tryz.prog 100 #[.slice (some ⟨g, 0, none⟩) xs.length c, .int .i64 a, .int .i64 b, .func (.func 55) #[] #[]] w fun e w' => (∃ v, e = .returned v) ∧
      Own EF 40 w' (.slice (some ⟨g, 0, none⟩) xs.length c) (xs.take a ++ (sortK File.path ((xs.take b).drop a) ++ xs.drop b)) ∧ Kp (fun k => k ≠ g) w w' := by
  go_enter Tryz.func100, Tryz.ntmps100
  have e : xs.take a ++ (sortK File.path ((xs.take (a + 1)).drop a) ++ xs.drop (a + 1)) = xs := by
    by_cases ha : a < xs.length
    · rw [take_snoc xs ha, List.drop_append, List.drop_of_length_le (by simp; omega), List.length_take, Nat.min_eq_left (by omega), Nat.sub_self]
      show xs.take a ++ ([xs[a]] ++ xs.drop (a + 1)) = xs
      rw [← List.append_assoc, ← take_snoc xs ha, List.take_append_drop]
    · rw [List.take_of_length_le (by omega), List.take_of_length_le (by omega), List.drop_of_length_le (by omega), List.drop_of_length_le (by omega)]
      show xs ++ ([] ++ []) = xs
      simp
  have HE := Lib.hid e
  clear e
  go_wp2_with fail
  go_loopw [8] (fun i wr => ∃ k : Nat, a + 1 ≤ k ∧ k ≤ max (a + 1) b ∧ i = .int .i64 k ∧ Own EF 40 wr (.slice (some ⟨g, 0, none⟩) xs.length c) (xs.take a ++ (sortK File.path ((xs.take k).drop a) ++ xs.drop k)) ∧ Kp (fun j => j ≠ g) w wr) (fun i _ => b - (intOf i).toNat)
  case atStart =>
    refine ⟨a + 1, Nat.le_refl _, by omega, by go_num, ?_, Kp.refl _ _⟩
    rw [HE.out]; exact h
  case round =>
    obtain ⟨k, hk1, hk2, rfl, hOwn, hKp⟩ := hrel
    by_cases hlt : k < b
    · have hx : k < xs.length := by omega
      obtain ⟨ys, hys⟩ : ∃ ys, sortK File.path ((xs.take k).drop a) = ys := ⟨_, rfl⟩
      obtain ⟨x, hxk⟩ : ∃ x, xs[k] = x := ⟨_, rfl⟩
      have hyl : ys.length = k - a := by rw [← hys, sortK_length]; simp; omega
      have hrise : RiseK File.path ys := by rw [← hys]; exact sortK_rise _ _
      have hdk : xs.drop k = x :: xs.drop (k + 1) := by rw [List.drop_eq_getElem_cons hx, hxk]
      have hnext : sortK File.path ((xs.take (k + 1)).drop a) = insK File.path x ys := by
        rw [take_snoc xs hx, hxk, List.drop_append, List.length_take, Nat.min_eq_left (by omega), show a - k = 0 by omega, List.drop_zero, sortK_snoc, hys]
      rw [hys, hdk] at hOwn
      have HY := Lib.hid hys
      have HX := Lib.hid hxk
      have HD := Lib.hid hdk
      have HN := Lib.hid hnext
      have HL := Lib.hid hyl
      clear hys hxk hdk hnext hyl
      go_wp2_with fail
      go_loopw [9] (fun j wj => ∃ m : Nat, m ≤ ys.length ∧ j = .int .i64 ((a + m : Nat) : Int) ∧ Own EF 40 wj (.slice (some ⟨g, 0, none⟩) xs.length c) (xs.take a ++ (ys.take m ++ (x :: (ys.drop m ++ xs.drop (k + 1))))) ∧ (∀ y ∈ ys.drop m, ltB x.path y.path = true) ∧ Kp (fun j => j ≠ g) w wj) (fun j _ => (intOf j).toNat - a)
      case atStart =>
        have e1 : ys.take (k - a) = ys := List.take_of_length_le (by rw [HL.out]; exact Nat.le_refl _)
        have e2 : ys.drop (k - a) = [] := List.drop_of_length_le (by rw [HL.out]; exact Nat.le_refl _)
        refine ⟨k - a, by rw [HL.out]; exact Nat.le_refl _, by rw [show a + (k - a) = k by omega], ?_, ?_, hKp⟩
        · rw [e1, e2]; exact hOwn
        · rw [e2]; simp
      case round =>
        obtain ⟨m, hm, rfl, hOj, hgt, hKj⟩ := hrel
        have HG := Lib.hid hgt
        clear hgt
        cases m with
        | zero =>
          have hd : decide ((a : Int) < (a : Int)) = false := by simp
          simp only [Nat.add_zero]
          go_wp2_with fail
          go_quiet (fail)
          go_wp2_with fail
          refine ⟨⟨k + 1, by omega, by omega, by go_num, ?_, hKj.drewN _⟩, by simp [intOf]; omega⟩
          rw [HN.out, insK_at File.path x ys 0 (Nat.zero_le _) (by simp) (HG.out)]
          simpa using hOj.kp (Kp.of_ext ((Kp.refl _ wr).drewN nq)) (S := All) (fun _ _ => trivial)
        | succ m =>
          obtain ⟨j, hj⟩ : ∃ j, a + m = j := ⟨_, rfl⟩
          have hd : decide ((a : Int) < (j : Int) + 1) = true := by simp; omega
          obtain ⟨y, hy⟩ : ∃ y, ys[m]'(by omega) = y := ⟨_, rfl⟩
          have hRow := ins_mid (xs.take a) ys (xs.drop (k + 1)) x y m (by omega) hy
          have hRow' := ins_mid' (xs.take a) ys (xs.drop (k + 1)) x y m (by omega) hy
          have hAl : (xs.take a ++ ys.take m).length = j := by simp; omega
          rw [hRow] at hOj
          have hLx : ((xs.take a ++ ys.take m) ++ y :: x :: (ys.drop (m + 1) ++ xs.drop (k + 1)))[j + 1]? = some x := by
            rw [List.getElem?_append_right (by omega), hAl, Nat.add_sub_cancel_left]; rfl
          have hLy : ((xs.take a ++ ys.take m) ++ y :: x :: (ys.drop (m + 1) ++ xs.drop (k + 1)))[j]? = some y := by
            rw [List.getElem?_append_right (by omega), hAl, Nat.sub_self]; rfl
          obtain ⟨cx0, cx1⟩ := hOj.file hLx
          obtain ⟨cy0, cy1⟩ := hOj.file hLy
          rw [show a + (m + 1) = j + 1 by omega]
          have hyl2 := HL.out
          have hi1 : (j : Int) + 1 < (xs.length : Int) := by omega
          have hi2 : (j : Int) < (xs.length : Int) := by omega
          have hi3 : (0 : Int) ≤ (j : Int) + 1 := by omega
          have hi4 : IntKind.i64.wrap (j : Int) = j := IntWalk.i64_in _ (by omega)
          clear hyl2
          have HJ := Lib.hid hj
          have HYm := Lib.hid hy
          have HR := Lib.hid hRow'
          have HR0 := Lib.hid hRow
          have HA := Lib.hid hAl
          have HLx := Lib.hid hLx
          have HLy := Lib.hid hLy
          clear hj hy hRow' hAl hLx hLy hRow
          go_wp2_with fail
          go_still_tail 14, (by kernel_rfl)
          clear hi1 hi2 hi3 hi4
          go_wp2_with (go_at_call 55; refine stop ?_)
          refine (put1_calls x y _).mono ?_
          rintro e W5 ⟨rfl, hW5⟩
          have hK5 : Ext wr W5 := by rw [← hW5]; exact (((Kp.refl _ wr).drew.alloc _).alloc _)
          clear hW5
          have hO5 := hOj.kp hK5 (fun _ _ => trivial)
          cases hxy : ltB x.path y.path with
          | false =>
            have hcm : decide (cmpB x.path y.path < 0) = false := by rw [decide_eq_false_iff_not, cmpB_neg, hxy]; simp
            go_wp2_with fail
            refine ⟨⟨k + 1, by omega, by omega, by go_num, ?_, hKj.trans (Kp.of_ext hK5)⟩, by simp [intOf]; omega⟩
            rw [HN.out, insK_at File.path x ys (m + 1) hm (rise_take File.path x hrise (m + 1) hm (fun _ => by
              have := HYm.out
              simp only [Nat.add_sub_cancel]
              rw [this]; exact hxy)) HG.out]
            have := HR0.out
            simp only [List.append_assoc, List.cons_append] at this hO5 ⊢
            rw [this]; exact hO5
          | true =>
            have hcm : decide (cmpB x.path y.path < 0) = true := by rw [decide_eq_true_iff, cmpB_neg, hxy]
            have hyl2 := HL.out
            have hj := HJ.out
            have hi1 : (j : Int) + 1 < (xs.length : Int) := by omega
            have hi2 : (j : Int) < (xs.length : Int) := by omega
            have hi3 : (0 : Int) ≤ (j : Int) + 1 := by omega
            have hi4 : IntKind.i64.wrap (j : Int) = j := IntWalk.i64_in _ (by omega)
            clear hyl2 hj cx0 cx1 cy0 cy1
            obtain ⟨cx0, cx1⟩ := hO5.file HLx.out
            obtain ⟨cy0, cy1⟩ := hO5.file HLy.out
            have fx0 := hO5.free ((j + 1) * 2)
            have fx1 := hO5.free ((j + 1) * 2 + 1)
            have fy0 := hO5.free (j * 2)
            have fy1 := hO5.free (j * 2 + 1)
            go_wp2_with fail
            go_region
            go_wp2_with fail
            go_roundw
            case rel =>
              refine ⟨m, by omega, by rw [HJ.out], ?_, fun z hz => ?_, ((((((hKj.trans (Kp.of_ext hK5)).setCell (.inr (by simp)) _).setCell (.inr (by simp)) _).setCell (.inr (by simp)) _).setCell (.inr (by simp)) _).drew)⟩
              · have h1 := (hO5.setF (i := j + 1) (by have := HLx.out; exact (List.getElem?_eq_some_iff.1 this).1) y).setF (i := j) (by rw [List.length_set]; have := HLy.out; exact (List.getElem?_eq_some_iff.1 this).1) x
                have h2 := swap_mid (xs.take a ++ ys.take m) (ys.drop (m + 1) ++ xs.drop (k + 1)) x y
                rw [HA.out] at h2
                rw [h2, HR.out] at h1
                exact h1.kp (S := All) ((Kp.refl _ _).drew) (fun _ _ => trivial)
              · rw [List.drop_eq_getElem_cons (by omega)] at hz
                rcases List.mem_cons.1 hz with rfl | hz
                · have := HYm.out
                  rw [this]; exact hxy
                · exact HG.out z hz
            case measure => simp [intOf]; have := HJ.out; omega
    · go_wp2_with fail
      refine bodyPost_end (results_none rfl _ _ _) rfl ⟨⟨_, rfl⟩, ?_, hKp⟩
      have e : k = b ∨ (k = a + 1 ∧ b = a) := by omega
      rcases e with rfl | ⟨rfl, rfl⟩
      · exact hOwn
      · rw [HE.out] at hOwn
        rw [List.drop_of_length_le (by simp; omega)]
        show Own EF _ wr _ (xs.take b ++ ([] ++ xs.drop b))
        rw [List.nil_append, List.take_append_drop]
        exact hOwn

end Go.Proofs.YtddooggkcdloeaaGreatDoor
