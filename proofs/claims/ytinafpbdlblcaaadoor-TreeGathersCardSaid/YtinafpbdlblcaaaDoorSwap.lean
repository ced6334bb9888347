/-
  slices.swapRangeCmpFunc, slices.rotateCmpFunc at files.
-/
import Derived.Test.YtinafpbdlblcaaaDoorSort
import Derived.Test.YtinafpbdlblcaaaDoorMerge
namespace Go.Proofs.YtinafpbdlblcaaaDoor
open Go.RowKit
set_option linter.unusedVariables false
set_option linter.unusedSimpArgs false

theorem set_two {α : Type} (A B C : List α) (x y : α) (p q : Nat) (hp : A.length = p) (hq : A.length + 1 + B.length = q) : ((A ++ x :: (B ++ y :: C)).set p y).set q x = A ++ y :: (B ++ x :: C) := by
  subst hp hq
  rw [List.set_append_right _ _ (Nat.le_refl _), Nat.sub_self]
  show (A ++ y :: (B ++ y :: C)).set _ x = _
  rw [List.set_append_right _ _ (by omega), show A.length + 1 + B.length - A.length = B.length + 1 by omega]
  show A ++ y :: ((B ++ y :: C).set B.length x) = _
  rw [List.set_append_right _ _ (Nat.le_refl _), Nat.sub_self]
  rfl

/-- Swapped so far. -/
def swapped (P X M Y Q : List File) (i : Nat) : List File := (P ++ Y.take i) ++ (X.drop i ++ (M ++ (X.take i ++ (Y.drop i ++ Q))))
theorem swapped_zero (P X M Y Q : List File) : swapped P X M Y Q 0 = P ++ (X ++ (M ++ (Y ++ Q))) := by simp [swapped]
theorem swapped_all (P X M Y Q : List File) (n : Nat) (hx : X.length = n) (hy : Y.length = n) : swapped P X M Y Q n = P ++ (Y ++ (M ++ (X ++ Q))) := by
  unfold swapped
  rw [List.take_of_length_le (by omega), List.take_of_length_le (by omega), List.drop_of_length_le (by omega), List.drop_of_length_le (by omega)]
  simp
theorem swapped_at (P X M Y Q : List File) (i : Nat) (hx : i < X.length) (hy : i < Y.length) : swapped P X M Y Q i = (P ++ Y.take i) ++ X[i] :: ((X.drop (i + 1) ++ (M ++ X.take i)) ++ Y[i] :: (Y.drop (i + 1) ++ Q)) := by
  unfold swapped
  rw [List.drop_eq_getElem_cons hx, List.drop_eq_getElem_cons hy]
  simp only [List.append_assoc, List.cons_append, List.nil_append]
theorem swapped_next (P X M Y Q : List File) (i : Nat) (hx : i < X.length) (hy : i < Y.length) : swapped P X M Y Q (i + 1) = (P ++ Y.take i) ++ Y[i] :: ((X.drop (i + 1) ++ (M ++ X.take i)) ++ X[i] :: (Y.drop (i + 1) ++ Q)) := by
  unfold swapped
  rw [take_snoc X hx, take_snoc Y hy]
  simp only [List.append_assoc, List.cons_append, List.nil_append]
theorem swapped_length (P X M Y Q : List File) (i : Nat) (hx : i ≤ X.length) (hy : i ≤ Y.length) : (swapped P X M Y Q i).length = P.length + X.length + M.length + Y.length + Q.length := by
  unfold swapped
  simp
  omega

set_option maxHeartbeats 1000000 in
set_option maxRecDepth 100000 in
/-- slices.swapRangeCmpFunc. -/
theorem swapRange_calls (g c : Nat) (P X M Y Q : List File) (n a b : Nat) (len : Nat) (hlen : P.length + X.length + M.length + Y.length + Q.length = len) (hx : X.length = n) (hy : Y.length = n) (ha : P.length = a) (hb : a + n + M.length = b) (hl : len ≤ 1000000) (f : Value) (w : World)
    (h : Own EF 30 w (.slice (some ⟨g, 0, none⟩) len c) (P ++ (X ++ (M ++ (Y ++ Q))))) :
    Calls Tryd.prog 104 #[.slice (some ⟨g, 0, none⟩) len c, .int .i64 a, .int .i64 b, .int .i64 n, f] w fun e w' => (∃ v, e = .returned v) ∧
      Own EF 30 w' (.slice (some ⟨g, 0, none⟩) len c) (P ++ (Y ++ (M ++ (X ++ Q)))) ∧ Kp (fun k => k ≠ g) w w' := by
  go_enter Tryd.func104, Tryd.ntmps104
  have HX := Lib.hid hx
  have HY := Lib.hid hy
  have HA := Lib.hid ha
  have HB := Lib.hid hb
  have HL := Lib.hid hlen
  clear hx hy ha hb hlen
  go_wp2_with fail
  go_loopw [10] (fun i wr => ∃ k : Nat, k ≤ n ∧ i = .int .i64 k ∧ Own EF 30 wr (.slice (some ⟨g, 0, none⟩) len c) (swapped P X M Y Q k) ∧ Kp (fun j => j ≠ g) w wr) (fun i _ => n - (intOf i).toNat)
  case atStart => exact ⟨0, Nat.zero_le _, rfl, by rw [swapped_zero]; exact h, Kp.refl _ _⟩
  case round =>
    obtain ⟨k, hk, rfl, hOwn, hKp⟩ := hrel
    rename_i wr
    by_cases hlt : k < n
    · have hd : decide ((k : Int) < (n : Int)) = true := decide_eq_true (by omega)
      have h1 := HX.out
      have h2 := HY.out
      have h3 := HA.out
      have h4 := HB.out
      have h5 := HL.out
      obtain ⟨x, hxk⟩ : ∃ x, X[k]'(by omega) = x := ⟨_, rfl⟩
      obtain ⟨y, hyk⟩ : ∃ y, Y[k]'(by omega) = y := ⟨_, rfl⟩
      obtain ⟨p, hp⟩ : ∃ p, a + k = p := ⟨_, rfl⟩
      obtain ⟨q, hq⟩ : ∃ q, b + k = q := ⟨_, rfl⟩
      have hat := swapped_at P X M Y Q k (by omega) (by omega)
      have hnx := swapped_next P X M Y Q k (by omega) (by omega)
      rw [hxk, hyk] at hat hnx
      have hpl : (P ++ Y.take k).length = p := by simp; omega
      have hql : (P ++ Y.take k).length + 1 + (X.drop (k + 1) ++ (M ++ X.take k)).length = q := by simp; omega
      have hset := set_two (P ++ Y.take k) (X.drop (k + 1) ++ (M ++ X.take k)) (Y.drop (k + 1) ++ Q) x y p q hpl hql
      have hgx : (swapped P X M Y Q k)[p]? = some x := by
        rw [hat, List.getElem?_append_right (by omega), hpl, Nat.sub_self]; rfl
      have hgy : (swapped P X M Y Q k)[q]? = some y := by
        rw [hat, List.getElem?_append_right (by omega), show q - (P ++ Y.take k).length = (X.drop (k + 1) ++ (M ++ X.take k)).length + 1 by omega]
        rw [List.getElem?_cons_succ, List.getElem?_append_right (Nat.le_refl _), Nat.sub_self]; rfl
      obtain ⟨cx0, cx1⟩ := hOwn.file hgx
      obtain ⟨cy0, cy1⟩ := hOwn.file hgy
      have fx0 := hOwn.free (p * 2)
      have fx1 := hOwn.free (p * 2 + 1)
      have fy0 := hOwn.free (q * 2)
      have fy1 := hOwn.free (q * 2 + 1)
      have hpq : p ≠ q := by omega
      have hwp : IntKind.i64.wrap ((a : Int) + (k : Int)) = (p : Int) := by rw [IntWalk.i64_in _ (by omega)]; omega
      have hwq : IntKind.i64.wrap ((b : Int) + (k : Int)) = (q : Int) := by rw [IntWalk.i64_in _ (by omega)]; omega
      have hw : IntKind.i64.wrap ((k : Int) + 1) = (k : Int) + 1 := IntWalk.i64_in _ (by omega)
      have hp1 : (p : Int) < (len : Int) := by omega
      have hq1 : (q : Int) < (len : Int) := by omega
      have hp0 : (0 : Int) ≤ (p : Int) := by omega
      have hq0 : (0 : Int) ≤ (q : Int) := by omega
      have HS := Lib.hid hset
      have HT := Lib.hid hat
      have HN := Lib.hid hnx
      have HGX := Lib.hid hgx
      have HGY := Lib.hid hgy
      clear h1 h2 h3 h4 h5 hxk hyk hp hq hat hnx hpl hql hset hgx hgy
      go_wp2_with fail
      go_region
      go_wp2_with fail
      go_roundw
      case rel =>
        refine ⟨k + 1, by omega, by go_num, ?_, (((((hKp.setCell (.inr (by simp)) _).setCell (.inr (by simp)) _).setCell (.inr (by simp)) _).setCell (.inr (by simp)) _).drew)⟩
        have h1 := (hOwn.setF (i := p) (List.getElem?_eq_some_iff.1 HGX.out).1 y).setF (i := q) (by rw [List.length_set]; exact (List.getElem?_eq_some_iff.1 HGY.out).1) x
        rw [HT.out, HS.out, ← HN.out] at h1
        exact h1.kp (S := All) ((Kp.refl _ _).drew) (fun _ _ => trivial)
      case measure => simp [intOf]; omega
    · have hd : decide ((k : Int) < (n : Int)) = false := decide_eq_false (by omega)
      have hkn : k = n := by omega
      rw [hkn, swapped_all P X M Y Q n HX.out HY.out] at hOwn
      go_wp2_with fail
      exact bodyPost_end (results_none rfl _ _ _) rfl ⟨⟨_, rfl⟩, hOwn, hKp⟩

set_option maxHeartbeats 1000000 in
set_option maxRecDepth 100000 in
/-- slices.rotateCmpFunc. -/
theorem rotate_calls (g c : Nat) (A U V B : List File) (a m b : Nat) (len : Nat) (hlen : A.length + U.length + V.length + B.length = len) (ha : A.length = a) (hm : a + U.length = m) (hb : m + V.length = b) (hU : 0 < U.length) (hV : 0 < V.length) (hl : len ≤ 1000000) (f : Value) (w : World)
    (h : Own EF 30 w (.slice (some ⟨g, 0, none⟩) len c) (A ++ (U ++ (V ++ B)))) :
    Calls Tryd.prog 94 #[.slice (some ⟨g, 0, none⟩) len c, .int .i64 a, .int .i64 m, .int .i64 b, f] w fun e w' => (∃ v, e = .returned v) ∧
      Own EF 30 w' (.slice (some ⟨g, 0, none⟩) len c) (A ++ (V ++ (U ++ B))) ∧ Kp (fun k => k ≠ g) w w' := by
  go_enter Tryd.func94, Tryd.ntmps94
  have hw1 : IntKind.i64.wrap ((m : Int) - (a : Int)) = (U.length : Int) := by rw [IntWalk.i64_in _ (by omega)]; omega
  have hw2 : IntKind.i64.wrap ((b : Int) - (m : Int)) = (V.length : Int) := by rw [IntWalk.i64_in _ (by omega)]; omega
  have HA := Lib.hid ha
  have HM := Lib.hid hm
  have HB := Lib.hid hb
  have HL := Lib.hid hlen
  clear ha hm hb hlen
  go_wp2_with fail
  clear hw1 hw2
  go_loopw [10, 11] (fun u v wr => ∃ P X Y Q : List File, 0 < X.length ∧ 0 < Y.length ∧ P.length + X.length = m ∧ P.length + X.length + Y.length + Q.length = len ∧ u = .int .i64 X.length ∧ v = .int .i64 Y.length ∧ P ++ ((Y ++ X) ++ Q) = A ++ (V ++ (U ++ B)) ∧ Own EF 30 wr (.slice (some ⟨g, 0, none⟩) len c) (P ++ (X ++ (Y ++ Q))) ∧ Kp (fun j => j ≠ g) w wr) (fun u v _ => (intOf u).toNat + (intOf v).toNat)
  case atStart =>
    have h1 := HA.out
    have h2 := HM.out
    have h3 := HL.out
    exact ⟨A, U, V, B, hU, hV, by omega, by omega, rfl, rfl, by simp, h, Kp.refl _ _⟩
  case round =>
    obtain ⟨P, X, Y, Q, hX, hY, hPX, hAll, rfl, rfl, hT, hOwn, hKp⟩ := hrel
    rename_i wr
    have HT := Lib.hid hT
    obtain ⟨i, hi⟩ : ∃ i, X.length = i := ⟨_, rfl⟩
    obtain ⟨j, hj⟩ : ∃ j, Y.length = j := ⟨_, rfl⟩
    obtain ⟨p, hp⟩ : ∃ p, P.length = p := ⟨_, rfl⟩
    rw [hi] at hX hPX hAll ⊢
    rw [hj] at hY hAll ⊢
    rw [hp] at hPX hAll
    have HI := Lib.hid hi
    have HJ := Lib.hid hj
    have HP := Lib.hid hp
    clear hT hi hj hp
    rcases Nat.lt_trichotomy i j with hij | hij | hij
    · have e1 : ((i : Int) == (j : Int)) = false := by rw [beq_eq_false_iff_ne]; omega
      have e2 : (i == j) = false := by rw [beq_eq_false_iff_ne]; omega
      have e3 : ((i : Int) != (j : Int)) = true := by rw [bne, e1]; rfl
      have e4 : (i != j) = true := by rw [bne, e2]; rfl
      have e5 : decide ((j : Int) < (i : Int)) = false := decide_eq_false (by omega)
      have e6 : decide (j < i) = false := decide_eq_false (by omega)
      obtain ⟨q, hq⟩ : ∃ q, m + j - i = q := ⟨_, rfl⟩
      obtain ⟨j', hj'⟩ : ∃ j', j - i = j' := ⟨_, rfl⟩
      have w1 : IntKind.i64.wrap ((m : Int) - (i : Int)) = (p : Int) := by rw [IntWalk.i64_in _ (by omega)]; omega
      have w2 : IntKind.i64.wrap ((m : Int) + (j : Int)) = (m : Int) + (j : Int) := IntWalk.i64_in _ (by omega)
      have w3 : IntKind.i64.wrap ((m : Int) + (j : Int) - (i : Int)) = (q : Int) := by rw [IntWalk.i64_in _ (by omega)]; omega
      have w4 : IntKind.i64.wrap ((j : Int) - (i : Int)) = (j' : Int) := by rw [IntWalk.i64_in _ (by omega)]; omega
      have k1 := HJ.out
      have k2 : (Y.take j').length = j' := by rw [List.length_take]; omega
      have k3 : (Y.drop j').length = i := by rw [List.length_drop]; omega
      have hsw := swapRange_calls g c P X (Y.take j') (Y.drop j') Q i p q len (by rw [HP.out, HI.out, k2, k3]; omega) HI.out k3 HP.out (by rw [k2]; omega) hl f wr (by rw [← List.append_assoc (Y.take j'), List.take_append_drop]; exact hOwn)
      have HSw := Lib.hid hsw
      have HQ := Lib.hid hq
      have HJ' := Lib.hid hj'
      clear hsw k1 k2 k3 hq hj'
      go_wp2_with fail
      refine HSw.out.mono ?_
      rintro e w1 ⟨⟨v, rfl⟩, hOwn1, hK1⟩
      clear HSw
      go_wp2_with fail
      go_roundw
      case rel =>
        have k1 := HJ.out
        have k2 : (Y.take j').length = j' := by have := HJ'.out; rw [List.length_take]; omega
        have k3 : (Y.drop j').length = i := by have := HJ'.out; rw [List.length_drop]; omega
        refine ⟨P, Y.drop j', Y.take j', X ++ Q, by rw [k3]; exact hX, by rw [k2]; have := HJ'.out; omega, by rw [HP.out, k3]; exact hPX, by rw [HP.out, k2, k3, List.length_append, HI.out]; have := HJ'.out; omega, by rw [k3], by rw [k2], ?_, ?_, hKp.trans hK1⟩
        · rw [← HT.out, List.take_append_drop]; simp
        · exact hOwn1
      case measure => simp [intOf]; have := HJ'.out; omega
    · subst hij
      have e1 : ((i : Int) == (i : Int)) = true := beq_self_eq_true _
      have w1 : IntKind.i64.wrap ((m : Int) - (i : Int)) = (p : Int) := by rw [IntWalk.i64_in _ (by omega)]; omega
      have hsw := swapRange_calls g c P X [] Y Q i p m len (by rw [HP.out, HI.out, HJ.out]; simp; omega) HI.out HJ.out HP.out (by simp; omega) hl f wr hOwn
      have HSw := Lib.hid hsw
      clear hsw
      go_wp2_with fail
      refine HSw.out.mono ?_
      rintro e w1 ⟨⟨v, rfl⟩, hOwn1, hK1⟩
      clear HSw
      go_wp2_with fail
      refine bodyPost_end (results_none rfl _ _ _) rfl ⟨⟨_, rfl⟩, ?_, hKp.trans hK1⟩
      rw [← HT.out]
      simpa using hOwn1
    · have e1 : ((i : Int) == (j : Int)) = false := by rw [beq_eq_false_iff_ne]; omega
      have e2 : (i == j) = false := by rw [beq_eq_false_iff_ne]; omega
      have e3 : ((i : Int) != (j : Int)) = true := by rw [bne, e1]; rfl
      have e4 : (i != j) = true := by rw [bne, e2]; rfl
      have e5 : decide ((j : Int) < (i : Int)) = true := decide_eq_true (by omega)
      have e6 : decide (j < i) = true := decide_eq_true (by omega)
      obtain ⟨i', hi'⟩ : ∃ i', i - j = i' := ⟨_, rfl⟩
      have w1 : IntKind.i64.wrap ((m : Int) - (i : Int)) = (p : Int) := by rw [IntWalk.i64_in _ (by omega)]; omega
      have w4 : IntKind.i64.wrap ((i : Int) - (j : Int)) = (i' : Int) := by rw [IntWalk.i64_in _ (by omega)]; omega
      have k1 := HI.out
      have k2 : (X.take j).length = j := by rw [List.length_take]; omega
      have k3 : (X.drop j).length = i' := by rw [List.length_drop]; omega
      have hsw := swapRange_calls g c P (X.take j) (X.drop j) Y Q j p m len (by rw [HP.out, HJ.out, k2, k3]; omega) k2 HJ.out HP.out (by rw [k3]; omega) hl f wr (by rw [← List.append_assoc (X.take j), List.take_append_drop]; exact hOwn)
      have HSw := Lib.hid hsw
      have HI' := Lib.hid hi'
      clear hsw k1 k2 k3 hi'
      go_wp2_with fail
      refine HSw.out.mono ?_
      rintro e w1 ⟨⟨v, rfl⟩, hOwn1, hK1⟩
      clear HSw
      go_wp2_with fail
      go_roundw
      case rel =>
        have k1 := HI.out
        have k0 := HI'.out
        have k2 : (X.take j).length = j := by rw [List.length_take]; omega
        have k3 : (X.drop j).length = i' := by rw [List.length_drop]; omega
        refine ⟨P ++ Y, X.drop j, X.take j, Q, by rw [k3]; omega, by rw [k2]; omega, by rw [List.length_append, HP.out, HJ.out, k3]; omega, by rw [List.length_append, HP.out, HJ.out, k2, k3]; omega, by rw [k3], by rw [k2], ?_, ?_, hKp.trans hK1⟩
        · rw [← HT.out, List.take_append_drop]; simp
        · simpa using hOwn1
      case measure => simp [intOf]; have := HI'.out; omega

end Go.Proofs.YtinafpbdlblcaaaDoor
