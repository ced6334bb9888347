/-
  slices.symMergeCmpFunc at files.
-/
import Derived.Test.YtinafpbdlblcaaaDoorSym2
namespace Go.Proofs.YtinafpbdlblcaaaDoor
open Go.RowKit
set_option linter.unusedVariables false
set_option linter.unusedSimpArgs false

/-- Where the two rows are parted. -/
theorem parted (L R : List File) (hL : RiseK File.path L) (hR : RiseK File.path R) (u v : Nat) (hu : u ≤ L.length) (hv : v ≤ R.length)
    (h1 : u = 0 ∨ v = R.length ∨ ∃ x y, L[u - 1]? = some x ∧ R[v]? = some y ∧ ltB y.path x.path = false)
    (h2 : u = L.length ∨ v = 0 ∨ ∃ x y, L[u]? = some x ∧ R[v - 1]? = some y ∧ ltB y.path x.path = true) :
    sortK File.path (L ++ R) = sortK File.path (L.take u ++ R.take v) ++ sortK File.path (L.drop u ++ R.drop v) := by
  have := mergeSplit File.path (L.take u) (L.drop u) (R.take v) (R.drop v) (by rw [List.take_append_drop]; exact hL) (by rw [List.take_append_drop]; exact hR) ?_ ?_
  · rw [List.take_append_drop, List.take_append_drop] at this; exact this
  · intro x hx y hy
    rcases h1 with rfl | rfl | ⟨x0, y0, hx0, hy0, hlt⟩
    · simp at hx
    · simp at hy
    · have hyy := rise_ge hR hy0 hlt y hy
      by_cases hu0 : u = 0
      · subst hu0; simp at hx
      · have hx' : x ∈ L.take (u - 1 + 1) := by rw [Nat.sub_add_cancel (by omega)]; exact hx
        obtain ⟨i, hi, rfl⟩ := List.mem_iff_getElem.1 hx'
        rw [List.length_take] at hi
        rw [List.getElem_take]
        obtain ⟨hk, rfl⟩ := List.getElem?_eq_some_iff.1 hx0
        exact leB_trans (rise_at File.path hL (i := i) (j := u - 1) (by omega) hk) hyy
  · intro z hz y hy
    rcases h2 with rfl | rfl | ⟨x0, y0, hx0, hy0, hlt⟩
    · simp at hy
    · simp at hz
    · by_cases hv0 : v = 0
      · subst hv0; simp at hz
      · have hz' : z ∈ R.take (v - 1 + 1) := by rw [Nat.sub_add_cancel (by omega)]; exact hz
        have hzx := rise_lt hR hy0 hlt z hz'
        obtain ⟨i, hi, rfl⟩ := List.mem_iff_getElem.1 hy
        rw [List.length_drop] at hi
        rw [List.getElem_drop]
        obtain ⟨hk, rfl⟩ := List.getElem?_eq_some_iff.1 hx0
        exact lt_of_lt_le hzx (rise_at File.path hL (i := u) (j := u + i) (by omega) (by omega))


/-- slices.symMergeCmpFunc of two rows of at most N files. -/
def SymP (N : Nat) : Prop := ∀ (g c : Nat) (A L R B : List File) (a m b : Nat) (len : Nat), L.length + R.length ≤ N → A.length + L.length + R.length + B.length = len → A.length = a → a + L.length = m → m + R.length = b → 0 < L.length → 0 < R.length → RiseK File.path L → RiseK File.path R → len ≤ 1000000 → ∀ (w : World),
    Own EF 30 w (.slice (some ⟨g, 0, none⟩) len c) (A ++ (L ++ (R ++ B))) →
    Calls Tryd.prog 77 #[.slice (some ⟨g, 0, none⟩) len c, .int .i64 a, .int .i64 m, .int .i64 b, .func (.func 42) #[] #[]] w fun e w' => (∃ v, e = .returned v) ∧
      Own EF 30 w' (.slice (some ⟨g, 0, none⟩) len c) (A ++ (sortK File.path (L ++ R) ++ B)) ∧ Kp (fun k => k ≠ g) w w'

theorem sort_to {L R L1 L2 R1 R2 : List File} (A B : List File) (h : sortK File.path (L ++ R) = sortK File.path (L1 ++ R1) ++ sortK File.path (L2 ++ R2)) : A ++ (sortK File.path (L ++ R) ++ B) = (A ++ sortK File.path (L1 ++ R1)) ++ (sortK File.path (L2 ++ R2) ++ B) := by
  rw [h]; simp
section
set_option linter.unusedSectionVars false
variable {A L R B L1 L2 R1 R2 : List File} {a m b mid n e i len : Nat} (ha : A.length = a) (hm : a + L.length = m) (hb : m + R.length = b) (hmid : (a + b) / 2 = mid) (hn : mid + m = n) (he : n - i = e) (hlen : A.length + L.length + R.length + B.length = len) (k1 : L1.length = i - a) (k2 : L2.length = m - i) (k3 : R1.length = mid - i) (k4 : R2.length = b - e) (g1 : a ≤ i) (g2 : i ≤ m) (g3 : i ≤ mid) (g4 : e ≤ b)
include ha hm hb hmid hn he hlen k1 k2 k3 k4 g1 g2 g3 g4
theorem lens_rot : (A ++ L1).length + L2.length + R1.length + (R2 ++ B).length = len := by
  simp only [List.length_append]; omega
theorem lens_1 : A.length + L1.length + R1.length + (L2 ++ (R2 ++ B)).length = len := by
  simp only [List.length_append]; omega
theorem lens_2 : (A ++ sortK File.path (L1 ++ R1)).length + L2.length + R2.length + B.length = len := by
  simp only [List.length_append, sortK_length]; omega
end

set_option maxHeartbeats 2000000 in
set_option maxRecDepth 100000 in
theorem symFar (N : Nat) (IH : SymP N) (g c : Nat) (A L R B : List File) (a m b mid n p s0 r0 : Nat) (len : Nat) (hN : L.length + R.length ≤ N + 1) (hlen : A.length + L.length + R.length + B.length = len) (ha : A.length = a) (hm : a + L.length = m) (hb : m + R.length = b) (hL2 : 2 ≤ L.length) (hR2 : 2 ≤ R.length) (hL : RiseK File.path L) (hR : RiseK File.path R) (hl : len ≤ 1000000)
    (hmid : (a + b) / 2 = mid) (hn : mid + m = n) (hp : n - 1 = p) (hc : mid < m) (hs0 : s0 = n - b) (hr0 : r0 = mid) (F1 : a ≤ s0) (F2 : s0 ≤ r0) (F3 : r0 ≤ m) (F4 : r0 ≤ mid) (F5 : n ≤ s0 + b) (F6 : s0 = a ∨ n = s0 + b) (F7 : r0 = m ∨ r0 = mid) (w : World)
    (h : Own EF 30 w (.slice (some ⟨g, 0, none⟩) len c) (A ++ (L ++ (R ++ B)))) :
    Calls Tryd.prog 77 #[.slice (some ⟨g, 0, none⟩) len c, .int .i64 a, .int .i64 m, .int .i64 b, .func (.func 42) #[] #[]] w fun e w' => (∃ v, e = .returned v) ∧
      Own EF 30 w' (.slice (some ⟨g, 0, none⟩) len c) (A ++ (sortK File.path (L ++ R) ++ B)) ∧ Kp (fun k => k ≠ g) w w' := by
  go_enter Tryd.func77, Tryd.ntmps77
  have hw1 : (m : Int) - (a : Int) = (L.length : Int) := by omega
  have hw2 : (b : Int) - (m : Int) = (R.length : Int) := by omega
  have hw3 : ((L.length : Int) == 1) = false := by rw [beq_eq_false_iff_ne]; omega
  have hw4 : (L.length == 1) = false := by rw [beq_eq_false_iff_ne]; omega
  have hw5 : ((R.length : Int) == 1) = false := by rw [beq_eq_false_iff_ne]; omega
  have hw6 : (R.length == 1) = false := by rw [beq_eq_false_iff_ne]; omega
  have hw7 : (mid : Int) + (m : Int) = (n : Int) := by omega
  have hw8 : (n : Int) - 1 = (p : Int) := by omega
  have hsz1 : n ≤ 2000000 := by omega
  have hsz2 : b ≤ 1000000 := by omega
  have hsz3 : a ≤ m := by omega
  have hsz4 : m ≤ b := by omega
  have hsz5 : 1 ≤ n := by omega
  have HA := Lib.hid ha
  have HM := Lib.hid hm
  have HB := Lib.hid hb
  have HL := Lib.hid hlen
  have HMID := Lib.hid hmid
  have HN := Lib.hid hn
  have HP := Lib.hid hp
  have HNN := Lib.hid hN
  have HF6 := Lib.hid F6
  have HF7 := Lib.hid F7
  have d1 : decide ((mid : Int) < (m : Int)) = true := decide_eq_true (by omega)
  have d2 : decide (mid < m) = true := decide_eq_true (by omega)
  have hw9 : (n : Int) - (b : Int) = (s0 : Int) := by omega
  have e1 : Value.int .i64 (s0 : Int) = .int .i64 (s0 : Int) := rfl
  have e2 : Value.int .i64 (mid : Int) = .int .i64 (r0 : Int) := by rw [hr0]
  have HE1 := Lib.hid e1
  have HE2 := Lib.hid e2
  have s3 : ((a : Int) + (b : Int)) / 2 = (mid : Int) := by omega
  clear ha hm hb hlen hn hp hN F6 F7 hs0 hr0 e1 e2 hmid hc
  go_wp2_with fail
  clear s3 hw1 hw2 hw3 hw4 hw5 hw6 hw7 hw8 d1 d2 hw9
  go_loopw [20, 21] (fun u v wr => ∃ i j : Nat, s0 ≤ i ∧ i ≤ j ∧ j ≤ r0 ∧ u = .int .i64 (i : Int) ∧ v = .int .i64 (j : Int) ∧ (i = s0 ∨ ∃ x y, L[i - 1 - a]? = some x ∧ R[n - i - m]? = some y ∧ ltB y.path x.path = false) ∧ (j = r0 ∨ ∃ x y, L[j - a]? = some x ∧ R[n - 1 - j - m]? = some y ∧ ltB y.path x.path = true) ∧ Own EF 30 wr (.slice (some ⟨g, 0, none⟩) len c) (A ++ (L ++ (R ++ B))) ∧ Kp (fun j => j ≠ g) w wr) (fun u v _ => (intOf v).toNat - (intOf u).toNat)
  case atStart => exact ⟨s0, r0, Nat.le_refl _, F2, Nat.le_refl _, by first | exact HE1.out | trivial, by first | exact HE2.out | trivial, by first | exact .inl rfl | trivial, by first | exact .inl rfl | trivial, h, Kp.refl _ _⟩
  case round =>
    obtain ⟨i, j, hi, hij, hj, rfl, rfl, h1, h2, hOwn, hKp⟩ := hrel
    rename_i wr
    have H1 := Lib.hid h1
    have H2 := Lib.hid h2
    clear h1 h2 h
    by_cases hlt : i < j
    · have hd : decide ((i : Int) < (j : Int)) = true := decide_eq_true (by omega)
      have hd' : decide (i < j) = true := decide_eq_true (by omega)
      have hil : i ≤ 1000000 := by omega
      have hjl : j ≤ 1000000 := by omega
      obtain ⟨k, hk⟩ : ∃ k, (i + j) / 2 = k := ⟨_, rfl⟩
      have s3 : ((i : Int) + (j : Int)) / 2 = (k : Int) := by omega
      have hki : i ≤ k := by omega
      have hkj : k < j := by omega
      have ha := HA.out
      have hm := HM.out
      have hb := HB.out
      have hn := HN.out
      have hp := HP.out
      obtain ⟨q, hq⟩ : ∃ q, p - k = q := ⟨_, rfl⟩
      obtain ⟨x, hx⟩ : ∃ x, L[k - a]? = some x := ⟨_, List.getElem?_eq_getElem (by omega)⟩
      obtain ⟨y, hy⟩ : ∃ y, R[q - m]? = some y := ⟨_, List.getElem?_eq_getElem (by omega)⟩
      have hgx : (A ++ (L ++ (R ++ B)))[k]? = some x := by rw [List.getElem?_append_right (by omega), ha, List.getElem?_append_left (by omega), hx]
      have hgy : (A ++ (L ++ (R ++ B)))[q]? = some y := by
        rw [List.getElem?_append_right (by omega), ha, List.getElem?_append_right (by omega), show q - a - L.length = q - m by omega, List.getElem?_append_left (by omega), hy]
      obtain ⟨cx0, cx1⟩ := hOwn.file hgx
      obtain ⟨cy0, cy1⟩ := hOwn.file hgy
      have hlen := HL.out
      have ix0 : (0 : Int) ≤ (k : Int) := by omega
      have ix1 : (k : Int) < (len : Int) := by omega
      have iy0 : (0 : Int) ≤ (q : Int) := by omega
      have iy1 : (q : Int) < (len : Int) := by omega
      have hyq : R[n - 1 - k - m]? = some y := by rw [show n - 1 - k - m = q - m by omega]; exact hy
      have HX := Lib.hid hx
      have HY := Lib.hid hyq
      have hpl : p ≤ 2000000 := by omega
      have hkl : k ≤ 1000000 := by omega
      have hwr : IntKind.i64.wrap ((p : Int) - (k : Int)) = (q : Int) := by rw [IntWalk.i64_in _ (by omega)]; omega
      have HWR := Lib.hid hwr
      have hsb : s0 ≤ 1000000 := by omega
      have G1 := Lib.hid (And.intro hi hj)
      clear hwr hk ha hm hb hn hp hq hx hy hgx hgy hlen hyq
      clear F1 F2 F3 F4 F5 hi hj hij hsz1 hsz2 hsz3 hsz4 hsz5 hlt hL2 hR2 hsb
      go_wp2_with fail
      have hwr := HWR.out
      skip
      go_still_tail 11, (by kernel_rfl)
      clear hwr HWR
      clear s3 ix0 ix1 iy0 iy1 hpl hil hjl hd hd' cx0 cx1 cy0 cy1
      skip
      go_wp2_with (go_at_call 42; refine stop ?_)
      refine (put1_calls y x _).mono ?_
      rintro e W5 ⟨rfl, hW5⟩
      have hK5 : Ext wr W5 := by rw [← hW5]; exact (((Kp.refl _ wr).drew.alloc _).alloc _)
      clear hW5
      have hO5 := hOwn.kp hK5 (fun _ _ => trivial)
      have G2 := G1.out
      have hL5 := HL.out
      cases hxy : ltB y.path x.path with
      | false =>
        have hcm : decide (cmpB y.path x.path < 0) = false := by rw [decide_eq_false_iff_not, cmpB_neg, hxy]; simp
        clear hL5
        go_wp2_with fail
        refine ⟨⟨k + 1, j, by omega, by omega, G2.2, by go_num, rfl, .inr ⟨x, y, ?_, ?_, hxy⟩, H2.out, hO5, hKp.trans (Kp.of_ext hK5)⟩, ?_⟩
        · exact HX.out
        · rw [show n - (k + 1) - m = n - 1 - k - m by omega]; exact HY.out
        · simp [intOf]; omega
      | true =>
        have hcm : decide (cmpB y.path x.path < 0) = true := by rw [decide_eq_true_iff, cmpB_neg, hxy]
        clear hL5
        go_wp2_with fail
        exact ⟨⟨i, k, G2.1, hki, by omega, rfl, rfl, H1.out, .inr ⟨x, y, HX.out, HY.out, hxy⟩, hO5, hKp.trans (Kp.of_ext hK5)⟩, by simp [intOf]; omega⟩
    · have hd : decide ((i : Int) < (j : Int)) = false := decide_eq_false (by omega)
      have hd' : decide (i < j) = false := decide_eq_false (by omega)
      have hij2 : i = j := by omega
      subst hij2
      have ha := HA.out
      have hm := HM.out
      have hb := HB.out
      have hmid := HMID.out
      have hn := HN.out
      have hlen := HL.out
      have hN := HNN.out
      have hU : i - a ≤ L.length := by omega
      have hV : mid - i ≤ R.length := by omega
      have hsort := parted L R hL hR (i - a) (mid - i) hU hV (by
          rcases H1.out with h1 | ⟨x, y, hx, hy, hlt⟩
          · rcases HF6.out with h6 | h6
            · exact .inl (by omega)
            · exact .inr (.inl (by omega))
          · by_cases h0 : i - a = 0
            · exact .inl h0
            · exact .inr (.inr ⟨x, y, by rw [show i - a - 1 = i - 1 - a by omega]; exact hx, by rw [show mid - i = n - i - m by omega]; exact hy, hlt⟩)) (by
          rcases H2.out with h2 | ⟨x, y, hx, hy, hlt⟩
          · rcases HF7.out with h7 | h7
            · exact .inl (by omega)
            · exact .inr (.inl (by omega))
          · by_cases h0 : mid - i = 0
            · exact .inr (.inl h0)
            · exact .inr (.inr ⟨x, y, hx, by rw [show mid - i - 1 = n - 1 - i - m by omega]; exact hy, hlt⟩))
      obtain ⟨L1, hL1⟩ : ∃ L1, L.take (i - a) = L1 := ⟨_, rfl⟩
      obtain ⟨L2, hL2'⟩ : ∃ L2, L.drop (i - a) = L2 := ⟨_, rfl⟩
      obtain ⟨R1, hR1⟩ : ∃ R1, R.take (mid - i) = R1 := ⟨_, rfl⟩
      obtain ⟨R2, hR2'⟩ : ∃ R2, R.drop (mid - i) = R2 := ⟨_, rfl⟩
      have k1 : L1.length = i - a := by rw [← hL1, List.length_take]; omega
      have k2 : L2.length = m - i := by rw [← hL2', List.length_drop]; omega
      have k3 : R1.length = mid - i := by rw [← hR1, List.length_take]; omega
      have k4 : R2.length = n - i - mid - (m - i) + (b - (n - i)) := by rw [← hR2', List.length_drop]; omega
      have eL : L = L1 ++ L2 := by rw [← hL1, ← hL2', List.take_append_drop]
      have eR : R = R1 ++ R2 := by rw [← hR1, ← hR2', List.take_append_drop]
      rw [hL1, hL2', hR1, hR2'] at hsort
      have hLL := hL
      have hRR := hR
      rw [eL] at hLL
      rw [eR] at hRR
      have rL1 : RiseK File.path L1 := (List.pairwise_append.1 hLL).1
      have rL2 : RiseK File.path L2 := (List.pairwise_append.1 hLL).2.1
      have rR1 : RiseK File.path R1 := (List.pairwise_append.1 hRR).1
      have rR2 : RiseK File.path R2 := (List.pairwise_append.1 hRR).2.1
      have hrow : A ++ (L ++ (R ++ B)) = (A ++ L1) ++ (L2 ++ (R1 ++ (R2 ++ B))) := by rw [eL, eR]; simp
      rw [hrow] at hOwn
      obtain ⟨e, he⟩ : ∃ e, n - i = e := ⟨_, rfl⟩
      have hei : (n : Int) - (i : Int) = (e : Int) := by omega
      rw [he] at k4
      have k4' : R2.length = b - e := by omega
      have hel : e ≤ 1000000 := by omega
      have hsort' := sort_to A B hsort
      have HS := Lib.hid hsort'
      have K1 := Lib.hid k1
      have K2 := Lib.hid k2
      have K3 := Lib.hid k3
      have K4 := Lib.hid k4'
      have HE := Lib.hid he
      have HEI := Lib.hid hei
      have hil : i ≤ 1000000 := by omega
      have hnl : n ≤ 2000000 := by omega
      have q1 : a ≤ i := by omega
      have q2 : i ≤ m := by omega
      have q3 : i ≤ mid := by omega
      have q4 : e ≤ b := by omega
      have q5 : m ≤ e := by omega
      have q6 : mid ≤ e := by omega
      have q7 : a < mid := by omega
      have q8 : mid < b := by omega
      have g0 : i = a ∨ (a < i ∧ i = m) ∨ (a < i ∧ i < m) := by omega
      have g1 : i = mid ∨ (i < mid ∧ e = b) ∨ (i < mid ∧ e < b) := by omega
      rcases g0 with gu | gu | gu
      · rcases g1 with gv | gv | gv
        · omega
        · have f1 : decide ((i : Int) < (m : Int)) = true := decide_eq_true (by omega)
          have f1n : decide (i < m) = true := decide_eq_true (by omega)
          have f2 : decide ((m : Int) < (e : Int)) = true := decide_eq_true (by omega)
          have f2n : decide (m < e) = true := decide_eq_true (by omega)
          have f3 : decide ((a : Int) < (i : Int)) = false := decide_eq_false (by omega)
          have f3n : decide (a < i) = false := decide_eq_false (by omega)
          have f4 : decide ((i : Int) < (mid : Int)) = true := decide_eq_true (by omega)
          have f4n : decide (i < mid) = true := decide_eq_true (by omega)
          have f5 : decide ((mid : Int) < (e : Int)) = true := decide_eq_true (by omega)
          have f5n : decide (mid < e) = true := decide_eq_true (by omega)
          have f6 : decide ((e : Int) < (b : Int)) = false := decide_eq_false (by omega)
          have f6n : decide (e < b) = false := decide_eq_false (by omega)
          have zL1 : L1 = [] := List.eq_nil_of_length_eq_zero (by omega)
          have zR2 : R2 = [] := List.eq_nil_of_length_eq_zero (by omega)
          have hKp0 := hKp
          have p2 : i < m := by omega
          have p3 : i < mid := by omega
          have p4 : m < e := by omega
          have p6 : mid < e := by omega
          clear ha hm hb hmid hn hlen hN hU hV hsort hsort' k1 k2 k3 k4 k4' he hei eL eR hL1 hL2' hR1 hR2' hLL hRR hrow hL hR hlt hi hj F1 F2 F3 F4 F5 hij hL2 hR2 hsz1 hsz2 hsz3 hsz4 hsz5 hd hd'
          have hbl : b ≤ 1000000 := by have := HL.out; have := HA.out; have := HM.out; have := HB.out; omega
          have hml : m ≤ 1000000 := by have := HL.out; have := HA.out; have := HM.out; have := HB.out; omega
          have hdl : mid ≤ 1000000 := by have := HMID.out; omega
          have hdd : decide ((i : Int) < (i : Int)) = false := by simp
          clear gu gv
          have hROT := rotate_calls g c (A ++ L1) L2 R1 (R2 ++ B) i m e len (lens_rot HA.out HM.out HB.out HMID.out HN.out HE.out HL.out K1.out K2.out K3.out K4.out (by omega) (by omega) (by omega) (by omega)) (by rw [List.length_append]; have := HA.out; have := K1.out; have := HM.out; have := HMID.out; omega) (by have := K2.out; omega) (by have := K3.out; have := HN.out; have := HE.out; omega) (by have := K2.out; omega) (by have := K3.out; omega) hl (.func (.func 42) #[] #[]) wr hOwn
          have HROT := Lib.hid hROT
          clear hROT
          have hei := HEI.out
          go_wp2_with fail
          clear hei f1 f1n f2 f2n hdd
          refine HROT.out.mono ?_
          rintro ex w1 ⟨⟨v1, rfl⟩, hO1, hK1⟩
          clear HROT
          have hO2 : Own EF 30 w1 (.slice (some ⟨g, 0, none⟩) len c) (A ++ (sortK File.path (L1 ++ R1) ++ (L2 ++ (R2 ++ B)))) := by
            have := hO1
            rw [sortK_rise_self File.path (L1 ++ R1) (by rw [zL1]; exact rR1)]
            simpa using this
          have hK2 : Kp (fun k => k ≠ g) w1 w1 := Kp.refl _ _
          have hO3 : Own EF 30 w1 (.slice (some ⟨g, 0, none⟩) len c) ((A ++ sortK File.path (L1 ++ R1)) ++ (sortK File.path (L2 ++ R2) ++ B)) := by
            have := hO2
            rw [sortK_rise_self File.path (L2 ++ R2) (by rw [zR2, List.append_nil]; exact rL2)]
            simpa using this
          have hK3 : Kp (fun k => k ≠ g) w1 w1 := Kp.refl _ _
          go_wp2_with fail
          refine bodyPost_end (results_none rfl _ _ _) rfl ⟨⟨_, rfl⟩, ?_, ((hKp0.trans hK1).trans hK2).trans hK3⟩
          rw [HS.out]
          exact hO3
        · have f1 : decide ((i : Int) < (m : Int)) = true := decide_eq_true (by omega)
          have f1n : decide (i < m) = true := decide_eq_true (by omega)
          have f2 : decide ((m : Int) < (e : Int)) = true := decide_eq_true (by omega)
          have f2n : decide (m < e) = true := decide_eq_true (by omega)
          have f3 : decide ((a : Int) < (i : Int)) = false := decide_eq_false (by omega)
          have f3n : decide (a < i) = false := decide_eq_false (by omega)
          have f4 : decide ((i : Int) < (mid : Int)) = true := decide_eq_true (by omega)
          have f4n : decide (i < mid) = true := decide_eq_true (by omega)
          have f5 : decide ((mid : Int) < (e : Int)) = true := decide_eq_true (by omega)
          have f5n : decide (mid < e) = true := decide_eq_true (by omega)
          have f6 : decide ((e : Int) < (b : Int)) = true := decide_eq_true (by omega)
          have f6n : decide (e < b) = true := decide_eq_true (by omega)
          have zL1 : L1 = [] := List.eq_nil_of_length_eq_zero (by omega)
          have hKp0 := hKp
          have p2 : i < m := by omega
          have p3 : i < mid := by omega
          have p4 : m < e := by omega
          have p5 : e < b := by omega
          have p6 : mid < e := by omega
          clear ha hm hb hmid hn hlen hN hU hV hsort hsort' k1 k2 k3 k4 k4' he hei eL eR hL1 hL2' hR1 hR2' hLL hRR hrow hL hR hlt hi hj F1 F2 F3 F4 F5 hij hL2 hR2 hsz1 hsz2 hsz3 hsz4 hsz5 hd hd'
          have hbl : b ≤ 1000000 := by have := HL.out; have := HA.out; have := HM.out; have := HB.out; omega
          have hml : m ≤ 1000000 := by have := HL.out; have := HA.out; have := HM.out; have := HB.out; omega
          have hdl : mid ≤ 1000000 := by have := HMID.out; omega
          have hdd : decide ((i : Int) < (i : Int)) = false := by simp
          clear gu gv
          have hROT := rotate_calls g c (A ++ L1) L2 R1 (R2 ++ B) i m e len (lens_rot HA.out HM.out HB.out HMID.out HN.out HE.out HL.out K1.out K2.out K3.out K4.out (by omega) (by omega) (by omega) (by omega)) (by rw [List.length_append]; have := HA.out; have := K1.out; have := HM.out; have := HMID.out; omega) (by have := K2.out; omega) (by have := K3.out; have := HN.out; have := HE.out; omega) (by have := K2.out; omega) (by have := K3.out; omega) hl (.func (.func 42) #[] #[]) wr hOwn
          have HROT := Lib.hid hROT
          clear hROT
          have hei := HEI.out
          go_wp2_with fail
          clear hei f1 f1n f2 f2n hdd
          refine HROT.out.mono ?_
          rintro ex w1 ⟨⟨v1, rfl⟩, hO1, hK1⟩
          clear HROT
          have hO2 : Own EF 30 w1 (.slice (some ⟨g, 0, none⟩) len c) (A ++ (sortK File.path (L1 ++ R1) ++ (L2 ++ (R2 ++ B)))) := by
            have := hO1
            rw [sortK_rise_self File.path (L1 ++ R1) (by rw [zL1]; exact rR1)]
            simpa using this
          have hK2 : Kp (fun k => k ≠ g) w1 w1 := Kp.refl _ _
          have hO2' : Own EF 30 w1 (.slice (some ⟨g, 0, none⟩) len c) ((A ++ sortK File.path (L1 ++ R1)) ++ (L2 ++ (R2 ++ B))) := by
            have := hO2
            rw [← List.append_assoc] at this
            exact this
          have hIH2 := IH g c (A ++ sortK File.path (L1 ++ R1)) L2 R2 B mid e b len (by have := HNN.out; have := HA.out; have := HM.out; have := HB.out; have := HMID.out; have := K2.out; have := K4.out; have := HN.out; have := HE.out; omega) (lens_2 HA.out HM.out HB.out HMID.out HN.out HE.out HL.out K1.out K2.out K3.out K4.out (by omega) (by omega) (by omega) (by omega)) (by rw [List.length_append, sortK_length, List.length_append]; have := HA.out; have := K1.out; have := K3.out; omega) (by have := K2.out; have := HN.out; have := HE.out; omega) (by have := K4.out; omega) (by have := K2.out; omega) (by have := K4.out; omega) rL2 rR2 hl w1 hO2'
          have HIH2 := Lib.hid hIH2
          clear hIH2
          go_wp2_with fail
          refine HIH2.out.mono ?_
          rintro ex w3 ⟨⟨v3, rfl⟩, hO3, hK3⟩
          clear HIH2
          go_wp2_with fail
          refine bodyPost_end (results_none rfl _ _ _) rfl ⟨⟨_, rfl⟩, ?_, ((hKp0.trans hK1).trans hK2).trans hK3⟩
          rw [HS.out]
          exact hO3
      · rcases g1 with gv | gv | gv
        · have f1 : decide ((i : Int) < (m : Int)) = false := decide_eq_false (by omega)
          have f1n : decide (i < m) = false := decide_eq_false (by omega)
          have f2 : decide ((m : Int) < (e : Int)) = false := decide_eq_false (by omega)
          have f2n : decide (m < e) = false := decide_eq_false (by omega)
          have f3 : decide ((a : Int) < (i : Int)) = true := decide_eq_true (by omega)
          have f3n : decide (a < i) = true := decide_eq_true (by omega)
          have f4 : decide ((i : Int) < (mid : Int)) = false := decide_eq_false (by omega)
          have f4n : decide (i < mid) = false := decide_eq_false (by omega)
          have f5 : decide ((mid : Int) < (e : Int)) = false := decide_eq_false (by omega)
          have f5n : decide (mid < e) = false := decide_eq_false (by omega)
          have f6 : decide ((e : Int) < (b : Int)) = true := decide_eq_true (by omega)
          have f6n : decide (e < b) = true := decide_eq_true (by omega)
          have zL2 : L2 = [] := List.eq_nil_of_length_eq_zero (by omega)
          have zR1 : R1 = [] := List.eq_nil_of_length_eq_zero (by omega)
          have hKp0 := hKp
          have p1 : a < i := by omega
          have p5 : e < b := by omega
          clear ha hm hb hmid hn hlen hN hU hV hsort hsort' k1 k2 k3 k4 k4' he hei eL eR hL1 hL2' hR1 hR2' hLL hRR hrow hL hR hlt hi hj F1 F2 F3 F4 F5 hij hL2 hR2 hsz1 hsz2 hsz3 hsz4 hsz5 hd hd'
          have hbl : b ≤ 1000000 := by have := HL.out; have := HA.out; have := HM.out; have := HB.out; omega
          have hml : m ≤ 1000000 := by have := HL.out; have := HA.out; have := HM.out; have := HB.out; omega
          have hdl : mid ≤ 1000000 := by have := HMID.out; omega
          have hdd : decide ((i : Int) < (i : Int)) = false := by simp
          clear gu gv
          have hei := HEI.out
          have hO1 : Own EF 30 wr (.slice (some ⟨g, 0, none⟩) len c) ((A ++ L1) ++ (R1 ++ (L2 ++ (R2 ++ B)))) := by
            have := hOwn
            rw [zL2, zR1] at this ⊢
            simpa using this
          have hK1 : Kp (fun k => k ≠ g) wr wr := Kp.refl _ _
          have hO2 : Own EF 30 wr (.slice (some ⟨g, 0, none⟩) len c) (A ++ (sortK File.path (L1 ++ R1) ++ (L2 ++ (R2 ++ B)))) := by
            have := hO1
            rw [sortK_rise_self File.path (L1 ++ R1) (by rw [zR1, List.append_nil]; exact rL1)]
            simpa using this
          have hK2 : Kp (fun k => k ≠ g) wr wr := Kp.refl _ _
          have hO3 : Own EF 30 wr (.slice (some ⟨g, 0, none⟩) len c) ((A ++ sortK File.path (L1 ++ R1)) ++ (sortK File.path (L2 ++ R2) ++ B)) := by
            have := hO2
            rw [sortK_rise_self File.path (L2 ++ R2) (by rw [zL2]; exact rR2)]
            simpa using this
          have hK3 : Kp (fun k => k ≠ g) wr wr := Kp.refl _ _
          go_wp2_with fail
          refine bodyPost_end (results_none rfl _ _ _) rfl ⟨⟨_, rfl⟩, ?_, ((hKp0.trans hK1).trans hK2).trans hK3⟩
          rw [HS.out]
          exact hO3
        · omega
        · have f1 : decide ((i : Int) < (m : Int)) = false := decide_eq_false (by omega)
          have f1n : decide (i < m) = false := decide_eq_false (by omega)
          have f2 : decide ((m : Int) < (e : Int)) = true := decide_eq_true (by omega)
          have f2n : decide (m < e) = true := decide_eq_true (by omega)
          have f3 : decide ((a : Int) < (i : Int)) = true := decide_eq_true (by omega)
          have f3n : decide (a < i) = true := decide_eq_true (by omega)
          have f4 : decide ((i : Int) < (mid : Int)) = true := decide_eq_true (by omega)
          have f4n : decide (i < mid) = true := decide_eq_true (by omega)
          have f5 : decide ((mid : Int) < (e : Int)) = false := decide_eq_false (by omega)
          have f5n : decide (mid < e) = false := decide_eq_false (by omega)
          have f6 : decide ((e : Int) < (b : Int)) = true := decide_eq_true (by omega)
          have f6n : decide (e < b) = true := decide_eq_true (by omega)
          have zL2 : L2 = [] := List.eq_nil_of_length_eq_zero (by omega)
          have hKp0 := hKp
          have p1 : a < i := by omega
          have p3 : i < mid := by omega
          have p4 : m < e := by omega
          have p5 : e < b := by omega
          clear ha hm hb hmid hn hlen hN hU hV hsort hsort' k1 k2 k3 k4 k4' he hei eL eR hL1 hL2' hR1 hR2' hLL hRR hrow hL hR hlt hi hj F1 F2 F3 F4 F5 hij hL2 hR2 hsz1 hsz2 hsz3 hsz4 hsz5 hd hd'
          have hbl : b ≤ 1000000 := by have := HL.out; have := HA.out; have := HM.out; have := HB.out; omega
          have hml : m ≤ 1000000 := by have := HL.out; have := HA.out; have := HM.out; have := HB.out; omega
          have hdl : mid ≤ 1000000 := by have := HMID.out; omega
          have hdd : decide ((i : Int) < (i : Int)) = false := by simp
          clear gu gv
          have hei := HEI.out
          have hO1 : Own EF 30 wr (.slice (some ⟨g, 0, none⟩) len c) ((A ++ L1) ++ (R1 ++ (L2 ++ (R2 ++ B)))) := by
            have := hOwn
            rw [zL2] at this ⊢
            simpa using this
          have hK1 : Kp (fun k => k ≠ g) wr wr := Kp.refl _ _
          have hO1' : Own EF 30 wr (.slice (some ⟨g, 0, none⟩) len c) (A ++ (L1 ++ (R1 ++ (L2 ++ (R2 ++ B))))) := by
            have := hO1
            rw [List.append_assoc] at this
            exact this
          have hIH1 := IH g c A L1 R1 (L2 ++ (R2 ++ B)) a i mid len (by have := HNN.out; have := HA.out; have := HM.out; have := HB.out; have := HMID.out; have := K1.out; have := K3.out; omega) (lens_1 HA.out HM.out HB.out HMID.out HN.out HE.out HL.out K1.out K2.out K3.out K4.out (by omega) (by omega) (by omega) (by omega)) HA.out (by have := K1.out; omega) (by have := K3.out; omega) (by have := K1.out; omega) (by have := K3.out; omega) rL1 rR1 hl wr hO1'
          have HIH1 := Lib.hid hIH1
          clear hIH1
          go_wp2_with fail
          refine HIH1.out.mono ?_
          rintro ex w2 ⟨⟨v2, rfl⟩, hO2, hK2⟩
          clear HIH1
          have hO3 : Own EF 30 w2 (.slice (some ⟨g, 0, none⟩) len c) ((A ++ sortK File.path (L1 ++ R1)) ++ (sortK File.path (L2 ++ R2) ++ B)) := by
            have := hO2
            rw [sortK_rise_self File.path (L2 ++ R2) (by rw [zL2]; exact rR2)]
            simpa using this
          have hK3 : Kp (fun k => k ≠ g) w2 w2 := Kp.refl _ _
          go_wp2_with fail
          refine bodyPost_end (results_none rfl _ _ _) rfl ⟨⟨_, rfl⟩, ?_, ((hKp0.trans hK1).trans hK2).trans hK3⟩
          rw [HS.out]
          exact hO3
      · rcases g1 with gv | gv | gv
        · have f1 : decide ((i : Int) < (m : Int)) = true := decide_eq_true (by omega)
          have f1n : decide (i < m) = true := decide_eq_true (by omega)
          have f2 : decide ((m : Int) < (e : Int)) = false := decide_eq_false (by omega)
          have f2n : decide (m < e) = false := decide_eq_false (by omega)
          have f3 : decide ((a : Int) < (i : Int)) = true := decide_eq_true (by omega)
          have f3n : decide (a < i) = true := decide_eq_true (by omega)
          have f4 : decide ((i : Int) < (mid : Int)) = false := decide_eq_false (by omega)
          have f4n : decide (i < mid) = false := decide_eq_false (by omega)
          have f5 : decide ((mid : Int) < (e : Int)) = true := decide_eq_true (by omega)
          have f5n : decide (mid < e) = true := decide_eq_true (by omega)
          have f6 : decide ((e : Int) < (b : Int)) = true := decide_eq_true (by omega)
          have f6n : decide (e < b) = true := decide_eq_true (by omega)
          have zR1 : R1 = [] := List.eq_nil_of_length_eq_zero (by omega)
          have hKp0 := hKp
          have p1 : a < i := by omega
          have p2 : i < m := by omega
          have p5 : e < b := by omega
          have p6 : mid < e := by omega
          clear ha hm hb hmid hn hlen hN hU hV hsort hsort' k1 k2 k3 k4 k4' he hei eL eR hL1 hL2' hR1 hR2' hLL hRR hrow hL hR hlt hi hj F1 F2 F3 F4 F5 hij hL2 hR2 hsz1 hsz2 hsz3 hsz4 hsz5 hd hd'
          have hbl : b ≤ 1000000 := by have := HL.out; have := HA.out; have := HM.out; have := HB.out; omega
          have hml : m ≤ 1000000 := by have := HL.out; have := HA.out; have := HM.out; have := HB.out; omega
          have hdl : mid ≤ 1000000 := by have := HMID.out; omega
          have hdd : decide ((i : Int) < (i : Int)) = false := by simp
          clear gu gv
          have hei := HEI.out
          have hO1 : Own EF 30 wr (.slice (some ⟨g, 0, none⟩) len c) ((A ++ L1) ++ (R1 ++ (L2 ++ (R2 ++ B)))) := by
            have := hOwn
            rw [zR1] at this ⊢
            simpa using this
          have hK1 : Kp (fun k => k ≠ g) wr wr := Kp.refl _ _
          have hO2 : Own EF 30 wr (.slice (some ⟨g, 0, none⟩) len c) (A ++ (sortK File.path (L1 ++ R1) ++ (L2 ++ (R2 ++ B)))) := by
            have := hO1
            rw [sortK_rise_self File.path (L1 ++ R1) (by rw [zR1, List.append_nil]; exact rL1)]
            simpa using this
          have hK2 : Kp (fun k => k ≠ g) wr wr := Kp.refl _ _
          have hO2' : Own EF 30 wr (.slice (some ⟨g, 0, none⟩) len c) ((A ++ sortK File.path (L1 ++ R1)) ++ (L2 ++ (R2 ++ B))) := by
            have := hO2
            rw [← List.append_assoc] at this
            exact this
          have hIH2 := IH g c (A ++ sortK File.path (L1 ++ R1)) L2 R2 B mid e b len (by have := HNN.out; have := HA.out; have := HM.out; have := HB.out; have := HMID.out; have := K2.out; have := K4.out; have := HN.out; have := HE.out; omega) (lens_2 HA.out HM.out HB.out HMID.out HN.out HE.out HL.out K1.out K2.out K3.out K4.out (by omega) (by omega) (by omega) (by omega)) (by rw [List.length_append, sortK_length, List.length_append]; have := HA.out; have := K1.out; have := K3.out; omega) (by have := K2.out; have := HN.out; have := HE.out; omega) (by have := K4.out; omega) (by have := K2.out; omega) (by have := K4.out; omega) rL2 rR2 hl wr hO2'
          have HIH2 := Lib.hid hIH2
          clear hIH2
          go_wp2_with fail
          refine HIH2.out.mono ?_
          rintro ex w3 ⟨⟨v3, rfl⟩, hO3, hK3⟩
          clear HIH2
          go_wp2_with fail
          refine bodyPost_end (results_none rfl _ _ _) rfl ⟨⟨_, rfl⟩, ?_, ((hKp0.trans hK1).trans hK2).trans hK3⟩
          rw [HS.out]
          exact hO3
        · have f1 : decide ((i : Int) < (m : Int)) = true := decide_eq_true (by omega)
          have f1n : decide (i < m) = true := decide_eq_true (by omega)
          have f2 : decide ((m : Int) < (e : Int)) = true := decide_eq_true (by omega)
          have f2n : decide (m < e) = true := decide_eq_true (by omega)
          have f3 : decide ((a : Int) < (i : Int)) = true := decide_eq_true (by omega)
          have f3n : decide (a < i) = true := decide_eq_true (by omega)
          have f4 : decide ((i : Int) < (mid : Int)) = true := decide_eq_true (by omega)
          have f4n : decide (i < mid) = true := decide_eq_true (by omega)
          have f5 : decide ((mid : Int) < (e : Int)) = true := decide_eq_true (by omega)
          have f5n : decide (mid < e) = true := decide_eq_true (by omega)
          have f6 : decide ((e : Int) < (b : Int)) = false := decide_eq_false (by omega)
          have f6n : decide (e < b) = false := decide_eq_false (by omega)
          have zR2 : R2 = [] := List.eq_nil_of_length_eq_zero (by omega)
          have hKp0 := hKp
          have p1 : a < i := by omega
          have p2 : i < m := by omega
          have p3 : i < mid := by omega
          have p4 : m < e := by omega
          have p6 : mid < e := by omega
          clear ha hm hb hmid hn hlen hN hU hV hsort hsort' k1 k2 k3 k4 k4' he hei eL eR hL1 hL2' hR1 hR2' hLL hRR hrow hL hR hlt hi hj F1 F2 F3 F4 F5 hij hL2 hR2 hsz1 hsz2 hsz3 hsz4 hsz5 hd hd'
          have hbl : b ≤ 1000000 := by have := HL.out; have := HA.out; have := HM.out; have := HB.out; omega
          have hml : m ≤ 1000000 := by have := HL.out; have := HA.out; have := HM.out; have := HB.out; omega
          have hdl : mid ≤ 1000000 := by have := HMID.out; omega
          have hdd : decide ((i : Int) < (i : Int)) = false := by simp
          clear gu gv
          have hROT := rotate_calls g c (A ++ L1) L2 R1 (R2 ++ B) i m e len (lens_rot HA.out HM.out HB.out HMID.out HN.out HE.out HL.out K1.out K2.out K3.out K4.out (by omega) (by omega) (by omega) (by omega)) (by rw [List.length_append]; have := HA.out; have := K1.out; have := HM.out; have := HMID.out; omega) (by have := K2.out; omega) (by have := K3.out; have := HN.out; have := HE.out; omega) (by have := K2.out; omega) (by have := K3.out; omega) hl (.func (.func 42) #[] #[]) wr hOwn
          have HROT := Lib.hid hROT
          clear hROT
          have hei := HEI.out
          go_wp2_with fail
          clear hei f1 f1n f2 f2n hdd
          refine HROT.out.mono ?_
          rintro ex w1 ⟨⟨v1, rfl⟩, hO1, hK1⟩
          clear HROT
          have hO1' : Own EF 30 w1 (.slice (some ⟨g, 0, none⟩) len c) (A ++ (L1 ++ (R1 ++ (L2 ++ (R2 ++ B))))) := by
            have := hO1
            rw [List.append_assoc] at this
            exact this
          have hIH1 := IH g c A L1 R1 (L2 ++ (R2 ++ B)) a i mid len (by have := HNN.out; have := HA.out; have := HM.out; have := HB.out; have := HMID.out; have := K1.out; have := K3.out; omega) (lens_1 HA.out HM.out HB.out HMID.out HN.out HE.out HL.out K1.out K2.out K3.out K4.out (by omega) (by omega) (by omega) (by omega)) HA.out (by have := K1.out; omega) (by have := K3.out; omega) (by have := K1.out; omega) (by have := K3.out; omega) rL1 rR1 hl w1 hO1'
          have HIH1 := Lib.hid hIH1
          clear hIH1
          go_wp2_with fail
          refine HIH1.out.mono ?_
          rintro ex w2 ⟨⟨v2, rfl⟩, hO2, hK2⟩
          clear HIH1
          have hO3 : Own EF 30 w2 (.slice (some ⟨g, 0, none⟩) len c) ((A ++ sortK File.path (L1 ++ R1)) ++ (sortK File.path (L2 ++ R2) ++ B)) := by
            have := hO2
            rw [sortK_rise_self File.path (L2 ++ R2) (by rw [zR2, List.append_nil]; exact rL2)]
            simpa using this
          have hK3 : Kp (fun k => k ≠ g) w2 w2 := Kp.refl _ _
          go_wp2_with fail
          refine bodyPost_end (results_none rfl _ _ _) rfl ⟨⟨_, rfl⟩, ?_, ((hKp0.trans hK1).trans hK2).trans hK3⟩
          rw [HS.out]
          exact hO3
        · have f1 : decide ((i : Int) < (m : Int)) = true := decide_eq_true (by omega)
          have f1n : decide (i < m) = true := decide_eq_true (by omega)
          have f2 : decide ((m : Int) < (e : Int)) = true := decide_eq_true (by omega)
          have f2n : decide (m < e) = true := decide_eq_true (by omega)
          have f3 : decide ((a : Int) < (i : Int)) = true := decide_eq_true (by omega)
          have f3n : decide (a < i) = true := decide_eq_true (by omega)
          have f4 : decide ((i : Int) < (mid : Int)) = true := decide_eq_true (by omega)
          have f4n : decide (i < mid) = true := decide_eq_true (by omega)
          have f5 : decide ((mid : Int) < (e : Int)) = true := decide_eq_true (by omega)
          have f5n : decide (mid < e) = true := decide_eq_true (by omega)
          have f6 : decide ((e : Int) < (b : Int)) = true := decide_eq_true (by omega)
          have f6n : decide (e < b) = true := decide_eq_true (by omega)
          have hKp0 := hKp
          have p1 : a < i := by omega
          have p2 : i < m := by omega
          have p3 : i < mid := by omega
          have p4 : m < e := by omega
          have p5 : e < b := by omega
          have p6 : mid < e := by omega
          clear ha hm hb hmid hn hlen hN hU hV hsort hsort' k1 k2 k3 k4 k4' he hei eL eR hL1 hL2' hR1 hR2' hLL hRR hrow hL hR hlt hi hj F1 F2 F3 F4 F5 hij hL2 hR2 hsz1 hsz2 hsz3 hsz4 hsz5 hd hd'
          have hbl : b ≤ 1000000 := by have := HL.out; have := HA.out; have := HM.out; have := HB.out; omega
          have hml : m ≤ 1000000 := by have := HL.out; have := HA.out; have := HM.out; have := HB.out; omega
          have hdl : mid ≤ 1000000 := by have := HMID.out; omega
          have hdd : decide ((i : Int) < (i : Int)) = false := by simp
          clear gu gv
          have hROT := rotate_calls g c (A ++ L1) L2 R1 (R2 ++ B) i m e len (lens_rot HA.out HM.out HB.out HMID.out HN.out HE.out HL.out K1.out K2.out K3.out K4.out (by omega) (by omega) (by omega) (by omega)) (by rw [List.length_append]; have := HA.out; have := K1.out; have := HM.out; have := HMID.out; omega) (by have := K2.out; omega) (by have := K3.out; have := HN.out; have := HE.out; omega) (by have := K2.out; omega) (by have := K3.out; omega) hl (.func (.func 42) #[] #[]) wr hOwn
          have HROT := Lib.hid hROT
          clear hROT
          have hei := HEI.out
          go_wp2_with fail
          clear hei f1 f1n f2 f2n hdd
          refine HROT.out.mono ?_
          rintro ex w1 ⟨⟨v1, rfl⟩, hO1, hK1⟩
          clear HROT
          have hO1' : Own EF 30 w1 (.slice (some ⟨g, 0, none⟩) len c) (A ++ (L1 ++ (R1 ++ (L2 ++ (R2 ++ B))))) := by
            have := hO1
            rw [List.append_assoc] at this
            exact this
          have hIH1 := IH g c A L1 R1 (L2 ++ (R2 ++ B)) a i mid len (by have := HNN.out; have := HA.out; have := HM.out; have := HB.out; have := HMID.out; have := K1.out; have := K3.out; omega) (lens_1 HA.out HM.out HB.out HMID.out HN.out HE.out HL.out K1.out K2.out K3.out K4.out (by omega) (by omega) (by omega) (by omega)) HA.out (by have := K1.out; omega) (by have := K3.out; omega) (by have := K1.out; omega) (by have := K3.out; omega) rL1 rR1 hl w1 hO1'
          have HIH1 := Lib.hid hIH1
          clear hIH1
          go_wp2_with fail
          refine HIH1.out.mono ?_
          rintro ex w2 ⟨⟨v2, rfl⟩, hO2, hK2⟩
          clear HIH1
          have hO2' : Own EF 30 w2 (.slice (some ⟨g, 0, none⟩) len c) ((A ++ sortK File.path (L1 ++ R1)) ++ (L2 ++ (R2 ++ B))) := by
            have := hO2
            rw [← List.append_assoc] at this
            exact this
          have hIH2 := IH g c (A ++ sortK File.path (L1 ++ R1)) L2 R2 B mid e b len (by have := HNN.out; have := HA.out; have := HM.out; have := HB.out; have := HMID.out; have := K2.out; have := K4.out; have := HN.out; have := HE.out; omega) (lens_2 HA.out HM.out HB.out HMID.out HN.out HE.out HL.out K1.out K2.out K3.out K4.out (by omega) (by omega) (by omega) (by omega)) (by rw [List.length_append, sortK_length, List.length_append]; have := HA.out; have := K1.out; have := K3.out; omega) (by have := K2.out; have := HN.out; have := HE.out; omega) (by have := K4.out; omega) (by have := K2.out; omega) (by have := K4.out; omega) rL2 rR2 hl w2 hO2'
          have HIH2 := Lib.hid hIH2
          clear hIH2
          go_wp2_with fail
          refine HIH2.out.mono ?_
          rintro ex w3 ⟨⟨v3, rfl⟩, hO3, hK3⟩
          clear HIH2
          go_wp2_with fail
          refine bodyPost_end (results_none rfl _ _ _) rfl ⟨⟨_, rfl⟩, ?_, ((hKp0.trans hK1).trans hK2).trans hK3⟩
          rw [HS.out]
          exact hO3


set_option maxHeartbeats 2000000 in
set_option maxRecDepth 100000 in
theorem symNear (N : Nat) (IH : SymP N) (g c : Nat) (A L R B : List File) (a m b mid n p s0 r0 : Nat) (len : Nat) (hN : L.length + R.length ≤ N + 1) (hlen : A.length + L.length + R.length + B.length = len) (ha : A.length = a) (hm : a + L.length = m) (hb : m + R.length = b) (hL2 : 2 ≤ L.length) (hR2 : 2 ≤ R.length) (hL : RiseK File.path L) (hR : RiseK File.path R) (hl : len ≤ 1000000)
    (hmid : (a + b) / 2 = mid) (hn : mid + m = n) (hp : n - 1 = p) (hc : ¬ mid < m) (hs0 : s0 = a) (hr0 : r0 = m) (F1 : a ≤ s0) (F2 : s0 ≤ r0) (F3 : r0 ≤ m) (F4 : r0 ≤ mid) (F5 : n ≤ s0 + b) (F6 : s0 = a ∨ n = s0 + b) (F7 : r0 = m ∨ r0 = mid) (w : World)
    (h : Own EF 30 w (.slice (some ⟨g, 0, none⟩) len c) (A ++ (L ++ (R ++ B)))) :
    Calls Tryd.prog 77 #[.slice (some ⟨g, 0, none⟩) len c, .int .i64 a, .int .i64 m, .int .i64 b, .func (.func 42) #[] #[]] w fun e w' => (∃ v, e = .returned v) ∧
      Own EF 30 w' (.slice (some ⟨g, 0, none⟩) len c) (A ++ (sortK File.path (L ++ R) ++ B)) ∧ Kp (fun k => k ≠ g) w w' := by
  go_enter Tryd.func77, Tryd.ntmps77
  have hw1 : (m : Int) - (a : Int) = (L.length : Int) := by omega
  have hw2 : (b : Int) - (m : Int) = (R.length : Int) := by omega
  have hw3 : ((L.length : Int) == 1) = false := by rw [beq_eq_false_iff_ne]; omega
  have hw4 : (L.length == 1) = false := by rw [beq_eq_false_iff_ne]; omega
  have hw5 : ((R.length : Int) == 1) = false := by rw [beq_eq_false_iff_ne]; omega
  have hw6 : (R.length == 1) = false := by rw [beq_eq_false_iff_ne]; omega
  have hw7 : (mid : Int) + (m : Int) = (n : Int) := by omega
  have hw8 : (n : Int) - 1 = (p : Int) := by omega
  have hsz1 : n ≤ 2000000 := by omega
  have hsz2 : b ≤ 1000000 := by omega
  have hsz3 : a ≤ m := by omega
  have hsz4 : m ≤ b := by omega
  have hsz5 : 1 ≤ n := by omega
  have HA := Lib.hid ha
  have HM := Lib.hid hm
  have HB := Lib.hid hb
  have HL := Lib.hid hlen
  have HMID := Lib.hid hmid
  have HN := Lib.hid hn
  have HP := Lib.hid hp
  have HNN := Lib.hid hN
  have HF6 := Lib.hid F6
  have HF7 := Lib.hid F7
  have d1 : decide ((mid : Int) < (m : Int)) = false := decide_eq_false (by omega)
  have d2 : decide (mid < m) = false := decide_eq_false (by omega)
  have e1 : Value.int .i64 (a : Int) = .int .i64 (s0 : Int) := by rw [hs0]
  have e2 : Value.int .i64 (m : Int) = .int .i64 (r0 : Int) := by rw [hr0]
  have HE1 := Lib.hid e1
  have HE2 := Lib.hid e2
  have s3 : ((a : Int) + (b : Int)) / 2 = (mid : Int) := by omega
  clear ha hm hb hlen hn hp hN F6 F7 hs0 hr0 e1 e2 hmid hc
  go_wp2_with fail
  clear s3 hw1 hw2 hw3 hw4 hw5 hw6 hw7 hw8 d1 d2
  go_loopw [20, 21] (fun u v wr => ∃ i j : Nat, s0 ≤ i ∧ i ≤ j ∧ j ≤ r0 ∧ u = .int .i64 (i : Int) ∧ v = .int .i64 (j : Int) ∧ (i = s0 ∨ ∃ x y, L[i - 1 - a]? = some x ∧ R[n - i - m]? = some y ∧ ltB y.path x.path = false) ∧ (j = r0 ∨ ∃ x y, L[j - a]? = some x ∧ R[n - 1 - j - m]? = some y ∧ ltB y.path x.path = true) ∧ Own EF 30 wr (.slice (some ⟨g, 0, none⟩) len c) (A ++ (L ++ (R ++ B))) ∧ Kp (fun j => j ≠ g) w wr) (fun u v _ => (intOf v).toNat - (intOf u).toNat)
  case atStart => exact ⟨s0, r0, Nat.le_refl _, F2, Nat.le_refl _, by first | exact HE1.out | trivial, by first | exact HE2.out | trivial, by first | exact .inl rfl | trivial, by first | exact .inl rfl | trivial, h, Kp.refl _ _⟩
  case round =>
    obtain ⟨i, j, hi, hij, hj, rfl, rfl, h1, h2, hOwn, hKp⟩ := hrel
    rename_i wr
    have H1 := Lib.hid h1
    have H2 := Lib.hid h2
    clear h1 h2 h
    by_cases hlt : i < j
    · have hd : decide ((i : Int) < (j : Int)) = true := decide_eq_true (by omega)
      have hd' : decide (i < j) = true := decide_eq_true (by omega)
      have hil : i ≤ 1000000 := by omega
      have hjl : j ≤ 1000000 := by omega
      obtain ⟨k, hk⟩ : ∃ k, (i + j) / 2 = k := ⟨_, rfl⟩
      have s3 : ((i : Int) + (j : Int)) / 2 = (k : Int) := by omega
      have hki : i ≤ k := by omega
      have hkj : k < j := by omega
      have ha := HA.out
      have hm := HM.out
      have hb := HB.out
      have hn := HN.out
      have hp := HP.out
      obtain ⟨q, hq⟩ : ∃ q, p - k = q := ⟨_, rfl⟩
      obtain ⟨x, hx⟩ : ∃ x, L[k - a]? = some x := ⟨_, List.getElem?_eq_getElem (by omega)⟩
      obtain ⟨y, hy⟩ : ∃ y, R[q - m]? = some y := ⟨_, List.getElem?_eq_getElem (by omega)⟩
      have hgx : (A ++ (L ++ (R ++ B)))[k]? = some x := by rw [List.getElem?_append_right (by omega), ha, List.getElem?_append_left (by omega), hx]
      have hgy : (A ++ (L ++ (R ++ B)))[q]? = some y := by
        rw [List.getElem?_append_right (by omega), ha, List.getElem?_append_right (by omega), show q - a - L.length = q - m by omega, List.getElem?_append_left (by omega), hy]
      obtain ⟨cx0, cx1⟩ := hOwn.file hgx
      obtain ⟨cy0, cy1⟩ := hOwn.file hgy
      have hlen := HL.out
      have ix0 : (0 : Int) ≤ (k : Int) := by omega
      have ix1 : (k : Int) < (len : Int) := by omega
      have iy0 : (0 : Int) ≤ (q : Int) := by omega
      have iy1 : (q : Int) < (len : Int) := by omega
      have hyq : R[n - 1 - k - m]? = some y := by rw [show n - 1 - k - m = q - m by omega]; exact hy
      have HX := Lib.hid hx
      have HY := Lib.hid hyq
      have hpl : p ≤ 2000000 := by omega
      have hkl : k ≤ 1000000 := by omega
      have hwr : IntKind.i64.wrap ((p : Int) - (k : Int)) = (q : Int) := by rw [IntWalk.i64_in _ (by omega)]; omega
      have HWR := Lib.hid hwr
      have hsb : s0 ≤ 1000000 := by omega
      have G1 := Lib.hid (And.intro hi hj)
      clear hwr hk ha hm hb hn hp hq hx hy hgx hgy hlen hyq
      clear F1 F2 F3 F4 F5 hi hj hij hsz1 hsz2 hsz3 hsz4 hsz5 hlt hL2 hR2 hsb
      go_wp2_with fail
      have hwr := HWR.out
      skip
      go_still_tail 11, (by kernel_rfl)
      clear hwr HWR
      clear s3 ix0 ix1 iy0 iy1 hpl hil hjl hd hd' cx0 cx1 cy0 cy1
      skip
      go_wp2_with (go_at_call 42; refine stop ?_)
      refine (put1_calls y x _).mono ?_
      rintro e W5 ⟨rfl, hW5⟩
      have hK5 : Ext wr W5 := by rw [← hW5]; exact (((Kp.refl _ wr).drew.alloc _).alloc _)
      clear hW5
      have hO5 := hOwn.kp hK5 (fun _ _ => trivial)
      have G2 := G1.out
      have hL5 := HL.out
      cases hxy : ltB y.path x.path with
      | false =>
        have hcm : decide (cmpB y.path x.path < 0) = false := by rw [decide_eq_false_iff_not, cmpB_neg, hxy]; simp
        clear hL5
        go_wp2_with fail
        refine ⟨⟨k + 1, j, by omega, by omega, G2.2, by go_num, rfl, .inr ⟨x, y, ?_, ?_, hxy⟩, H2.out, hO5, hKp.trans (Kp.of_ext hK5)⟩, ?_⟩
        · exact HX.out
        · rw [show n - (k + 1) - m = n - 1 - k - m by omega]; exact HY.out
        · simp [intOf]; omega
      | true =>
        have hcm : decide (cmpB y.path x.path < 0) = true := by rw [decide_eq_true_iff, cmpB_neg, hxy]
        clear hL5
        go_wp2_with fail
        exact ⟨⟨i, k, G2.1, hki, by omega, rfl, rfl, H1.out, .inr ⟨x, y, HX.out, HY.out, hxy⟩, hO5, hKp.trans (Kp.of_ext hK5)⟩, by simp [intOf]; omega⟩
    · have hd : decide ((i : Int) < (j : Int)) = false := decide_eq_false (by omega)
      have hd' : decide (i < j) = false := decide_eq_false (by omega)
      have hij2 : i = j := by omega
      subst hij2
      have ha := HA.out
      have hm := HM.out
      have hb := HB.out
      have hmid := HMID.out
      have hn := HN.out
      have hlen := HL.out
      have hN := HNN.out
      have hU : i - a ≤ L.length := by omega
      have hV : mid - i ≤ R.length := by omega
      have hsort := parted L R hL hR (i - a) (mid - i) hU hV (by
          rcases H1.out with h1 | ⟨x, y, hx, hy, hlt⟩
          · rcases HF6.out with h6 | h6
            · exact .inl (by omega)
            · exact .inr (.inl (by omega))
          · by_cases h0 : i - a = 0
            · exact .inl h0
            · exact .inr (.inr ⟨x, y, by rw [show i - a - 1 = i - 1 - a by omega]; exact hx, by rw [show mid - i = n - i - m by omega]; exact hy, hlt⟩)) (by
          rcases H2.out with h2 | ⟨x, y, hx, hy, hlt⟩
          · rcases HF7.out with h7 | h7
            · exact .inl (by omega)
            · exact .inr (.inl (by omega))
          · by_cases h0 : mid - i = 0
            · exact .inr (.inl h0)
            · exact .inr (.inr ⟨x, y, hx, by rw [show mid - i - 1 = n - 1 - i - m by omega]; exact hy, hlt⟩))
      obtain ⟨L1, hL1⟩ : ∃ L1, L.take (i - a) = L1 := ⟨_, rfl⟩
      obtain ⟨L2, hL2'⟩ : ∃ L2, L.drop (i - a) = L2 := ⟨_, rfl⟩
      obtain ⟨R1, hR1⟩ : ∃ R1, R.take (mid - i) = R1 := ⟨_, rfl⟩
      obtain ⟨R2, hR2'⟩ : ∃ R2, R.drop (mid - i) = R2 := ⟨_, rfl⟩
      have k1 : L1.length = i - a := by rw [← hL1, List.length_take]; omega
      have k2 : L2.length = m - i := by rw [← hL2', List.length_drop]; omega
      have k3 : R1.length = mid - i := by rw [← hR1, List.length_take]; omega
      have k4 : R2.length = n - i - mid - (m - i) + (b - (n - i)) := by rw [← hR2', List.length_drop]; omega
      have eL : L = L1 ++ L2 := by rw [← hL1, ← hL2', List.take_append_drop]
      have eR : R = R1 ++ R2 := by rw [← hR1, ← hR2', List.take_append_drop]
      rw [hL1, hL2', hR1, hR2'] at hsort
      have hLL := hL
      have hRR := hR
      rw [eL] at hLL
      rw [eR] at hRR
      have rL1 : RiseK File.path L1 := (List.pairwise_append.1 hLL).1
      have rL2 : RiseK File.path L2 := (List.pairwise_append.1 hLL).2.1
      have rR1 : RiseK File.path R1 := (List.pairwise_append.1 hRR).1
      have rR2 : RiseK File.path R2 := (List.pairwise_append.1 hRR).2.1
      have hrow : A ++ (L ++ (R ++ B)) = (A ++ L1) ++ (L2 ++ (R1 ++ (R2 ++ B))) := by rw [eL, eR]; simp
      rw [hrow] at hOwn
      obtain ⟨e, he⟩ : ∃ e, n - i = e := ⟨_, rfl⟩
      have hei : (n : Int) - (i : Int) = (e : Int) := by omega
      rw [he] at k4
      have k4' : R2.length = b - e := by omega
      have hel : e ≤ 1000000 := by omega
      have hsort' := sort_to A B hsort
      have HS := Lib.hid hsort'
      have K1 := Lib.hid k1
      have K2 := Lib.hid k2
      have K3 := Lib.hid k3
      have K4 := Lib.hid k4'
      have HE := Lib.hid he
      have HEI := Lib.hid hei
      have hil : i ≤ 1000000 := by omega
      have hnl : n ≤ 2000000 := by omega
      have q1 : a ≤ i := by omega
      have q2 : i ≤ m := by omega
      have q3 : i ≤ mid := by omega
      have q4 : e ≤ b := by omega
      have q5 : m ≤ e := by omega
      have q6 : mid ≤ e := by omega
      have q7 : a < mid := by omega
      have q8 : mid < b := by omega
      have g0 : i = a ∨ (a < i ∧ i = m) ∨ (a < i ∧ i < m) := by omega
      have g1 : i = mid ∨ (i < mid ∧ e = b) ∨ (i < mid ∧ e < b) := by omega
      rcases g0 with gu | gu | gu
      · rcases g1 with gv | gv | gv
        · omega
        · have f1 : decide ((i : Int) < (m : Int)) = true := decide_eq_true (by omega)
          have f1n : decide (i < m) = true := decide_eq_true (by omega)
          have f2 : decide ((m : Int) < (e : Int)) = true := decide_eq_true (by omega)
          have f2n : decide (m < e) = true := decide_eq_true (by omega)
          have f3 : decide ((a : Int) < (i : Int)) = false := decide_eq_false (by omega)
          have f3n : decide (a < i) = false := decide_eq_false (by omega)
          have f4 : decide ((i : Int) < (mid : Int)) = true := decide_eq_true (by omega)
          have f4n : decide (i < mid) = true := decide_eq_true (by omega)
          have f5 : decide ((mid : Int) < (e : Int)) = true := decide_eq_true (by omega)
          have f5n : decide (mid < e) = true := decide_eq_true (by omega)
          have f6 : decide ((e : Int) < (b : Int)) = false := decide_eq_false (by omega)
          have f6n : decide (e < b) = false := decide_eq_false (by omega)
          have zL1 : L1 = [] := List.eq_nil_of_length_eq_zero (by omega)
          have zR2 : R2 = [] := List.eq_nil_of_length_eq_zero (by omega)
          have hKp0 := hKp
          have p2 : i < m := by omega
          have p3 : i < mid := by omega
          have p4 : m < e := by omega
          have p6 : mid < e := by omega
          clear ha hm hb hmid hn hlen hN hU hV hsort hsort' k1 k2 k3 k4 k4' he hei eL eR hL1 hL2' hR1 hR2' hLL hRR hrow hL hR hlt hi hj F1 F2 F3 F4 F5 hij hL2 hR2 hsz1 hsz2 hsz3 hsz4 hsz5 hd hd'
          have hbl : b ≤ 1000000 := by have := HL.out; have := HA.out; have := HM.out; have := HB.out; omega
          have hml : m ≤ 1000000 := by have := HL.out; have := HA.out; have := HM.out; have := HB.out; omega
          have hdl : mid ≤ 1000000 := by have := HMID.out; omega
          have hdd : decide ((i : Int) < (i : Int)) = false := by simp
          clear gu gv
          have hROT := rotate_calls g c (A ++ L1) L2 R1 (R2 ++ B) i m e len (lens_rot HA.out HM.out HB.out HMID.out HN.out HE.out HL.out K1.out K2.out K3.out K4.out (by omega) (by omega) (by omega) (by omega)) (by rw [List.length_append]; have := HA.out; have := K1.out; have := HM.out; have := HMID.out; omega) (by have := K2.out; omega) (by have := K3.out; have := HN.out; have := HE.out; omega) (by have := K2.out; omega) (by have := K3.out; omega) hl (.func (.func 42) #[] #[]) wr hOwn
          have HROT := Lib.hid hROT
          clear hROT
          have hei := HEI.out
          go_wp2_with fail
          clear hei f1 f1n f2 f2n hdd
          refine HROT.out.mono ?_
          rintro ex w1 ⟨⟨v1, rfl⟩, hO1, hK1⟩
          clear HROT
          have hO2 : Own EF 30 w1 (.slice (some ⟨g, 0, none⟩) len c) (A ++ (sortK File.path (L1 ++ R1) ++ (L2 ++ (R2 ++ B)))) := by
            have := hO1
            rw [sortK_rise_self File.path (L1 ++ R1) (by rw [zL1]; exact rR1)]
            simpa using this
          have hK2 : Kp (fun k => k ≠ g) w1 w1 := Kp.refl _ _
          have hO3 : Own EF 30 w1 (.slice (some ⟨g, 0, none⟩) len c) ((A ++ sortK File.path (L1 ++ R1)) ++ (sortK File.path (L2 ++ R2) ++ B)) := by
            have := hO2
            rw [sortK_rise_self File.path (L2 ++ R2) (by rw [zR2, List.append_nil]; exact rL2)]
            simpa using this
          have hK3 : Kp (fun k => k ≠ g) w1 w1 := Kp.refl _ _
          go_wp2_with fail
          refine bodyPost_end (results_none rfl _ _ _) rfl ⟨⟨_, rfl⟩, ?_, ((hKp0.trans hK1).trans hK2).trans hK3⟩
          rw [HS.out]
          exact hO3
        · have f1 : decide ((i : Int) < (m : Int)) = true := decide_eq_true (by omega)
          have f1n : decide (i < m) = true := decide_eq_true (by omega)
          have f2 : decide ((m : Int) < (e : Int)) = true := decide_eq_true (by omega)
          have f2n : decide (m < e) = true := decide_eq_true (by omega)
          have f3 : decide ((a : Int) < (i : Int)) = false := decide_eq_false (by omega)
          have f3n : decide (a < i) = false := decide_eq_false (by omega)
          have f4 : decide ((i : Int) < (mid : Int)) = true := decide_eq_true (by omega)
          have f4n : decide (i < mid) = true := decide_eq_true (by omega)
          have f5 : decide ((mid : Int) < (e : Int)) = true := decide_eq_true (by omega)
          have f5n : decide (mid < e) = true := decide_eq_true (by omega)
          have f6 : decide ((e : Int) < (b : Int)) = true := decide_eq_true (by omega)
          have f6n : decide (e < b) = true := decide_eq_true (by omega)
          have zL1 : L1 = [] := List.eq_nil_of_length_eq_zero (by omega)
          have hKp0 := hKp
          have p2 : i < m := by omega
          have p3 : i < mid := by omega
          have p4 : m < e := by omega
          have p5 : e < b := by omega
          have p6 : mid < e := by omega
          clear ha hm hb hmid hn hlen hN hU hV hsort hsort' k1 k2 k3 k4 k4' he hei eL eR hL1 hL2' hR1 hR2' hLL hRR hrow hL hR hlt hi hj F1 F2 F3 F4 F5 hij hL2 hR2 hsz1 hsz2 hsz3 hsz4 hsz5 hd hd'
          have hbl : b ≤ 1000000 := by have := HL.out; have := HA.out; have := HM.out; have := HB.out; omega
          have hml : m ≤ 1000000 := by have := HL.out; have := HA.out; have := HM.out; have := HB.out; omega
          have hdl : mid ≤ 1000000 := by have := HMID.out; omega
          have hdd : decide ((i : Int) < (i : Int)) = false := by simp
          clear gu gv
          have hROT := rotate_calls g c (A ++ L1) L2 R1 (R2 ++ B) i m e len (lens_rot HA.out HM.out HB.out HMID.out HN.out HE.out HL.out K1.out K2.out K3.out K4.out (by omega) (by omega) (by omega) (by omega)) (by rw [List.length_append]; have := HA.out; have := K1.out; have := HM.out; have := HMID.out; omega) (by have := K2.out; omega) (by have := K3.out; have := HN.out; have := HE.out; omega) (by have := K2.out; omega) (by have := K3.out; omega) hl (.func (.func 42) #[] #[]) wr hOwn
          have HROT := Lib.hid hROT
          clear hROT
          have hei := HEI.out
          go_wp2_with fail
          clear hei f1 f1n f2 f2n hdd
          refine HROT.out.mono ?_
          rintro ex w1 ⟨⟨v1, rfl⟩, hO1, hK1⟩
          clear HROT
          have hO2 : Own EF 30 w1 (.slice (some ⟨g, 0, none⟩) len c) (A ++ (sortK File.path (L1 ++ R1) ++ (L2 ++ (R2 ++ B)))) := by
            have := hO1
            rw [sortK_rise_self File.path (L1 ++ R1) (by rw [zL1]; exact rR1)]
            simpa using this
          have hK2 : Kp (fun k => k ≠ g) w1 w1 := Kp.refl _ _
          have hO2' : Own EF 30 w1 (.slice (some ⟨g, 0, none⟩) len c) ((A ++ sortK File.path (L1 ++ R1)) ++ (L2 ++ (R2 ++ B))) := by
            have := hO2
            rw [← List.append_assoc] at this
            exact this
          have hIH2 := IH g c (A ++ sortK File.path (L1 ++ R1)) L2 R2 B mid e b len (by have := HNN.out; have := HA.out; have := HM.out; have := HB.out; have := HMID.out; have := K2.out; have := K4.out; have := HN.out; have := HE.out; omega) (lens_2 HA.out HM.out HB.out HMID.out HN.out HE.out HL.out K1.out K2.out K3.out K4.out (by omega) (by omega) (by omega) (by omega)) (by rw [List.length_append, sortK_length, List.length_append]; have := HA.out; have := K1.out; have := K3.out; omega) (by have := K2.out; have := HN.out; have := HE.out; omega) (by have := K4.out; omega) (by have := K2.out; omega) (by have := K4.out; omega) rL2 rR2 hl w1 hO2'
          have HIH2 := Lib.hid hIH2
          clear hIH2
          go_wp2_with fail
          refine HIH2.out.mono ?_
          rintro ex w3 ⟨⟨v3, rfl⟩, hO3, hK3⟩
          clear HIH2
          go_wp2_with fail
          refine bodyPost_end (results_none rfl _ _ _) rfl ⟨⟨_, rfl⟩, ?_, ((hKp0.trans hK1).trans hK2).trans hK3⟩
          rw [HS.out]
          exact hO3
      · rcases g1 with gv | gv | gv
        · have f1 : decide ((i : Int) < (m : Int)) = false := decide_eq_false (by omega)
          have f1n : decide (i < m) = false := decide_eq_false (by omega)
          have f2 : decide ((m : Int) < (e : Int)) = false := decide_eq_false (by omega)
          have f2n : decide (m < e) = false := decide_eq_false (by omega)
          have f3 : decide ((a : Int) < (i : Int)) = true := decide_eq_true (by omega)
          have f3n : decide (a < i) = true := decide_eq_true (by omega)
          have f4 : decide ((i : Int) < (mid : Int)) = false := decide_eq_false (by omega)
          have f4n : decide (i < mid) = false := decide_eq_false (by omega)
          have f5 : decide ((mid : Int) < (e : Int)) = false := decide_eq_false (by omega)
          have f5n : decide (mid < e) = false := decide_eq_false (by omega)
          have f6 : decide ((e : Int) < (b : Int)) = true := decide_eq_true (by omega)
          have f6n : decide (e < b) = true := decide_eq_true (by omega)
          have zL2 : L2 = [] := List.eq_nil_of_length_eq_zero (by omega)
          have zR1 : R1 = [] := List.eq_nil_of_length_eq_zero (by omega)
          have hKp0 := hKp
          have p1 : a < i := by omega
          have p5 : e < b := by omega
          clear ha hm hb hmid hn hlen hN hU hV hsort hsort' k1 k2 k3 k4 k4' he hei eL eR hL1 hL2' hR1 hR2' hLL hRR hrow hL hR hlt hi hj F1 F2 F3 F4 F5 hij hL2 hR2 hsz1 hsz2 hsz3 hsz4 hsz5 hd hd'
          have hbl : b ≤ 1000000 := by have := HL.out; have := HA.out; have := HM.out; have := HB.out; omega
          have hml : m ≤ 1000000 := by have := HL.out; have := HA.out; have := HM.out; have := HB.out; omega
          have hdl : mid ≤ 1000000 := by have := HMID.out; omega
          have hdd : decide ((i : Int) < (i : Int)) = false := by simp
          clear gu gv
          have hei := HEI.out
          have hO1 : Own EF 30 wr (.slice (some ⟨g, 0, none⟩) len c) ((A ++ L1) ++ (R1 ++ (L2 ++ (R2 ++ B)))) := by
            have := hOwn
            rw [zL2, zR1] at this ⊢
            simpa using this
          have hK1 : Kp (fun k => k ≠ g) wr wr := Kp.refl _ _
          have hO2 : Own EF 30 wr (.slice (some ⟨g, 0, none⟩) len c) (A ++ (sortK File.path (L1 ++ R1) ++ (L2 ++ (R2 ++ B)))) := by
            have := hO1
            rw [sortK_rise_self File.path (L1 ++ R1) (by rw [zR1, List.append_nil]; exact rL1)]
            simpa using this
          have hK2 : Kp (fun k => k ≠ g) wr wr := Kp.refl _ _
          have hO3 : Own EF 30 wr (.slice (some ⟨g, 0, none⟩) len c) ((A ++ sortK File.path (L1 ++ R1)) ++ (sortK File.path (L2 ++ R2) ++ B)) := by
            have := hO2
            rw [sortK_rise_self File.path (L2 ++ R2) (by rw [zL2]; exact rR2)]
            simpa using this
          have hK3 : Kp (fun k => k ≠ g) wr wr := Kp.refl _ _
          go_wp2_with fail
          refine bodyPost_end (results_none rfl _ _ _) rfl ⟨⟨_, rfl⟩, ?_, ((hKp0.trans hK1).trans hK2).trans hK3⟩
          rw [HS.out]
          exact hO3
        · omega
        · have f1 : decide ((i : Int) < (m : Int)) = false := decide_eq_false (by omega)
          have f1n : decide (i < m) = false := decide_eq_false (by omega)
          have f2 : decide ((m : Int) < (e : Int)) = true := decide_eq_true (by omega)
          have f2n : decide (m < e) = true := decide_eq_true (by omega)
          have f3 : decide ((a : Int) < (i : Int)) = true := decide_eq_true (by omega)
          have f3n : decide (a < i) = true := decide_eq_true (by omega)
          have f4 : decide ((i : Int) < (mid : Int)) = true := decide_eq_true (by omega)
          have f4n : decide (i < mid) = true := decide_eq_true (by omega)
          have f5 : decide ((mid : Int) < (e : Int)) = false := decide_eq_false (by omega)
          have f5n : decide (mid < e) = false := decide_eq_false (by omega)
          have f6 : decide ((e : Int) < (b : Int)) = true := decide_eq_true (by omega)
          have f6n : decide (e < b) = true := decide_eq_true (by omega)
          have zL2 : L2 = [] := List.eq_nil_of_length_eq_zero (by omega)
          have hKp0 := hKp
          have p1 : a < i := by omega
          have p3 : i < mid := by omega
          have p4 : m < e := by omega
          have p5 : e < b := by omega
          clear ha hm hb hmid hn hlen hN hU hV hsort hsort' k1 k2 k3 k4 k4' he hei eL eR hL1 hL2' hR1 hR2' hLL hRR hrow hL hR hlt hi hj F1 F2 F3 F4 F5 hij hL2 hR2 hsz1 hsz2 hsz3 hsz4 hsz5 hd hd'
          have hbl : b ≤ 1000000 := by have := HL.out; have := HA.out; have := HM.out; have := HB.out; omega
          have hml : m ≤ 1000000 := by have := HL.out; have := HA.out; have := HM.out; have := HB.out; omega
          have hdl : mid ≤ 1000000 := by have := HMID.out; omega
          have hdd : decide ((i : Int) < (i : Int)) = false := by simp
          clear gu gv
          have hei := HEI.out
          have hO1 : Own EF 30 wr (.slice (some ⟨g, 0, none⟩) len c) ((A ++ L1) ++ (R1 ++ (L2 ++ (R2 ++ B)))) := by
            have := hOwn
            rw [zL2] at this ⊢
            simpa using this
          have hK1 : Kp (fun k => k ≠ g) wr wr := Kp.refl _ _
          have hO1' : Own EF 30 wr (.slice (some ⟨g, 0, none⟩) len c) (A ++ (L1 ++ (R1 ++ (L2 ++ (R2 ++ B))))) := by
            have := hO1
            rw [List.append_assoc] at this
            exact this
          have hIH1 := IH g c A L1 R1 (L2 ++ (R2 ++ B)) a i mid len (by have := HNN.out; have := HA.out; have := HM.out; have := HB.out; have := HMID.out; have := K1.out; have := K3.out; omega) (lens_1 HA.out HM.out HB.out HMID.out HN.out HE.out HL.out K1.out K2.out K3.out K4.out (by omega) (by omega) (by omega) (by omega)) HA.out (by have := K1.out; omega) (by have := K3.out; omega) (by have := K1.out; omega) (by have := K3.out; omega) rL1 rR1 hl wr hO1'
          have HIH1 := Lib.hid hIH1
          clear hIH1
          go_wp2_with fail
          refine HIH1.out.mono ?_
          rintro ex w2 ⟨⟨v2, rfl⟩, hO2, hK2⟩
          clear HIH1
          have hO3 : Own EF 30 w2 (.slice (some ⟨g, 0, none⟩) len c) ((A ++ sortK File.path (L1 ++ R1)) ++ (sortK File.path (L2 ++ R2) ++ B)) := by
            have := hO2
            rw [sortK_rise_self File.path (L2 ++ R2) (by rw [zL2]; exact rR2)]
            simpa using this
          have hK3 : Kp (fun k => k ≠ g) w2 w2 := Kp.refl _ _
          go_wp2_with fail
          refine bodyPost_end (results_none rfl _ _ _) rfl ⟨⟨_, rfl⟩, ?_, ((hKp0.trans hK1).trans hK2).trans hK3⟩
          rw [HS.out]
          exact hO3
      · rcases g1 with gv | gv | gv
        · have f1 : decide ((i : Int) < (m : Int)) = true := decide_eq_true (by omega)
          have f1n : decide (i < m) = true := decide_eq_true (by omega)
          have f2 : decide ((m : Int) < (e : Int)) = false := decide_eq_false (by omega)
          have f2n : decide (m < e) = false := decide_eq_false (by omega)
          have f3 : decide ((a : Int) < (i : Int)) = true := decide_eq_true (by omega)
          have f3n : decide (a < i) = true := decide_eq_true (by omega)
          have f4 : decide ((i : Int) < (mid : Int)) = false := decide_eq_false (by omega)
          have f4n : decide (i < mid) = false := decide_eq_false (by omega)
          have f5 : decide ((mid : Int) < (e : Int)) = true := decide_eq_true (by omega)
          have f5n : decide (mid < e) = true := decide_eq_true (by omega)
          have f6 : decide ((e : Int) < (b : Int)) = true := decide_eq_true (by omega)
          have f6n : decide (e < b) = true := decide_eq_true (by omega)
          have zR1 : R1 = [] := List.eq_nil_of_length_eq_zero (by omega)
          have hKp0 := hKp
          have p1 : a < i := by omega
          have p2 : i < m := by omega
          have p5 : e < b := by omega
          have p6 : mid < e := by omega
          clear ha hm hb hmid hn hlen hN hU hV hsort hsort' k1 k2 k3 k4 k4' he hei eL eR hL1 hL2' hR1 hR2' hLL hRR hrow hL hR hlt hi hj F1 F2 F3 F4 F5 hij hL2 hR2 hsz1 hsz2 hsz3 hsz4 hsz5 hd hd'
          have hbl : b ≤ 1000000 := by have := HL.out; have := HA.out; have := HM.out; have := HB.out; omega
          have hml : m ≤ 1000000 := by have := HL.out; have := HA.out; have := HM.out; have := HB.out; omega
          have hdl : mid ≤ 1000000 := by have := HMID.out; omega
          have hdd : decide ((i : Int) < (i : Int)) = false := by simp
          clear gu gv
          have hei := HEI.out
          have hO1 : Own EF 30 wr (.slice (some ⟨g, 0, none⟩) len c) ((A ++ L1) ++ (R1 ++ (L2 ++ (R2 ++ B)))) := by
            have := hOwn
            rw [zR1] at this ⊢
            simpa using this
          have hK1 : Kp (fun k => k ≠ g) wr wr := Kp.refl _ _
          have hO2 : Own EF 30 wr (.slice (some ⟨g, 0, none⟩) len c) (A ++ (sortK File.path (L1 ++ R1) ++ (L2 ++ (R2 ++ B)))) := by
            have := hO1
            rw [sortK_rise_self File.path (L1 ++ R1) (by rw [zR1, List.append_nil]; exact rL1)]
            simpa using this
          have hK2 : Kp (fun k => k ≠ g) wr wr := Kp.refl _ _
          have hO2' : Own EF 30 wr (.slice (some ⟨g, 0, none⟩) len c) ((A ++ sortK File.path (L1 ++ R1)) ++ (L2 ++ (R2 ++ B))) := by
            have := hO2
            rw [← List.append_assoc] at this
            exact this
          have hIH2 := IH g c (A ++ sortK File.path (L1 ++ R1)) L2 R2 B mid e b len (by have := HNN.out; have := HA.out; have := HM.out; have := HB.out; have := HMID.out; have := K2.out; have := K4.out; have := HN.out; have := HE.out; omega) (lens_2 HA.out HM.out HB.out HMID.out HN.out HE.out HL.out K1.out K2.out K3.out K4.out (by omega) (by omega) (by omega) (by omega)) (by rw [List.length_append, sortK_length, List.length_append]; have := HA.out; have := K1.out; have := K3.out; omega) (by have := K2.out; have := HN.out; have := HE.out; omega) (by have := K4.out; omega) (by have := K2.out; omega) (by have := K4.out; omega) rL2 rR2 hl wr hO2'
          have HIH2 := Lib.hid hIH2
          clear hIH2
          go_wp2_with fail
          refine HIH2.out.mono ?_
          rintro ex w3 ⟨⟨v3, rfl⟩, hO3, hK3⟩
          clear HIH2
          go_wp2_with fail
          refine bodyPost_end (results_none rfl _ _ _) rfl ⟨⟨_, rfl⟩, ?_, ((hKp0.trans hK1).trans hK2).trans hK3⟩
          rw [HS.out]
          exact hO3
        · have f1 : decide ((i : Int) < (m : Int)) = true := decide_eq_true (by omega)
          have f1n : decide (i < m) = true := decide_eq_true (by omega)
          have f2 : decide ((m : Int) < (e : Int)) = true := decide_eq_true (by omega)
          have f2n : decide (m < e) = true := decide_eq_true (by omega)
          have f3 : decide ((a : Int) < (i : Int)) = true := decide_eq_true (by omega)
          have f3n : decide (a < i) = true := decide_eq_true (by omega)
          have f4 : decide ((i : Int) < (mid : Int)) = true := decide_eq_true (by omega)
          have f4n : decide (i < mid) = true := decide_eq_true (by omega)
          have f5 : decide ((mid : Int) < (e : Int)) = true := decide_eq_true (by omega)
          have f5n : decide (mid < e) = true := decide_eq_true (by omega)
          have f6 : decide ((e : Int) < (b : Int)) = false := decide_eq_false (by omega)
          have f6n : decide (e < b) = false := decide_eq_false (by omega)
          have zR2 : R2 = [] := List.eq_nil_of_length_eq_zero (by omega)
          have hKp0 := hKp
          have p1 : a < i := by omega
          have p2 : i < m := by omega
          have p3 : i < mid := by omega
          have p4 : m < e := by omega
          have p6 : mid < e := by omega
          clear ha hm hb hmid hn hlen hN hU hV hsort hsort' k1 k2 k3 k4 k4' he hei eL eR hL1 hL2' hR1 hR2' hLL hRR hrow hL hR hlt hi hj F1 F2 F3 F4 F5 hij hL2 hR2 hsz1 hsz2 hsz3 hsz4 hsz5 hd hd'
          have hbl : b ≤ 1000000 := by have := HL.out; have := HA.out; have := HM.out; have := HB.out; omega
          have hml : m ≤ 1000000 := by have := HL.out; have := HA.out; have := HM.out; have := HB.out; omega
          have hdl : mid ≤ 1000000 := by have := HMID.out; omega
          have hdd : decide ((i : Int) < (i : Int)) = false := by simp
          clear gu gv
          have hROT := rotate_calls g c (A ++ L1) L2 R1 (R2 ++ B) i m e len (lens_rot HA.out HM.out HB.out HMID.out HN.out HE.out HL.out K1.out K2.out K3.out K4.out (by omega) (by omega) (by omega) (by omega)) (by rw [List.length_append]; have := HA.out; have := K1.out; have := HM.out; have := HMID.out; omega) (by have := K2.out; omega) (by have := K3.out; have := HN.out; have := HE.out; omega) (by have := K2.out; omega) (by have := K3.out; omega) hl (.func (.func 42) #[] #[]) wr hOwn
          have HROT := Lib.hid hROT
          clear hROT
          have hei := HEI.out
          go_wp2_with fail
          clear hei f1 f1n f2 f2n hdd
          refine HROT.out.mono ?_
          rintro ex w1 ⟨⟨v1, rfl⟩, hO1, hK1⟩
          clear HROT
          have hO1' : Own EF 30 w1 (.slice (some ⟨g, 0, none⟩) len c) (A ++ (L1 ++ (R1 ++ (L2 ++ (R2 ++ B))))) := by
            have := hO1
            rw [List.append_assoc] at this
            exact this
          have hIH1 := IH g c A L1 R1 (L2 ++ (R2 ++ B)) a i mid len (by have := HNN.out; have := HA.out; have := HM.out; have := HB.out; have := HMID.out; have := K1.out; have := K3.out; omega) (lens_1 HA.out HM.out HB.out HMID.out HN.out HE.out HL.out K1.out K2.out K3.out K4.out (by omega) (by omega) (by omega) (by omega)) HA.out (by have := K1.out; omega) (by have := K3.out; omega) (by have := K1.out; omega) (by have := K3.out; omega) rL1 rR1 hl w1 hO1'
          have HIH1 := Lib.hid hIH1
          clear hIH1
          go_wp2_with fail
          refine HIH1.out.mono ?_
          rintro ex w2 ⟨⟨v2, rfl⟩, hO2, hK2⟩
          clear HIH1
          have hO3 : Own EF 30 w2 (.slice (some ⟨g, 0, none⟩) len c) ((A ++ sortK File.path (L1 ++ R1)) ++ (sortK File.path (L2 ++ R2) ++ B)) := by
            have := hO2
            rw [sortK_rise_self File.path (L2 ++ R2) (by rw [zR2, List.append_nil]; exact rL2)]
            simpa using this
          have hK3 : Kp (fun k => k ≠ g) w2 w2 := Kp.refl _ _
          go_wp2_with fail
          refine bodyPost_end (results_none rfl _ _ _) rfl ⟨⟨_, rfl⟩, ?_, ((hKp0.trans hK1).trans hK2).trans hK3⟩
          rw [HS.out]
          exact hO3
        · have f1 : decide ((i : Int) < (m : Int)) = true := decide_eq_true (by omega)
          have f1n : decide (i < m) = true := decide_eq_true (by omega)
          have f2 : decide ((m : Int) < (e : Int)) = true := decide_eq_true (by omega)
          have f2n : decide (m < e) = true := decide_eq_true (by omega)
          have f3 : decide ((a : Int) < (i : Int)) = true := decide_eq_true (by omega)
          have f3n : decide (a < i) = true := decide_eq_true (by omega)
          have f4 : decide ((i : Int) < (mid : Int)) = true := decide_eq_true (by omega)
          have f4n : decide (i < mid) = true := decide_eq_true (by omega)
          have f5 : decide ((mid : Int) < (e : Int)) = true := decide_eq_true (by omega)
          have f5n : decide (mid < e) = true := decide_eq_true (by omega)
          have f6 : decide ((e : Int) < (b : Int)) = true := decide_eq_true (by omega)
          have f6n : decide (e < b) = true := decide_eq_true (by omega)
          have hKp0 := hKp
          have p1 : a < i := by omega
          have p2 : i < m := by omega
          have p3 : i < mid := by omega
          have p4 : m < e := by omega
          have p5 : e < b := by omega
          have p6 : mid < e := by omega
          clear ha hm hb hmid hn hlen hN hU hV hsort hsort' k1 k2 k3 k4 k4' he hei eL eR hL1 hL2' hR1 hR2' hLL hRR hrow hL hR hlt hi hj F1 F2 F3 F4 F5 hij hL2 hR2 hsz1 hsz2 hsz3 hsz4 hsz5 hd hd'
          have hbl : b ≤ 1000000 := by have := HL.out; have := HA.out; have := HM.out; have := HB.out; omega
          have hml : m ≤ 1000000 := by have := HL.out; have := HA.out; have := HM.out; have := HB.out; omega
          have hdl : mid ≤ 1000000 := by have := HMID.out; omega
          have hdd : decide ((i : Int) < (i : Int)) = false := by simp
          clear gu gv
          have hROT := rotate_calls g c (A ++ L1) L2 R1 (R2 ++ B) i m e len (lens_rot HA.out HM.out HB.out HMID.out HN.out HE.out HL.out K1.out K2.out K3.out K4.out (by omega) (by omega) (by omega) (by omega)) (by rw [List.length_append]; have := HA.out; have := K1.out; have := HM.out; have := HMID.out; omega) (by have := K2.out; omega) (by have := K3.out; have := HN.out; have := HE.out; omega) (by have := K2.out; omega) (by have := K3.out; omega) hl (.func (.func 42) #[] #[]) wr hOwn
          have HROT := Lib.hid hROT
          clear hROT
          have hei := HEI.out
          go_wp2_with fail
          clear hei f1 f1n f2 f2n hdd
          refine HROT.out.mono ?_
          rintro ex w1 ⟨⟨v1, rfl⟩, hO1, hK1⟩
          clear HROT
          have hO1' : Own EF 30 w1 (.slice (some ⟨g, 0, none⟩) len c) (A ++ (L1 ++ (R1 ++ (L2 ++ (R2 ++ B))))) := by
            have := hO1
            rw [List.append_assoc] at this
            exact this
          have hIH1 := IH g c A L1 R1 (L2 ++ (R2 ++ B)) a i mid len (by have := HNN.out; have := HA.out; have := HM.out; have := HB.out; have := HMID.out; have := K1.out; have := K3.out; omega) (lens_1 HA.out HM.out HB.out HMID.out HN.out HE.out HL.out K1.out K2.out K3.out K4.out (by omega) (by omega) (by omega) (by omega)) HA.out (by have := K1.out; omega) (by have := K3.out; omega) (by have := K1.out; omega) (by have := K3.out; omega) rL1 rR1 hl w1 hO1'
          have HIH1 := Lib.hid hIH1
          clear hIH1
          go_wp2_with fail
          refine HIH1.out.mono ?_
          rintro ex w2 ⟨⟨v2, rfl⟩, hO2, hK2⟩
          clear HIH1
          have hO2' : Own EF 30 w2 (.slice (some ⟨g, 0, none⟩) len c) ((A ++ sortK File.path (L1 ++ R1)) ++ (L2 ++ (R2 ++ B))) := by
            have := hO2
            rw [← List.append_assoc] at this
            exact this
          have hIH2 := IH g c (A ++ sortK File.path (L1 ++ R1)) L2 R2 B mid e b len (by have := HNN.out; have := HA.out; have := HM.out; have := HB.out; have := HMID.out; have := K2.out; have := K4.out; have := HN.out; have := HE.out; omega) (lens_2 HA.out HM.out HB.out HMID.out HN.out HE.out HL.out K1.out K2.out K3.out K4.out (by omega) (by omega) (by omega) (by omega)) (by rw [List.length_append, sortK_length, List.length_append]; have := HA.out; have := K1.out; have := K3.out; omega) (by have := K2.out; have := HN.out; have := HE.out; omega) (by have := K4.out; omega) (by have := K2.out; omega) (by have := K4.out; omega) rL2 rR2 hl w2 hO2'
          have HIH2 := Lib.hid hIH2
          clear hIH2
          go_wp2_with fail
          refine HIH2.out.mono ?_
          rintro ex w3 ⟨⟨v3, rfl⟩, hO3, hK3⟩
          clear HIH2
          go_wp2_with fail
          refine bodyPost_end (results_none rfl _ _ _) rfl ⟨⟨_, rfl⟩, ?_, ((hKp0.trans hK1).trans hK2).trans hK3⟩
          rw [HS.out]
          exact hO3


theorem symMerge_all : ∀ N, SymP N := by
  intro N
  induction N with
  | zero => intro g c A L R B a m b len hN _ _ _ _ h0 _ _ _ _ w _; omega
  | succ N IH =>
    intro g c A L R B a m b len hN hlen ha hm hb hL0 hR0 hL hR hl w h
    by_cases hL1 : L.length = 1
    · obtain ⟨x, rfl⟩ := List.length_eq_one_iff.1 hL1
      exact symLeft_calls g c A R B x a m b len (by simpa using hlen) ha (by simpa using hm) hb hR hl w h
    · by_cases hR1 : R.length = 1
      · obtain ⟨y, rfl⟩ := List.length_eq_one_iff.1 hR1
        exact symRight_calls g c A L B y a m b len (by simpa using hlen) ha hm (by simpa using hb) (by omega) hL hl w h
      · by_cases hc : (a + b) / 2 < m
        · exact symFar N IH g c A L R B a m b _ _ _ _ _ len hN hlen ha hm hb (by omega) (by omega) hL hR hl rfl rfl rfl hc rfl rfl (by omega) (by omega) (by omega) (by omega) (by omega) (by omega) (by omega) w h
        · exact symNear N IH g c A L R B a m b _ _ _ _ _ len hN hlen ha hm hb (by omega) (by omega) hL hR hl rfl rfl rfl hc rfl rfl (by omega) (by omega) (by omega) (by omega) (by omega) (by omega) (by omega) w h

/-- slices.symMergeCmpFunc. -/
theorem symMerge_calls (g c : Nat) (A L R B : List File) (a m b : Nat) (len : Nat) (hlen : A.length + L.length + R.length + B.length = len) (ha : A.length = a) (hm : a + L.length = m) (hb : m + R.length = b) (hL0 : 0 < L.length) (hR0 : 0 < R.length) (hL : RiseK File.path L) (hR : RiseK File.path R) (hl : len ≤ 1000000) (w : World)
    (h : Own EF 30 w (.slice (some ⟨g, 0, none⟩) len c) (A ++ (L ++ (R ++ B)))) :
    Calls Tryd.prog 77 #[.slice (some ⟨g, 0, none⟩) len c, .int .i64 a, .int .i64 m, .int .i64 b, .func (.func 42) #[] #[]] w fun e w' => (∃ v, e = .returned v) ∧
      Own EF 30 w' (.slice (some ⟨g, 0, none⟩) len c) (A ++ (sortK File.path (L ++ R) ++ B)) ∧ Kp (fun k => k ≠ g) w w' := symMerge_all _ g c A L R B a m b len (Nat.le_refl _) hlen ha hm hb hL0 hR0 hL hR hl w h

end Go.Proofs.YtinafpbdlblcaaaDoor
