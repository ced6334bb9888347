/-
  cortegeref7: Path.
-/
import Derived.Test.YtinafpbdlblcaaaDoorFiles
import Derived.Test.YtinafpbdlblcaaaDoorPlain2
namespace Go.Proofs.YtinafpbdlblcaaaDoor
open Go.RowKit
set_option linter.unusedVariables false
set_option linter.unusedSimpArgs false
attribute [local go_sem] Oper.semAt_some

theorem toList_at (p : ByteArray) (i : Nat) (h : i < p.size) : p.toList[i]? = some p[i] := by
  rw [Lib.toList_data, Array.getElem?_toList, Array.getElem?_eq_getElem h]
  rfl
theorem toList_len (p : ByteArray) : p.toList.length = p.size := by rw [Lib.toList_data]; rfl
theorem gapC_false : ∀ (l : List UInt8) (b : Bool), l ≠ [] → (b = true → l[0]? ≠ some 47) → l[l.length - 1]? ≠ some 47 → (∀ i : Nat, l[i]? = some 47 → l[i + 1]? ≠ some 47) → gapC 47 b l = false
  | [], _, h, _, _, _ => absurd rfl h
  | [x], b, _, h0, hl, _ => by
    have hx : x ≠ 47 := fun e => hl (by simp [e])
    simp [gapC, hx]
  | x :: y :: t, b, _, h0, hl, hc => by
    have hl' : (y :: t)[(y :: t).length - 1]? ≠ some 47 := by simpa using hl
    have hc' : ∀ i : Nat, (y :: t)[i]? = some 47 → (y :: t)[i + 1]? ≠ some 47 := fun i hi => by have := hc (i + 1); simp at this hi ⊢; exact this hi
    by_cases hx : x = 47
    · subst hx
      have hb : b = false := by
        cases b with
        | false => rfl
        | true => exact absurd (by simp) (h0 rfl)
      subst hb
      rw [gapC, if_pos rfl, Bool.false_or]
      exact gapC_false (y :: t) true (by simp) (fun _ => by have := hc 0 (by simp); simpa using this) hl' hc'
    · rw [gapC, if_neg hx]
      exact gapC_false (y :: t) false (by simp) (fun h => by cases h) hl' hc'
theorem pathL_gap {l : List UInt8} (h : gapC 47 true l = true) : pathL l = false := by unfold pathL; rw [h]; simp
theorem pathL_odd {l : List UInt8} {i : Nat} {x : UInt8} (h : l[i]? = some x) (ho : oddB x = true) : pathL l = false := by
  unfold pathL
  have : l.any oddB = true := List.any_eq_true.2 ⟨x, List.mem_of_getElem? h, ho⟩
  rw [this]; simp
theorem pathL_head {l : List UInt8} (h : l[0]? = some 47) : pathL l = false := by
  cases l with
  | nil => simp at h
  | cons x t =>
    have : x = 47 := by simpa using h
    subst this
    exact pathL_gap (by simp [gapC])
theorem pathL_last {l : List UInt8} (h : l[l.length - 1]? = some 47) : pathL l = false := by
  have hl : l ≠ [] := by rintro rfl; simp at h
  obtain ⟨a, x, rfl⟩ : ∃ a x, l = a ++ [x] := ⟨l.dropLast, l.getLast hl, (List.dropLast_concat_getLast hl).symm⟩
  have : x = 47 := by simpa using h
  subst this
  exact pathL_gap (by rw [gapC_append_cons]; simp [gapC])
theorem pathL_two {l : List UInt8} {i : Nat} (h : l[i]? = some 47) (h' : l[i + 1]? = some 47) : pathL l = false := by
  obtain ⟨hi, e⟩ := List.getElem?_eq_some_iff.1 h
  obtain ⟨hi', e'⟩ := List.getElem?_eq_some_iff.1 h'
  have : l = l.take i ++ 47 :: 47 :: l.drop (i + 2) := by
    conv => lhs; rw [← List.take_append_drop i l, List.drop_eq_getElem_cons hi, List.drop_eq_getElem_cons hi', e, e']
  rw [this]
  exact pathL_gap (by rw [gapC_append_cons]; simp [gapC])
theorem pathL_long {l : List UInt8} (h : 60 < l.length) : pathL l = false := by unfold pathL; rw [decide_eq_false (by omega)]; rfl
theorem pathL_none : pathL [] = false := pathL_gap rfl
theorem pathL_true {l : List UInt8} (h0 : l ≠ []) (h1 : l.length ≤ 60) (h2 : l[0]? ≠ some 47) (h3 : l[l.length - 1]? ≠ some 47) (h4 : ∀ (i : Nat) (x : UInt8), l[i]? = some x → oddB x = false) (h5 : ∀ i : Nat, l[i]? = some 47 → l[i + 1]? ≠ some 47) : pathL l = true := by
  unfold pathL
  rw [decide_eq_true h1, gapC_false l true h0 (fun _ => h2) h3 h5]
  have : l.any oddB = false := by
    rw [List.any_eq_false]
    intro x hx
    obtain ⟨i, hi⟩ := List.mem_iff_getElem?.1 hx
    rw [h4 i x hi]; exact Bool.false_ne_true
  rw [this]; rfl
theorem u8_int (x y : UInt8) : ((x.toNat : Int) == (y.toNat : Int)) = decide (x = y) := by
  rw [Bool.eq_iff_iff]
  simp only [beq_iff_eq, decide_eq_true_eq]
  constructor
  · intro h; exact UInt8.toNat_inj.1 (by omega)
  · rintro rfl; rfl

set_option maxHeartbeats 800000 in
set_option maxRecDepth 100000 in
/-- cortegeref7.Path. -/
theorem refPath_calls (p : ByteArray) (w : World) (hp : p.size ≤ 1000000) : Calls Tryd.prog 26 #[.string p] w fun e w' => e = .returned (.bool (pathB p)) ∧ w' = w := by
  rw [pathB_eq]
  have hll := toList_len p
  by_cases h1 : p.size < 1
  · have d1 : decide ((p.size : Int) < 1) = true := decide_eq_true (by omega)
    have hres : pathL p.toList = false := by
      have : p.toList = [] := List.eq_nil_of_length_eq_zero (by omega)
      rw [this]; exact pathL_none
    rw [hres]
    clear hres hll
    go_enter Tryd.func26, Tryd.ntmps26
    go_wp2_with fail
    go_ret
    exact ⟨rfl, rfl⟩
  · have d1 : decide ((p.size : Int) < 1) = false := decide_eq_false (by omega)
    by_cases h2 : 60 < p.size
    · have d2 : decide ((60 : Int) < (p.size : Int)) = true := decide_eq_true (by omega)
      have hres : pathL p.toList = false := pathL_long (by omega)
      rw [hres]
      clear hres hll
      go_enter Tryd.func26, Tryd.ntmps26
      go_wp2_with fail
      go_ret
      exact ⟨rfl, rfl⟩
    · have d2 : decide ((60 : Int) < (p.size : Int)) = false := decide_eq_false (by omega)
      have g1 : 0 < p.size := by omega
      have g2 : p.size - 1 < p.size := by omega
      have g3 : (1 : Int) ≤ (p.size : Int) := by omega
      have g4 : (p.size : Int) - 1 < (p.size : Int) := by omega
      by_cases e0 : p[0] = 47
      · have f0 : ((p[0].toNat : Int) == 47) = true := by rw [e0]; rfl
        have hres : pathL p.toList = false := pathL_head (by rw [toList_at p 0 g1, e0])
        rw [hres]
        clear hres hll e0
        go_enter Tryd.func26, Tryd.ntmps26
        go_wp2_with fail
        go_ret
        exact ⟨rfl, rfl⟩
      · have f0 : ((p[0].toNat : Int) == 47) = false := by
          have := u8_int p[0] 47
          rw [decide_eq_false e0] at this; exact this
        by_cases el : p[p.size - 1] = 47
        · have fl : ((p[p.size - 1].toNat : Int) == 47) = true := by rw [el]; rfl
          have hres : pathL p.toList = false := pathL_last (by rw [hll, toList_at p (p.size - 1) g2, el])
          rw [hres]
          clear hres hll e0 el
          go_enter Tryd.func26, Tryd.ntmps26
          go_wp2_with fail
          go_ret
          exact ⟨rfl, rfl⟩
        · have fl : ((p[p.size - 1].toNat : Int) == 47) = false := by
            have := u8_int p[p.size - 1] 47
            rw [decide_eq_false el] at this; exact this
          have HE0 := Lib.hid e0
          have HEL := Lib.hid el
          have HLL := Lib.hid hll
          clear e0 el hll
          go_enter Tryd.func26, Tryd.ntmps26
          go_wp2_with fail
          go_loopw [3] (fun i wr => ∃ k : Nat, k ≤ p.size ∧ i = .int .i64 k ∧ (∀ j (hj : j < p.size), j < k → oddB p[j] = false ∧ ∀ (h : 0 < j), ¬ (p[j] = 47 ∧ (p[j - 1]'(by omega)) = 47)) ∧ wr = w) (fun i _ => p.size - (intOf i).toNat)
          case atStart => exact ⟨0, Nat.zero_le _, rfl, fun j _ h => by omega, rfl⟩
          case round =>
            obtain ⟨k, hk, rfl, hok, rfl⟩ := hrel
            have HOK := Lib.hid hok
            clear hok f0 fl
            by_cases hlt : k < p.size
            · have hd3 : decide ((k : Int) < (p.size : Int)) = true := decide_eq_true (by omega)
              have hlt' : (k : Int) < (p.size : Int) := by omega
              have h0 : (0 : Int) ≤ (k : Int) := by omega
              have hw : IntKind.i64.wrap ((k : Int) + 1) = (k : Int) + 1 := IntWalk.i64_in _ (by omega)
              have hsn : ∀ x, p[k] = x → oddB x = false → (∀ (h : 0 < k), ¬ (p[k] = 47 ∧ (p[k - 1]'(by omega)) = 47)) → ∀ j (hj : j < p.size), j < k + 1 → oddB p[j] = false ∧ ∀ (h : 0 < j), ¬ (p[j] = 47 ∧ (p[j - 1]'(by omega)) = 47) := by
                intro x hxk ho hn j hj hjk
                by_cases e : j = k
                · subst e; exact ⟨by rw [hxk]; exact ho, hn⟩
                · exact HOK.out j hj (by omega)
              have HSN := Lib.hid hsn
              clear hsn
              by_cases o1 : p[k].toNat < 33
              · have q1 : decide ((p[k].toNat : Int) < 33) = true := decide_eq_true (by omega)
                have hres : pathL p.toList = false := pathL_odd (toList_at p k hlt) (by unfold oddB; rw [decide_eq_true o1]; rfl)
                go_wp2_with fail
                go_ret
                exact ⟨by rw [hres]; rfl, rfl⟩
              · have q1 : decide ((p[k].toNat : Int) < 33) = false := decide_eq_false (by omega)
                by_cases o2 : 126 < p[k].toNat
                · have q2 : decide ((126 : Int) < (p[k].toNat : Int)) = true := decide_eq_true (by omega)
                  have hres : pathL p.toList = false := pathL_odd (toList_at p k hlt) (by unfold oddB; rw [decide_eq_true (show p[k].toNat > 126 from o2)]; simp)
                  go_wp2_with fail
                  go_ret
                  exact ⟨by rw [hres]; rfl, rfl⟩
                · have q2 : decide ((126 : Int) < (p[k].toNat : Int)) = false := decide_eq_false (by omega)
                  have hno : oddB p[k] = false := by unfold oddB; rw [decide_eq_false o1, decide_eq_false (show ¬ p[k].toNat > 126 from o2)]; rfl
                  by_cases o3 : 0 < k
                  · have q3 : decide ((0 : Int) < (k : Int)) = true := decide_eq_true (by omega)
                    have hk1 : k - 1 < p.size := by omega
                    have hki : (1 : Int) ≤ (k : Int) := by omega
                    have hki2 : (k : Int) - 1 < (p.size : Int) := by omega
                    by_cases o4 : p[k] = 47
                    · have q4 : ((p[k].toNat : Int) == 47) = true := by rw [o4]; rfl
                      by_cases o5 : p[k - 1] = 47
                      · have q5 : ((p[k - 1].toNat : Int) == 47) = true := by rw [o5]; rfl
                        have hres : pathL p.toList = false := pathL_two (i := k - 1) (by rw [toList_at p (k - 1) hk1, o5]) (by rw [Nat.sub_add_cancel o3, toList_at p k hlt, o4])
                        clear o4 o5
                        go_wp2_with fail
                        go_ret
                        exact ⟨by rw [hres]; rfl, rfl⟩
                      · have q5 : ((p[k - 1].toNat : Int) == 47) = false := by
                          have := u8_int p[k - 1] 47
                          rw [decide_eq_false o5] at this; exact this
                        have hgo := HSN.out _ rfl hno (fun _ h => o5 h.2)
                        clear o4 o5
                        have HGO := Lib.hid hgo
                        clear hgo
                        go_wp2_with fail
                        go_roundw
                        case rel => exact ⟨k + 1, by omega, by go_num, HGO.out, by first | rfl | trivial⟩
                        case measure => simp [intOf]; omega
                    · have q4 : ((p[k].toNat : Int) == 47) = false := by
                        have := u8_int p[k] 47
                        rw [decide_eq_false o4] at this; exact this
                      have hgo := HSN.out _ rfl hno (fun _ h => o4 h.1)
                      clear o4
                      have HGO := Lib.hid hgo
                      clear hgo
                      go_wp2_with fail
                      go_roundw
                      case rel => exact ⟨k + 1, by omega, by go_num, HGO.out, by first | rfl | trivial⟩
                      case measure => simp [intOf]; omega
                  · have q3 : decide ((0 : Int) < (k : Int)) = false := decide_eq_false (by omega)
                    have hgo := HSN.out _ rfl hno (fun h => absurd h o3)
                    have HGO := Lib.hid hgo
                    clear hgo
                    go_wp2_with fail
                    go_roundw
                    case rel => exact ⟨k + 1, by omega, by go_num, HGO.out, by first | rfl | trivial⟩
                    case measure => simp [intOf]; omega
            · have hd3 : decide ((k : Int) < (p.size : Int)) = false := decide_eq_false (by omega)
              have hres : pathL p.toList = true := by
                have hll := HLL.out
                refine pathL_true (by intro h; rw [h] at hll; simp at hll; omega) (by omega) (by rw [toList_at p 0 g1]; intro h; exact HE0.out (Option.some.inj h)) (by rw [hll, toList_at p _ g2]; intro h; exact HEL.out (Option.some.inj h)) ?_ ?_
                · intro i x hi
                  obtain ⟨hil, _⟩ := List.getElem?_eq_some_iff.1 hi
                  rw [toList_at p i (by omega)] at hi
                  rw [← Option.some.inj hi]
                  exact (HOK.out i (by omega) (by omega)).1
                · intro i hi hi'
                  obtain ⟨hil, _⟩ := List.getElem?_eq_some_iff.1 hi'
                  rw [toList_at p i (by omega)] at hi
                  rw [toList_at p (i + 1) (by omega)] at hi'
                  exact (HOK.out (i + 1) (by omega) (by omega)).2 (by omega) ⟨Option.some.inj hi', Option.some.inj hi⟩
              go_wp2_with fail
              go_ret
              exact ⟨by rw [hres]; rfl, rfl⟩

end Go.Proofs.YtinafpbdlblcaaaDoor
