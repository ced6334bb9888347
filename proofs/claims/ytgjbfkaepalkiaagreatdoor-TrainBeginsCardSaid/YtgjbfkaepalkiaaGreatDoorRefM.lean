/-
  cortegeref7: Path. cortegeref7: Under, May.
-/
import Derived.Test.YtgjbfkaepalkiaaGreatDoorSameX
import Derived.Test.YtgjbfkaepalkiaaGreatDoorPlain2
import Derived.Test.YtgjbfkaepalkiaaGreatDoorKom
namespace Go.Proofs.YtgjbfkaepalkiaaGreatDoor
open Go.RowKit
set_option linter.unusedVariables false
set_option linter.unusedSimpArgs false
attribute [local go_sem] Oper.semAt_some

theorem toList_at (p : ByteArray) (i : Nat) (h : i < p.size) : p.toList[i]? = some p[i] := by
  rw [Lib.toList_data, Array.getElem?_toList, Array.getElem?_eq_getElem h]
  rfl
theorem toList_len (p : ByteArray) : p.toList.length = p.size := by rw [Lib.toList_data]; rfl
theorem gapC_false : ∀ (l : List UInt8) (b : Bool), l ≠ [] → (b = true → l[0]? ≠ some 47) → l[l.length - 1]? ≠ some 47 → (∀ i : Nat, l[i]? = some 47 → l[i + 1]? ≠ some 47) → gapC 47 b l = false
  | [], _, h, _, _, _ => absurd rfl h
  | [x], b, _, h0, hl, _ => by
    have hx : x ≠ 47 := fun e => hl (by simp [e])
    simp [gapC, hx]
  | x :: y :: t, b, _, h0, hl, hc => by
    have hl' : (y :: t)[(y :: t).length - 1]? ≠ some 47 := by simpa using hl
    have hc' : ∀ i : Nat, (y :: t)[i]? = some 47 → (y :: t)[i + 1]? ≠ some 47 := fun i hi => by have := hc (i + 1); simp at this hi ⊢; exact this hi
    by_cases hx : x = 47
    · subst hx
      have hb : b = false := by
        cases b with
        | false => rfl
        | true => exact absurd (by simp) (h0 rfl)
      subst hb
      rw [gapC, if_pos rfl, Bool.false_or]
      exact gapC_false (y :: t) true (by simp) (fun _ => by have := hc 0 (by simp); simpa using this) hl' hc'
    · rw [gapC, if_neg hx]
      exact gapC_false (y :: t) false (by simp) (fun h => by cases h) hl' hc'
theorem pathL_gap {l : List UInt8} (h : gapC 47 true l = true) : pathL l = false := by unfold pathL; rw [h]; simp
theorem pathL_odd {l : List UInt8} {i : Nat} {x : UInt8} (h : l[i]? = some x) (ho : oddB x = true) : pathL l = false := by
  unfold pathL
  have : l.any oddB = true := List.any_eq_true.2 ⟨x, List.mem_of_getElem? h, ho⟩
  rw [this]; simp
theorem pathL_head {l : List UInt8} (h : l[0]? = some 47) : pathL l = false := by
  cases l with
  | nil => simp at h
  | cons x t =>
    have : x = 47 := by simpa using h
    subst this
    exact pathL_gap (by simp [gapC])
theorem pathL_last {l : List UInt8} (h : l[l.length - 1]? = some 47) : pathL l = false := by
  have hl : l ≠ [] := by rintro rfl; simp at h
  obtain ⟨a, x, rfl⟩ : ∃ a x, l = a ++ [x] := ⟨l.dropLast, l.getLast hl, (List.dropLast_concat_getLast hl).symm⟩
  have : x = 47 := by simpa using h
  subst this
  exact pathL_gap (by rw [gapC_append_cons]; simp [gapC])
theorem pathL_two {l : List UInt8} {i : Nat} (h : l[i]? = some 47) (h' : l[i + 1]? = some 47) : pathL l = false := by
  obtain ⟨hi, e⟩ := List.getElem?_eq_some_iff.1 h
  obtain ⟨hi', e'⟩ := List.getElem?_eq_some_iff.1 h'
  have : l = l.take i ++ 47 :: 47 :: l.drop (i + 2) := by
    conv => lhs; rw [← List.take_append_drop i l, List.drop_eq_getElem_cons hi, List.drop_eq_getElem_cons hi', e, e']
  rw [this]
  exact pathL_gap (by rw [gapC_append_cons]; simp [gapC])
theorem pathL_long {l : List UInt8} (h : 60 < l.length) : pathL l = false := by unfold pathL; rw [decide_eq_false (by omega)]; rfl
theorem pathL_none : pathL [] = false := pathL_gap rfl
theorem pathL_true {l : List UInt8} (h0 : l ≠ []) (h1 : l.length ≤ 60) (h2 : l[0]? ≠ some 47) (h3 : l[l.length - 1]? ≠ some 47) (h4 : ∀ (i : Nat) (x : UInt8), l[i]? = some x → oddB x = false) (h5 : ∀ i : Nat, l[i]? = some 47 → l[i + 1]? ≠ some 47) : pathL l = true := by
  unfold pathL
  rw [decide_eq_true h1, gapC_false l true h0 (fun _ => h2) h3 h5]
  have : l.any oddB = false := by
    rw [List.any_eq_false]
    intro x hx
    obtain ⟨i, hi⟩ := List.mem_iff_getElem?.1 hx
    rw [h4 i x hi]; exact Bool.false_ne_true
  rw [this]; rfl
theorem u8_int (x y : UInt8) : ((x.toNat : Int) == (y.toNat : Int)) = decide (x = y) := by
  rw [Bool.eq_iff_iff]
  simp only [beq_iff_eq, decide_eq_true_eq]
  constructor
  · intro h; exact UInt8.toNat_inj.1 (by omega)
  · rintro rfl; rfl

set_option maxHeartbeats 800000 in
set_option maxRecDepth 100000 in
/-- cortegeref7.Path. -/
theorem refPath_calls (p : ByteArray) (w : World) (hp : p.size ≤ 1000000) : Calls Tryz.prog 136 #[.string p] w fun e w' => e = .returned (.bool (pathB p)) ∧ w' = w := by
  rw [pathB_eq]
  have hll := toList_len p
  by_cases h1 : p.size < 1
  · have d1 : decide ((p.size : Int) < 1) = true := decide_eq_true (by omega)
    have hres : pathL p.toList = false := by
      have : p.toList = [] := List.eq_nil_of_length_eq_zero (by omega)
      rw [this]; exact pathL_none
    rw [hres]
    clear hres hll
    go_enter Tryz.func136, Tryz.ntmps136
    go_wp2_with fail
    go_ret
    exact ⟨rfl, rfl⟩
  · have d1 : decide ((p.size : Int) < 1) = false := decide_eq_false (by omega)
    by_cases h2 : 60 < p.size
    · have d2 : decide ((60 : Int) < (p.size : Int)) = true := decide_eq_true (by omega)
      have hres : pathL p.toList = false := pathL_long (by omega)
      rw [hres]
      clear hres hll
      go_enter Tryz.func136, Tryz.ntmps136
      go_wp2_with fail
      go_ret
      exact ⟨rfl, rfl⟩
    · have d2 : decide ((60 : Int) < (p.size : Int)) = false := decide_eq_false (by omega)
      have g1 : 0 < p.size := by omega
      have g2 : p.size - 1 < p.size := by omega
      have g3 : (1 : Int) ≤ (p.size : Int) := by omega
      have g4 : (p.size : Int) - 1 < (p.size : Int) := by omega
      by_cases e0 : p[0] = 47
      · have f0 : ((p[0].toNat : Int) == 47) = true := by rw [e0]; rfl
        have hres : pathL p.toList = false := pathL_head (by rw [toList_at p 0 g1, e0])
        rw [hres]
        clear hres hll e0
        go_enter Tryz.func136, Tryz.ntmps136
        go_wp2_with fail
        go_ret
        exact ⟨rfl, rfl⟩
      · have f0 : ((p[0].toNat : Int) == 47) = false := by
          have := u8_int p[0] 47
          rw [decide_eq_false e0] at this; exact this
        by_cases el : p[p.size - 1] = 47
        · have fl : ((p[p.size - 1].toNat : Int) == 47) = true := by rw [el]; rfl
          have hres : pathL p.toList = false := pathL_last (by rw [hll, toList_at p (p.size - 1) g2, el])
          rw [hres]
          clear hres hll e0 el
          go_enter Tryz.func136, Tryz.ntmps136
          go_wp2_with fail
          go_ret
          exact ⟨rfl, rfl⟩
        · have fl : ((p[p.size - 1].toNat : Int) == 47) = false := by
            have := u8_int p[p.size - 1] 47
            rw [decide_eq_false el] at this; exact this
          have HE0 := Lib.hid e0
          have HEL := Lib.hid el
          have HLL := Lib.hid hll
          clear e0 el hll
          go_enter Tryz.func136, Tryz.ntmps136
          go_wp2_with fail
          go_loopw [3] (fun i wr => ∃ k : Nat, k ≤ p.size ∧ i = .int .i64 k ∧ (∀ j (hj : j < p.size), j < k → oddB p[j] = false ∧ ∀ (h : 0 < j), ¬ (p[j] = 47 ∧ (p[j - 1]'(by omega)) = 47)) ∧ wr = w) (fun i _ => p.size - (intOf i).toNat)
          case atStart => exact ⟨0, Nat.zero_le _, rfl, fun j _ h => by omega, rfl⟩
          case round =>
            obtain ⟨k, hk, rfl, hok, rfl⟩ := hrel
            have HOK := Lib.hid hok
            clear hok f0 fl
            by_cases hlt : k < p.size
            · have hd3 : decide ((k : Int) < (p.size : Int)) = true := decide_eq_true (by omega)
              have hlt' : (k : Int) < (p.size : Int) := by omega
              have h0 : (0 : Int) ≤ (k : Int) := by omega
              have hw : IntKind.i64.wrap ((k : Int) + 1) = (k : Int) + 1 := IntWalk.i64_in _ (by omega)
              have hsn : ∀ x, p[k] = x → oddB x = false → (∀ (h : 0 < k), ¬ (p[k] = 47 ∧ (p[k - 1]'(by omega)) = 47)) → ∀ j (hj : j < p.size), j < k + 1 → oddB p[j] = false ∧ ∀ (h : 0 < j), ¬ (p[j] = 47 ∧ (p[j - 1]'(by omega)) = 47) := by
                intro x hxk ho hn j hj hjk
                by_cases e : j = k
                · subst e; exact ⟨by rw [hxk]; exact ho, hn⟩
                · exact HOK.out j hj (by omega)
              have HSN := Lib.hid hsn
              clear hsn
              by_cases o1 : p[k].toNat < 33
              · have q1 : decide ((p[k].toNat : Int) < 33) = true := decide_eq_true (by omega)
                have hres : pathL p.toList = false := pathL_odd (toList_at p k hlt) (by unfold oddB; rw [decide_eq_true o1]; rfl)
                go_wp2_with fail
                go_ret
                exact ⟨by rw [hres]; rfl, rfl⟩
              · have q1 : decide ((p[k].toNat : Int) < 33) = false := decide_eq_false (by omega)
                by_cases o2 : 126 < p[k].toNat
                · have q2 : decide ((126 : Int) < (p[k].toNat : Int)) = true := decide_eq_true (by omega)
                  have hres : pathL p.toList = false := pathL_odd (toList_at p k hlt) (by unfold oddB; rw [decide_eq_true (show p[k].toNat > 126 from o2)]; simp)
                  go_wp2_with fail
                  go_ret
                  exact ⟨by rw [hres]; rfl, rfl⟩
                · have q2 : decide ((126 : Int) < (p[k].toNat : Int)) = false := decide_eq_false (by omega)
                  have hno : oddB p[k] = false := by unfold oddB; rw [decide_eq_false o1, decide_eq_false (show ¬ p[k].toNat > 126 from o2)]; rfl
                  by_cases o3 : 0 < k
                  · have q3 : decide ((0 : Int) < (k : Int)) = true := decide_eq_true (by omega)
                    have hk1 : k - 1 < p.size := by omega
                    have hki : (1 : Int) ≤ (k : Int) := by omega
                    have hki2 : (k : Int) - 1 < (p.size : Int) := by omega
                    by_cases o4 : p[k] = 47
                    · have q4 : ((p[k].toNat : Int) == 47) = true := by rw [o4]; rfl
                      by_cases o5 : p[k - 1] = 47
                      · have q5 : ((p[k - 1].toNat : Int) == 47) = true := by rw [o5]; rfl
                        have hres : pathL p.toList = false := pathL_two (i := k - 1) (by rw [toList_at p (k - 1) hk1, o5]) (by rw [Nat.sub_add_cancel o3, toList_at p k hlt, o4])
                        clear o4 o5
                        go_wp2_with fail
                        go_ret
                        exact ⟨by rw [hres]; rfl, rfl⟩
                      · have q5 : ((p[k - 1].toNat : Int) == 47) = false := by
                          have := u8_int p[k - 1] 47
                          rw [decide_eq_false o5] at this; exact this
                        have hgo := HSN.out _ rfl hno (fun _ h => o5 h.2)
                        clear o4 o5
                        have HGO := Lib.hid hgo
                        clear hgo
                        go_wp2_with fail
                        go_roundw
                        case rel => exact ⟨k + 1, by omega, by go_num, HGO.out, by first | rfl | trivial⟩
                        case measure => simp [intOf]; omega
                    · have q4 : ((p[k].toNat : Int) == 47) = false := by
                        have := u8_int p[k] 47
                        rw [decide_eq_false o4] at this; exact this
                      have hgo := HSN.out _ rfl hno (fun _ h => o4 h.1)
                      clear o4
                      have HGO := Lib.hid hgo
                      clear hgo
                      go_wp2_with fail
                      go_roundw
                      case rel => exact ⟨k + 1, by omega, by go_num, HGO.out, by first | rfl | trivial⟩
                      case measure => simp [intOf]; omega
                  · have q3 : decide ((0 : Int) < (k : Int)) = false := decide_eq_false (by omega)
                    have hgo := HSN.out _ rfl hno (fun h => absurd h o3)
                    have HGO := Lib.hid hgo
                    clear hgo
                    go_wp2_with fail
                    go_roundw
                    case rel => exact ⟨k + 1, by omega, by go_num, HGO.out, by first | rfl | trivial⟩
                    case measure => simp [intOf]; omega
            · have hd3 : decide ((k : Int) < (p.size : Int)) = false := decide_eq_false (by omega)
              have hres : pathL p.toList = true := by
                have hll := HLL.out
                refine pathL_true (by intro h; rw [h] at hll; simp at hll; omega) (by omega) (by rw [toList_at p 0 g1]; intro h; exact HE0.out (Option.some.inj h)) (by rw [hll, toList_at p _ g2]; intro h; exact HEL.out (Option.some.inj h)) ?_ ?_
                · intro i x hi
                  obtain ⟨hil, _⟩ := List.getElem?_eq_some_iff.1 hi
                  rw [toList_at p i (by omega)] at hi
                  rw [← Option.some.inj hi]
                  exact (HOK.out i (by omega) (by omega)).1
                · intro i hi hi'
                  obtain ⟨hil, _⟩ := List.getElem?_eq_some_iff.1 hi'
                  rw [toList_at p i (by omega)] at hi
                  rw [toList_at p (i + 1) (by omega)] at hi'
                  exact (HOK.out (i + 1) (by omega) (by omega)).2 (by omega) ⟨Option.some.inj hi', Option.some.inj hi⟩
              go_wp2_with fail
              go_ret
              exact ⟨by rw [hres]; rfl, rfl⟩

end Go.Proofs.YtgjbfkaepalkiaaGreatDoor

namespace Go.Proofs.YtgjbfkaepalkiaaGreatDoor
open Go.RowKit
set_option linter.unusedVariables false
set_option linter.unusedSimpArgs false
attribute [local go_sem] Oper.semAt_some

theorem extract_toList (p : ByteArray) (n : Nat) : (p.extract 0 n).toList = p.toList.take n := by
  rw [Lib.toList_data, Lib.toList_data]
  simp [ByteArray.extract, ByteArray.copySlice]
theorem under_list (l m : List UInt8) : Lib.hasPrefix l (m ++ [47]) = true ↔ m.length < l.length ∧ l.take m.length = m ∧ l[m.length]? = some 47 := by
  unfold Lib.hasPrefix
  rw [List.isPrefixOf_iff_prefix]
  constructor
  · rintro ⟨t, rfl⟩
    refine ⟨by simp, by simp, by simp⟩
  · rintro ⟨h1, h2, h3⟩
    refine ⟨l.drop (m.length + 1), ?_⟩
    obtain ⟨_, e⟩ := List.getElem?_eq_some_iff.1 h3
    conv => rhs; rw [← List.take_append_drop m.length l, h2, List.drop_eq_getElem_cons h1, e]
    simp

set_option maxHeartbeats 800000 in
/-- cortegeref7.Under. -/
theorem refUnder_calls (p q : ByteArray) (w : World) (hp : p.size ≤ 1000000) (hq : q.size ≤ 1000000) : Calls Tryz.prog 137 #[.string p, .string q] w fun e w' => e = .returned (.bool (underB p q)) ∧ w' = w := by
  rw [underB_eq]
  have hpl := toList_len p
  have hql := toList_len q
  by_cases h1 : q.size < p.size
  · have d1 : decide ((q.size : Int) < (p.size : Int)) = true := decide_eq_true (by omega)
    have d2 : decide (q.size < p.size) = true := decide_eq_true (by omega)
    cases hx : ((p.extract 0 q.size).toList == q.toList) with
    | false =>
      have hres : Lib.hasPrefix p.toList (q.toList ++ [47]) = false := by
        cases h : Lib.hasPrefix p.toList (q.toList ++ [47]) with
        | false => rfl
        | true =>
          have := ((under_list _ _).1 h).2.1
          rw [hql, ← extract_toList] at this
          rw [this] at hx; simp at hx
      rw [hres]
      clear hpl hql hres
      go_enter Tryz.func137, Tryz.ntmps137
      go_wp2_with fail
      go_ret
      exact ⟨rfl, rfl⟩
    | true =>
      have hres : Lib.hasPrefix p.toList (q.toList ++ [47]) = ((p[q.size].toNat : Int) == 47) := by
        have h47 := u8_int p[q.size] 47
        rw [show (((47 : UInt8).toNat : Nat) : Int) = 47 from rfl] at h47
        rw [h47, Bool.eq_iff_iff, under_list, hpl, hql, toList_at p _ h1, decide_eq_true_eq]
        constructor
        · intro h; exact Option.some.inj h.2.2
        · intro h; exact ⟨h1, by rw [← extract_toList]; exact beq_iff_eq.1 hx, by rw [h]⟩
      rw [hres]
      clear hpl hql hres
      go_enter Tryz.func137, Tryz.ntmps137
      go_wp2_with fail
      go_ret
      exact ⟨rfl, rfl⟩
  · have d1 : decide ((q.size : Int) < (p.size : Int)) = false := decide_eq_false (by omega)
    have d2 : decide (q.size < p.size) = false := decide_eq_false (by omega)
    have hres : Lib.hasPrefix p.toList (q.toList ++ [47]) = false := by
      cases h : Lib.hasPrefix p.toList (q.toList ++ [47]) with
      | false => rfl
      | true => have := ((under_list _ _).1 h).1; omega
    rw [hres]
    clear hpl hql hres
    go_enter Tryz.func137, Tryz.ntmps137
    go_wp2_with fail
    go_ret
    exact ⟨rfl, rfl⟩

set_option maxHeartbeats 800000 in
/-- cortegeref7.May. -/
theorem refMay_calls (v : Value) (xs : List File) (S : Fp) (w : World) (hR : Rd EF S w v xs) (hp : ∀ y ∈ xs, y.path.size ≤ 1000000) :
    Calls Tryz.prog 95 #[v] w fun e w' => e = .returned (.bool (mayB xs)) ∧ Ext w w' := by
  obtain ⟨A, c, rfl, hO⟩ := hR.open_
  have hlen := hO.len
  by_cases h12 : xs.length ≤ 12
  · have hd : decide ((12 : Int) < (xs.length : Int)) = false := decide_eq_false (by omega)
    go_enter Tryz.func95, Tryz.ntmps95
    have HO := Lib.hid hO
    have HP := Lib.hid hp
    clear hO hp hR
    go_wp2_with fail
    go_loopw [3] (fun i wr => ∃ k : Nat, k ≤ xs.length ∧ i = .int .i64 k ∧ mayB xs = okFrom (xs.take k) (xs.drop k) ∧ Ext w wr) (fun i _ => xs.length - (intOf i).toNat)
    case atStart => exact ⟨0, Nat.zero_le _, rfl, by unfold mayB; rw [decide_eq_true h12]; simp, Kp.refl _ _⟩
    case round =>
      obtain ⟨k, hk, rfl, hok, hx⟩ := hrel
      rename World => wr
      by_cases hlt : k < xs.length
      · have hd3 : decide ((k : Int) < (xs.length : Int)) = true := decide_eq_true (by omega)
        obtain ⟨b, off, rfl, _, hb, c0, c1⟩ := (HO.out.kp (hx.mono fun _ _ _ => trivial)).rd.file hlt
        obtain ⟨f, hf⟩ : ∃ f, xs[k] = f := ⟨_, rfl⟩
        rw [hf] at c0 c1
        have hlt' : (k : Int) < (xs.length : Int) := by omega
        have h0 : (0 : Int) ≤ (k : Int) := by omega
        have hw : IntKind.i64.wrap ((k : Int) + 1) = (k : Int) + 1 := IntWalk.i64_in _ (by omega)
        have hfp : f.path.size ≤ 1000000 := by rw [← hf]; exact HP.out _ (List.getElem_mem hlt)
        have hs : okFrom (xs.take k) (xs.drop k) = (!badF (xs.take k) f && okFrom (xs.take (k + 1)) (xs.drop (k + 1))) := by rw [List.drop_eq_getElem_cons hlt, okFrom, hf, take_snoc xs hlt, hf]
        have hok0 : okFrom [] xs = okFrom (xs.take k) (xs.drop k) := by
          have := hok
          unfold mayB at this
          rw [decide_eq_true h12, Bool.true_and] at this
          exact this
        have HS := Lib.hid hs
        have HOK := Lib.hid hok0
        have hPath := fun W => refPath_calls f.path W hfp
        have HF := Lib.hid hf
        clear hs hok0 hok hf
        cases h1 : pathB f.path with
        | false =>
          rw [h1] at hPath
          have HPa := Lib.hid hPath
          clear hPath
          have hbad : mayB xs = false := mayB_false h12 HOK.out HS.out (by unfold badF; rw [h1]; rfl)
          have HB := Lib.hid hbad
          clear hbad
          go_wp2_with fail
          go_quiet ((go_at_call 136; exact Calls.quiet_of_same (HPa.out _)))
          go_wp2_with fail
          go_ret
          exact ⟨by rw [HB.out]; rfl, hx.drewN _⟩
        | true =>
          rw [h1] at hPath
          have HPa := Lib.hid hPath
          clear hPath
          by_cases h2 : 400 < f.data.size
          · have hd400 : decide ((400 : Int) < (f.data.size : Int)) = true := decide_eq_true (by omega)
            have hbad : mayB xs = false := mayB_false h12 HOK.out HS.out (by unfold badF; rw [h1, decide_eq_true h2]; rfl)
            have HB := Lib.hid hbad
            clear hbad
            go_wp2_with fail
            go_quiet ((go_at_call 136; exact Calls.quiet_of_same (HPa.out _)))
            go_wp2_with fail
            go_ret
            exact ⟨by rw [HB.out]; rfl, hx.drewN _⟩
          · have hd400 : decide ((400 : Int) < (f.data.size : Int)) = false := decide_eq_false (by omega)
            by_cases h3 : k = 0
            · have hdk : decide ((0 : Int) < (k : Int)) = false := decide_eq_false (by omega)
              have hdk' : decide (0 < k) = false := decide_eq_false (by omega)
              have hor : orderB (xs.take k) f = false := by rw [h3]; exact orderB_zero xs f
              clear h3
              have HOR := Lib.hid hor
              clear hor
              go_wp2_with fail
              go_quiet ((go_at_call 136; exact Calls.quiet_of_same (HPa.out _)))
              go_wp2_with fail
              have hxq : Ext w (wr.drewN nq) := hx.drewN nq
              generalize wr.drewN nq = wq at hxq ⊢
              clear hdk hdk'
              go_loopw [4] (fun q wr => ∃ j : Nat, j ≤ k ∧ q = .int .i64 j ∧ ((xs.take j).any fun y => underB f.path y.path) = false ∧ Ext w wr) (fun q _ => k - (intOf q).toNat)
              case atStart => exact ⟨0, Nat.zero_le _, rfl, by simp, hxq⟩
              case round =>
                obtain ⟨j, hj, rfl, hno, hxj⟩ := hrel
                rename World => wj
                by_cases hjk : j < k
                · have hdj : decide ((j : Int) < (k : Int)) = true := decide_eq_true (by omega)
                  have hjl : j < xs.length := by omega
                  obtain ⟨b2, off2, he2, _, hb2, e0, e1⟩ := (HO.out.kp (hxj.mono fun _ _ _ => trivial)).rd.file hjl
                  cases he2
                  obtain ⟨b3, off3, he3, _, hb3, i0, i1⟩ := (HO.out.kp (hxj.mono fun _ _ _ => trivial)).rd.file hlt
                  cases he3
                  rw [HF.out] at i0
                  obtain ⟨y, hy⟩ : ∃ y, xs[j] = y := ⟨_, rfl⟩
                  have hyp : y.path.size ≤ 1000000 := by rw [← hy]; exact HP.out _ (List.getElem_mem hjl)
                  have hsn : ((xs.take (j + 1)).any fun y => underB f.path y.path) = underB f.path y.path := by rw [take_snoc xs hjl, List.any_append, hno, hy]; simp
                  have hym : underB f.path y.path = true → ((xs.take k).any fun y => underB f.path y.path) = true := fun h => List.any_eq_true.2 ⟨y, by rw [← hy, List.mem_take_iff_getElem]; exact ⟨j, by omega, rfl⟩, h⟩
                  rw [hy] at e0
                  have hj0 : (0 : Int) ≤ (j : Int) := by omega
                  have hjlt : (j : Int) < (xs.length : Int) := by omega
                  have hwj : IntKind.i64.wrap ((j : Int) + 1) = (j : Int) + 1 := IntWalk.i64_in _ (by omega)
                  have hU := fun W => refUnder_calls f.path y.path W hfp hyp
                  have HSN := Lib.hid hsn
                  have HYM := Lib.hid hym
                  clear hsn hym hy hno e1 i1 c0 c1
                  cases hu : underB f.path y.path with
                  | true =>
                    rw [hu] at hU
                    have HU := Lib.hid hU
                    clear hU
                    go_wp2_with fail
                    go_quiet ((go_at_call 137; exact Calls.quiet_of_same (HU.out _)))
                    go_wp2_with fail
                    go_ret
                    have hbad : mayB xs = false := mayB_false h12 HOK.out HS.out (by unfold badF; rw [HYM.out hu]; simp)
                    exact ⟨by rw [hbad]; rfl, hxj.drewN _⟩
                  | false =>
                    rw [hu] at hU
                    have HU := Lib.hid hU
                    clear hU
                    go_wp2_with fail
                    go_quiet ((go_at_call 137; exact Calls.quiet_of_same (HU.out _)))
                    go_wp2_with fail
                    go_roundw
                    case rel => exact ⟨j + 1, by omega, by go_num, by rw [HSN.out]; exact hu, hxj.drewN _⟩
                    case measure => simp [intOf]; omega
                · have hdj : decide ((j : Int) < (k : Int)) = false := decide_eq_false (by omega)
                  have hjk2 : j = k := by omega
                  rw [hjk2] at hno
                  have HNO := Lib.hid hno
                  clear hno hjk2
                  go_wp2_with fail
                  go_roundw
                  case rel =>
                    refine ⟨k + 1, by omega, by go_num, ?_, hxj⟩
                    have := okFrom_next HOK.out HS.out (by unfold badF; rw [h1, decide_eq_false h2, HOR.out, HNO.out]; rfl)
                    unfold mayB
                    rw [decide_eq_true h12, Bool.true_and]
                    exact this
                  case measure => simp [intOf]; omega
            · obtain ⟨m, hm⟩ : ∃ m, k = m + 1 := ⟨k - 1, by omega⟩
              have hdk : decide ((0 : Int) < (k : Int)) = true := decide_eq_true (by omega)
              have hdk' : decide (0 < k) = true := decide_eq_true (by omega)
              have hw1 : IntKind.i64.wrap ((k : Int) - 1) = (m : Int) := by rw [IntWalk.i64_in _ (by omega)]; omega
              have hm0 : (0 : Int) ≤ (m : Int) := by omega
              have hm1 : (m : Int) < (xs.length : Int) := by omega
              have hmlt : m < xs.length := by omega
              obtain ⟨g, hg⟩ : ∃ g, xs[m] = g := ⟨_, rfl⟩
              have hor := orderB_succ xs f m hmlt
              rw [← hm, hg] at hor
              obtain ⟨b', off', he, _, hb', p0, p1⟩ := (HO.out.kp (hx.mono fun _ _ _ => trivial)).rd.file hmlt
              cases he
              rw [hg] at p0
              have hbl : Op.bytesLess g.path.toList f.path.toList = ltB g.path f.path := rfl
              clear hm hg h3 p1
              cases h4 : ltB g.path f.path with
              | false =>
                rw [h4] at hbl hor
                have hbad : mayB xs = false := mayB_false h12 HOK.out HS.out (by unfold badF; rw [hor]; simp)
                clear hor
                have HB := Lib.hid hbad
                clear hbad
                go_wp2_with fail
                go_quiet ((go_at_call 136; exact Calls.quiet_of_same (HPa.out _)))
                go_wp2_with fail
                go_ret
                exact ⟨by rw [HB.out]; rfl, hx.drewN _⟩
              | true =>
                rw [h4] at hbl hor
                have HOR := Lib.hid hor
                clear hor
                go_wp2_with fail
                go_quiet ((go_at_call 136; exact Calls.quiet_of_same (HPa.out _)))
                go_wp2_with fail
                have hxq : Ext w (wr.drewN nq) := hx.drewN nq
                generalize wr.drewN nq = wq at hxq ⊢
                clear hdk hdk'
                go_loopw [4] (fun q wr => ∃ j : Nat, j ≤ k ∧ q = .int .i64 j ∧ ((xs.take j).any fun y => underB f.path y.path) = false ∧ Ext w wr) (fun q _ => k - (intOf q).toNat)
                case atStart => exact ⟨0, Nat.zero_le _, rfl, by simp, hxq⟩
                case round =>
                  obtain ⟨j, hj, rfl, hno, hxj⟩ := hrel
                  rename World => wj
                  by_cases hjk : j < k
                  · have hdj : decide ((j : Int) < (k : Int)) = true := decide_eq_true (by omega)
                    have hjl : j < xs.length := by omega
                    obtain ⟨b2, off2, he2, _, hb2, e0, e1⟩ := (HO.out.kp (hxj.mono fun _ _ _ => trivial)).rd.file hjl
                    cases he2
                    obtain ⟨b3, off3, he3, _, hb3, i0, i1⟩ := (HO.out.kp (hxj.mono fun _ _ _ => trivial)).rd.file hlt
                    cases he3
                    rw [HF.out] at i0
                    obtain ⟨y, hy⟩ : ∃ y, xs[j] = y := ⟨_, rfl⟩
                    have hyp : y.path.size ≤ 1000000 := by rw [← hy]; exact HP.out _ (List.getElem_mem hjl)
                    have hsn : ((xs.take (j + 1)).any fun y => underB f.path y.path) = underB f.path y.path := by rw [take_snoc xs hjl, List.any_append, hno, hy]; simp
                    have hym : underB f.path y.path = true → ((xs.take k).any fun y => underB f.path y.path) = true := fun h => List.any_eq_true.2 ⟨y, by rw [← hy, List.mem_take_iff_getElem]; exact ⟨j, by omega, rfl⟩, h⟩
                    rw [hy] at e0
                    have hj0 : (0 : Int) ≤ (j : Int) := by omega
                    have hjlt : (j : Int) < (xs.length : Int) := by omega
                    have hwj : IntKind.i64.wrap ((j : Int) + 1) = (j : Int) + 1 := IntWalk.i64_in _ (by omega)
                    have hU := fun W => refUnder_calls f.path y.path W hfp hyp
                    have HSN := Lib.hid hsn
                    have HYM := Lib.hid hym
                    clear hsn hym hy hno e1 i1 c0 c1
                    cases hu : underB f.path y.path with
                    | true =>
                      rw [hu] at hU
                      have HU := Lib.hid hU
                      clear hU
                      go_wp2_with fail
                      go_quiet ((go_at_call 137; exact Calls.quiet_of_same (HU.out _)))
                      go_wp2_with fail
                      go_ret
                      have hbad : mayB xs = false := mayB_false h12 HOK.out HS.out (by unfold badF; rw [HYM.out hu]; simp)
                      exact ⟨by rw [hbad]; rfl, hxj.drewN _⟩
                    | false =>
                      rw [hu] at hU
                      have HU := Lib.hid hU
                      clear hU
                      go_wp2_with fail
                      go_quiet ((go_at_call 137; exact Calls.quiet_of_same (HU.out _)))
                      go_wp2_with fail
                      go_roundw
                      case rel => exact ⟨j + 1, by omega, by go_num, by rw [HSN.out]; exact hu, hxj.drewN _⟩
                      case measure => simp [intOf]; omega
                  · have hdj : decide ((j : Int) < (k : Int)) = false := decide_eq_false (by omega)
                    have hjk2 : j = k := by omega
                    rw [hjk2] at hno
                    have HNO := Lib.hid hno
                    clear hno hjk2
                    go_wp2_with fail
                    go_roundw
                    case rel =>
                      refine ⟨k + 1, by omega, by go_num, ?_, hxj⟩
                      have := okFrom_next HOK.out HS.out (by unfold badF; rw [h1, decide_eq_false h2, HOR.out, HNO.out]; rfl)
                      unfold mayB
                      rw [decide_eq_true h12, Bool.true_and]
                      exact this
                    case measure => simp [intOf]; omega
      · have hd2 : decide ((k : Int) < (xs.length : Int)) = false := decide_eq_false (by omega)
        have hkl : k = xs.length := by omega
        have htrue : mayB xs = true := by rw [hok, hkl, List.drop_length]; rfl
        clear hok
        go_wp2_with fail
        go_ret
        exact ⟨by rw [htrue]; rfl, hx⟩
  · have hd : decide ((12 : Int) < (xs.length : Int)) = true := decide_eq_true (by omega)
    go_enter Tryz.func95, Tryz.ntmps95
    go_wp2_with fail
    go_ret
    exact ⟨by unfold mayB; rw [decide_eq_false h12]; rfl, Kp.refl _ _⟩

end Go.Proofs.YtgjbfkaepalkiaaGreatDoor
