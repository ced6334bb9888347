/-
  cortegeref7: Under, May.
-/
import Derived.Test.YtinafpbdlblcaaaDoorRefP
import Derived.Test.YtinafpbdlblcaaaDoorMay2
namespace Go.Proofs.YtinafpbdlblcaaaDoor
open Go.RowKit
set_option linter.unusedVariables false
set_option linter.unusedSimpArgs false
attribute [local go_sem] Oper.semAt_some

theorem extract_toList (p : ByteArray) (n : Nat) : (p.extract 0 n).toList = p.toList.take n := by
  rw [Lib.toList_data, Lib.toList_data]
  simp [ByteArray.extract, ByteArray.copySlice]
theorem under_list (l m : List UInt8) : Lib.hasPrefix l (m ++ [47]) = true ↔ m.length < l.length ∧ l.take m.length = m ∧ l[m.length]? = some 47 := by
  unfold Lib.hasPrefix
  rw [List.isPrefixOf_iff_prefix]
  constructor
  · rintro ⟨t, rfl⟩
    refine ⟨by simp, by simp, by simp⟩
  · rintro ⟨h1, h2, h3⟩
    refine ⟨l.drop (m.length + 1), ?_⟩
    obtain ⟨_, e⟩ := List.getElem?_eq_some_iff.1 h3
    conv => rhs; rw [← List.take_append_drop m.length l, h2, List.drop_eq_getElem_cons h1, e]
    simp

set_option maxHeartbeats 800000 in
/-- cortegeref7.Under. -/
theorem refUnder_calls (p q : ByteArray) (w : World) (hp : p.size ≤ 1000000) (hq : q.size ≤ 1000000) : Calls Tryd.prog 56 #[.string p, .string q] w fun e w' => e = .returned (.bool (underB p q)) ∧ w' = w := by
  rw [underB_eq]
  have hpl := toList_len p
  have hql := toList_len q
  by_cases h1 : q.size < p.size
  · have d1 : decide ((q.size : Int) < (p.size : Int)) = true := decide_eq_true (by omega)
    have d2 : decide (q.size < p.size) = true := decide_eq_true (by omega)
    cases hx : ((p.extract 0 q.size).toList == q.toList) with
    | false =>
      have hres : Lib.hasPrefix p.toList (q.toList ++ [47]) = false := by
        cases h : Lib.hasPrefix p.toList (q.toList ++ [47]) with
        | false => rfl
        | true =>
          have := ((under_list _ _).1 h).2.1
          rw [hql, ← extract_toList] at this
          rw [this] at hx; simp at hx
      rw [hres]
      clear hpl hql hres
      go_enter Tryd.func56, Tryd.ntmps56
      go_wp2_with fail
      go_ret
      exact ⟨rfl, rfl⟩
    | true =>
      have hres : Lib.hasPrefix p.toList (q.toList ++ [47]) = ((p[q.size].toNat : Int) == 47) := by
        have h47 := u8_int p[q.size] 47
        rw [show (((47 : UInt8).toNat : Nat) : Int) = 47 from rfl] at h47
        rw [h47, Bool.eq_iff_iff, under_list, hpl, hql, toList_at p _ h1, decide_eq_true_eq]
        constructor
        · intro h; exact Option.some.inj h.2.2
        · intro h; exact ⟨h1, by rw [← extract_toList]; exact beq_iff_eq.1 hx, by rw [h]⟩
      rw [hres]
      clear hpl hql hres
      go_enter Tryd.func56, Tryd.ntmps56
      go_wp2_with fail
      go_ret
      exact ⟨rfl, rfl⟩
  · have d1 : decide ((q.size : Int) < (p.size : Int)) = false := decide_eq_false (by omega)
    have d2 : decide (q.size < p.size) = false := decide_eq_false (by omega)
    have hres : Lib.hasPrefix p.toList (q.toList ++ [47]) = false := by
      cases h : Lib.hasPrefix p.toList (q.toList ++ [47]) with
      | false => rfl
      | true => have := ((under_list _ _).1 h).1; omega
    rw [hres]
    clear hpl hql hres
    go_enter Tryd.func56, Tryd.ntmps56
    go_wp2_with fail
    go_ret
    exact ⟨rfl, rfl⟩

set_option maxHeartbeats 800000 in
/-- cortegeref7.May. -/
theorem refMay_calls (v : Value) (xs : List File) (S : Fp) (w : World) (hR : Rd EF S w v xs) (hp : ∀ y ∈ xs, y.path.size ≤ 1000000) :
    Calls Tryd.prog 27 #[v] w fun e w' => e = .returned (.bool (mayB xs)) ∧ Ext w w' := by
  obtain ⟨A, c, rfl, hO⟩ := hR.open_
  have hlen := hO.len
  by_cases h12 : xs.length ≤ 12
  · have hd : decide ((12 : Int) < (xs.length : Int)) = false := decide_eq_false (by omega)
    go_enter Tryd.func27, Tryd.ntmps27
    have HO := Lib.hid hO
    have HP := Lib.hid hp
    clear hO hp hR
    go_wp2_with fail
    go_loopw [3] (fun i wr => ∃ k : Nat, k ≤ xs.length ∧ i = .int .i64 k ∧ mayB xs = okFrom (xs.take k) (xs.drop k) ∧ Ext w wr) (fun i _ => xs.length - (intOf i).toNat)
    case atStart => exact ⟨0, Nat.zero_le _, rfl, by unfold mayB; rw [decide_eq_true h12]; simp, Kp.refl _ _⟩
    case round =>
      obtain ⟨k, hk, rfl, hok, hx⟩ := hrel
      rename World => wr
      by_cases hlt : k < xs.length
      · have hd3 : decide ((k : Int) < (xs.length : Int)) = true := decide_eq_true (by omega)
        obtain ⟨b, off, rfl, _, hb, c0, c1⟩ := (HO.out.kp (hx.mono fun _ _ _ => trivial)).rd.file hlt
        obtain ⟨f, hf⟩ : ∃ f, xs[k] = f := ⟨_, rfl⟩
        rw [hf] at c0 c1
        have hlt' : (k : Int) < (xs.length : Int) := by omega
        have h0 : (0 : Int) ≤ (k : Int) := by omega
        have hw : IntKind.i64.wrap ((k : Int) + 1) = (k : Int) + 1 := IntWalk.i64_in _ (by omega)
        have hfp : f.path.size ≤ 1000000 := by rw [← hf]; exact HP.out _ (List.getElem_mem hlt)
        have hs : okFrom (xs.take k) (xs.drop k) = (!badF (xs.take k) f && okFrom (xs.take (k + 1)) (xs.drop (k + 1))) := by rw [List.drop_eq_getElem_cons hlt, okFrom, hf, take_snoc xs hlt, hf]
        have hok0 : okFrom [] xs = okFrom (xs.take k) (xs.drop k) := by
          have := hok
          unfold mayB at this
          rw [decide_eq_true h12, Bool.true_and] at this
          exact this
        have HS := Lib.hid hs
        have HOK := Lib.hid hok0
        have hPath := fun W => refPath_calls f.path W hfp
        have HF := Lib.hid hf
        clear hs hok0 hok hf
        cases h1 : pathB f.path with
        | false =>
          rw [h1] at hPath
          have HPa := Lib.hid hPath
          clear hPath
          have hbad : mayB xs = false := mayB_false h12 HOK.out HS.out (by unfold badF; rw [h1]; rfl)
          have HB := Lib.hid hbad
          clear hbad
          go_wp2_with fail
          go_quiet ((go_at_call 26; exact Calls.quiet_of_same (HPa.out _)))
          go_wp2_with fail
          go_ret
          exact ⟨by rw [HB.out]; rfl, hx.drewN _⟩
        | true =>
          rw [h1] at hPath
          have HPa := Lib.hid hPath
          clear hPath
          by_cases h2 : 400 < f.data.size
          · have hd400 : decide ((400 : Int) < (f.data.size : Int)) = true := decide_eq_true (by omega)
            have hbad : mayB xs = false := mayB_false h12 HOK.out HS.out (by unfold badF; rw [h1, decide_eq_true h2]; rfl)
            have HB := Lib.hid hbad
            clear hbad
            go_wp2_with fail
            go_quiet ((go_at_call 26; exact Calls.quiet_of_same (HPa.out _)))
            go_wp2_with fail
            go_ret
            exact ⟨by rw [HB.out]; rfl, hx.drewN _⟩
          · have hd400 : decide ((400 : Int) < (f.data.size : Int)) = false := decide_eq_false (by omega)
            by_cases h3 : k = 0
            · have hdk : decide ((0 : Int) < (k : Int)) = false := decide_eq_false (by omega)
              have hdk' : decide (0 < k) = false := decide_eq_false (by omega)
              have hor : orderB (xs.take k) f = false := by rw [h3]; exact orderB_zero xs f
              clear h3
              have HOR := Lib.hid hor
              clear hor
              go_wp2_with fail
              go_quiet ((go_at_call 26; exact Calls.quiet_of_same (HPa.out _)))
              go_wp2_with fail
              have hxq : Ext w (wr.drewN nq) := hx.drewN nq
              generalize wr.drewN nq = wq at hxq ⊢
              clear hdk hdk'
              go_loopw [4] (fun q wr => ∃ j : Nat, j ≤ k ∧ q = .int .i64 j ∧ ((xs.take j).any fun y => underB f.path y.path) = false ∧ Ext w wr) (fun q _ => k - (intOf q).toNat)
              case atStart => exact ⟨0, Nat.zero_le _, rfl, by simp, hxq⟩
              case round =>
                obtain ⟨j, hj, rfl, hno, hxj⟩ := hrel
                rename World => wj
                by_cases hjk : j < k
                · have hdj : decide ((j : Int) < (k : Int)) = true := decide_eq_true (by omega)
                  have hjl : j < xs.length := by omega
                  obtain ⟨b2, off2, he2, _, hb2, e0, e1⟩ := (HO.out.kp (hxj.mono fun _ _ _ => trivial)).rd.file hjl
                  cases he2
                  obtain ⟨b3, off3, he3, _, hb3, i0, i1⟩ := (HO.out.kp (hxj.mono fun _ _ _ => trivial)).rd.file hlt
                  cases he3
                  rw [HF.out] at i0
                  obtain ⟨y, hy⟩ : ∃ y, xs[j] = y := ⟨_, rfl⟩
                  have hyp : y.path.size ≤ 1000000 := by rw [← hy]; exact HP.out _ (List.getElem_mem hjl)
                  have hsn : ((xs.take (j + 1)).any fun y => underB f.path y.path) = underB f.path y.path := by rw [take_snoc xs hjl, List.any_append, hno, hy]; simp
                  have hym : underB f.path y.path = true → ((xs.take k).any fun y => underB f.path y.path) = true := fun h => List.any_eq_true.2 ⟨y, by rw [← hy, List.mem_take_iff_getElem]; exact ⟨j, by omega, rfl⟩, h⟩
                  rw [hy] at e0
                  have hj0 : (0 : Int) ≤ (j : Int) := by omega
                  have hjlt : (j : Int) < (xs.length : Int) := by omega
                  have hwj : IntKind.i64.wrap ((j : Int) + 1) = (j : Int) + 1 := IntWalk.i64_in _ (by omega)
                  have hU := fun W => refUnder_calls f.path y.path W hfp hyp
                  have HSN := Lib.hid hsn
                  have HYM := Lib.hid hym
                  clear hsn hym hy hno e1 i1 c0 c1
                  cases hu : underB f.path y.path with
                  | true =>
                    rw [hu] at hU
                    have HU := Lib.hid hU
                    clear hU
                    go_wp2_with fail
                    go_quiet ((go_at_call 56; exact Calls.quiet_of_same (HU.out _)))
                    go_wp2_with fail
                    go_ret
                    have hbad : mayB xs = false := mayB_false h12 HOK.out HS.out (by unfold badF; rw [HYM.out hu]; simp)
                    exact ⟨by rw [hbad]; rfl, hxj.drewN _⟩
                  | false =>
                    rw [hu] at hU
                    have HU := Lib.hid hU
                    clear hU
                    go_wp2_with fail
                    go_quiet ((go_at_call 56; exact Calls.quiet_of_same (HU.out _)))
                    go_wp2_with fail
                    go_roundw
                    case rel => exact ⟨j + 1, by omega, by go_num, by rw [HSN.out]; exact hu, hxj.drewN _⟩
                    case measure => simp [intOf]; omega
                · have hdj : decide ((j : Int) < (k : Int)) = false := decide_eq_false (by omega)
                  have hjk2 : j = k := by omega
                  rw [hjk2] at hno
                  have HNO := Lib.hid hno
                  clear hno hjk2
                  go_wp2_with fail
                  go_roundw
                  case rel =>
                    refine ⟨k + 1, by omega, by go_num, ?_, hxj⟩
                    have := okFrom_next HOK.out HS.out (by unfold badF; rw [h1, decide_eq_false h2, HOR.out, HNO.out]; rfl)
                    unfold mayB
                    rw [decide_eq_true h12, Bool.true_and]
                    exact this
                  case measure => simp [intOf]; omega
            · obtain ⟨m, hm⟩ : ∃ m, k = m + 1 := ⟨k - 1, by omega⟩
              have hdk : decide ((0 : Int) < (k : Int)) = true := decide_eq_true (by omega)
              have hdk' : decide (0 < k) = true := decide_eq_true (by omega)
              have hw1 : IntKind.i64.wrap ((k : Int) - 1) = (m : Int) := by rw [IntWalk.i64_in _ (by omega)]; omega
              have hm0 : (0 : Int) ≤ (m : Int) := by omega
              have hm1 : (m : Int) < (xs.length : Int) := by omega
              have hmlt : m < xs.length := by omega
              obtain ⟨g, hg⟩ : ∃ g, xs[m] = g := ⟨_, rfl⟩
              have hor := orderB_succ xs f m hmlt
              rw [← hm, hg] at hor
              obtain ⟨b', off', he, _, hb', p0, p1⟩ := (HO.out.kp (hx.mono fun _ _ _ => trivial)).rd.file hmlt
              cases he
              rw [hg] at p0
              have hbl : Op.bytesLess g.path.toList f.path.toList = ltB g.path f.path := rfl
              clear hm hg h3 p1
              cases h4 : ltB g.path f.path with
              | false =>
                rw [h4] at hbl hor
                have hbad : mayB xs = false := mayB_false h12 HOK.out HS.out (by unfold badF; rw [hor]; simp)
                clear hor
                have HB := Lib.hid hbad
                clear hbad
                go_wp2_with fail
                go_quiet ((go_at_call 26; exact Calls.quiet_of_same (HPa.out _)))
                go_wp2_with fail
                go_ret
                exact ⟨by rw [HB.out]; rfl, hx.drewN _⟩
              | true =>
                rw [h4] at hbl hor
                have HOR := Lib.hid hor
                clear hor
                go_wp2_with fail
                go_quiet ((go_at_call 26; exact Calls.quiet_of_same (HPa.out _)))
                go_wp2_with fail
                have hxq : Ext w (wr.drewN nq) := hx.drewN nq
                generalize wr.drewN nq = wq at hxq ⊢
                clear hdk hdk'
                go_loopw [4] (fun q wr => ∃ j : Nat, j ≤ k ∧ q = .int .i64 j ∧ ((xs.take j).any fun y => underB f.path y.path) = false ∧ Ext w wr) (fun q _ => k - (intOf q).toNat)
                case atStart => exact ⟨0, Nat.zero_le _, rfl, by simp, hxq⟩
                case round =>
                  obtain ⟨j, hj, rfl, hno, hxj⟩ := hrel
                  rename World => wj
                  by_cases hjk : j < k
                  · have hdj : decide ((j : Int) < (k : Int)) = true := decide_eq_true (by omega)
                    have hjl : j < xs.length := by omega
                    obtain ⟨b2, off2, he2, _, hb2, e0, e1⟩ := (HO.out.kp (hxj.mono fun _ _ _ => trivial)).rd.file hjl
                    cases he2
                    obtain ⟨b3, off3, he3, _, hb3, i0, i1⟩ := (HO.out.kp (hxj.mono fun _ _ _ => trivial)).rd.file hlt
                    cases he3
                    rw [HF.out] at i0
                    obtain ⟨y, hy⟩ : ∃ y, xs[j] = y := ⟨_, rfl⟩
                    have hyp : y.path.size ≤ 1000000 := by rw [← hy]; exact HP.out _ (List.getElem_mem hjl)
                    have hsn : ((xs.take (j + 1)).any fun y => underB f.path y.path) = underB f.path y.path := by rw [take_snoc xs hjl, List.any_append, hno, hy]; simp
                    have hym : underB f.path y.path = true → ((xs.take k).any fun y => underB f.path y.path) = true := fun h => List.any_eq_true.2 ⟨y, by rw [← hy, List.mem_take_iff_getElem]; exact ⟨j, by omega, rfl⟩, h⟩
                    rw [hy] at e0
                    have hj0 : (0 : Int) ≤ (j : Int) := by omega
                    have hjlt : (j : Int) < (xs.length : Int) := by omega
                    have hwj : IntKind.i64.wrap ((j : Int) + 1) = (j : Int) + 1 := IntWalk.i64_in _ (by omega)
                    have hU := fun W => refUnder_calls f.path y.path W hfp hyp
                    have HSN := Lib.hid hsn
                    have HYM := Lib.hid hym
                    clear hsn hym hy hno e1 i1 c0 c1
                    cases hu : underB f.path y.path with
                    | true =>
                      rw [hu] at hU
                      have HU := Lib.hid hU
                      clear hU
                      go_wp2_with fail
                      go_quiet ((go_at_call 56; exact Calls.quiet_of_same (HU.out _)))
                      go_wp2_with fail
                      go_ret
                      have hbad : mayB xs = false := mayB_false h12 HOK.out HS.out (by unfold badF; rw [HYM.out hu]; simp)
                      exact ⟨by rw [hbad]; rfl, hxj.drewN _⟩
                    | false =>
                      rw [hu] at hU
                      have HU := Lib.hid hU
                      clear hU
                      go_wp2_with fail
                      go_quiet ((go_at_call 56; exact Calls.quiet_of_same (HU.out _)))
                      go_wp2_with fail
                      go_roundw
                      case rel => exact ⟨j + 1, by omega, by go_num, by rw [HSN.out]; exact hu, hxj.drewN _⟩
                      case measure => simp [intOf]; omega
                  · have hdj : decide ((j : Int) < (k : Int)) = false := decide_eq_false (by omega)
                    have hjk2 : j = k := by omega
                    rw [hjk2] at hno
                    have HNO := Lib.hid hno
                    clear hno hjk2
                    go_wp2_with fail
                    go_roundw
                    case rel =>
                      refine ⟨k + 1, by omega, by go_num, ?_, hxj⟩
                      have := okFrom_next HOK.out HS.out (by unfold badF; rw [h1, decide_eq_false h2, HOR.out, HNO.out]; rfl)
                      unfold mayB
                      rw [decide_eq_true h12, Bool.true_and]
                      exact this
                    case measure => simp [intOf]; omega
      · have hd2 : decide ((k : Int) < (xs.length : Int)) = false := decide_eq_false (by omega)
        have hkl : k = xs.length := by omega
        have htrue : mayB xs = true := by rw [hok, hkl, List.drop_length]; rfl
        clear hok
        go_wp2_with fail
        go_ret
        exact ⟨by rw [htrue]; rfl, hx⟩
  · have hd : decide ((12 : Int) < (xs.length : Int)) = true := decide_eq_true (by omega)
    go_enter Tryd.func27, Tryd.ntmps27
    go_wp2_with fail
    go_ret
    exact ⟨by unfold mayB; rw [decide_eq_false h12]; rfl, Kp.refl _ _⟩

end Go.Proofs.YtinafpbdlblcaaaDoor
