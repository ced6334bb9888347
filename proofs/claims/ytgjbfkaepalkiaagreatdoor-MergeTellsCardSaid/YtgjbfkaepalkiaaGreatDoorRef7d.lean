/-
  cortegeref7: Get; small laws. cortegeref7: Rise. cortegeref7: Paths; texts: SameTexts, OverTexts.
-/
import Derived.Test.YtgjbfkaepalkiaaGreatDoorConcat
import Derived.Deep.RegionHeld3
import Derived.Test.YtgjbfkaepalkiaaGreatDoorSameX
namespace Go.Proofs.YtgjbfkaepalkiaaGreatDoor
open Go.RowKit
set_option linter.unusedVariables false
set_option linter.unusedSimpArgs false
attribute [local go_sem] Oper.semAt_some

set_option maxHeartbeats 400000 in
/-- cortegeref7.Get. -/
theorem refGet_calls (v : Value) (p : ByteArray) (xs : List File) (S : Fp) (w : World) (hR : Rd EF S w v xs) (hb : xs.length ≤ 1000000) :
    Calls Tryz.prog 164 #[v, .string p] w fun e w' => e = .returned (.tuple #[.string (getD xs p), .bool (getF xs p).isSome]) ∧ Ext w w' := by
  obtain ⟨A, c, rfl, hO⟩ := hR.open_
  have hlen := hO.len
  clear hR
  go_enter Tryz.func164, Tryz.ntmps164
  go_wp2_with fail
  go_loopw [6] (fun i wr => ∃ k : Nat, k ≤ xs.length ∧ i = .int .i64 k ∧ getF (xs.take k) p = none ∧ Ext w wr) (fun i _ => xs.length - (intOf i).toNat)
  case atStart => exact ⟨0, Nat.zero_le _, rfl, by simp [getF], Kp.refl _ _⟩
  case round =>
    obtain ⟨k, hk, rfl, hno, hx⟩ := hrel
    by_cases hlt : k < xs.length
    · have hd3 : decide ((k : Int) < (xs.length : Int)) = true := decide_eq_true (by omega)
      obtain ⟨b, off, rfl, _, hb, c0, c1⟩ := (hO.kp (hx.mono fun _ _ _ => trivial)).rd.file hlt
      have hlt' : (k : Int) < (xs.length : Int) := by omega
      have h0 : (0 : Int) ≤ (k : Int) := by omega
      have hw : IntKind.i64.wrap ((k : Int) + 1) = (k : Int) + 1 := IntWalk.i64_in _ (by omega)
      have hsn := getF_snoc xs p k hlt hno
      obtain ⟨f, hf⟩ : ∃ f, xs[k] = f := ⟨_, rfl⟩
      rw [hf] at c0 c1 hsn
      have HS := Lib.hid hsn
      have HNO := Lib.hid hno
      clear hsn hno hf
      cases hfp : (f.path.toList == p.toList) with
      | true =>
        go_wp2_with fail
        have hres : getF xs p = some f := getF_of_take (by rw [HS.out, hfp]; rfl)
        have hgd : getD xs p = f.data := by unfold getD; rw [hres]; rfl
        go_ret2
        exact ⟨by rw [hres, hgd]; rfl, hx⟩
      | false =>
        go_wp2_with fail
        go_roundw
        case rel => exact ⟨k + 1, by omega, by go_num, by rw [HS.out, hfp]; rfl, hx⟩
        case measure => simp [intOf]; omega
    · have hd3 : decide ((k : Int) < (xs.length : Int)) = false := decide_eq_false (by omega)
      have hkl : xs.take k = xs := List.take_of_length_le (by omega)
      rw [hkl] at hno
      have hgd : getD xs p = ⟨#[]⟩ := by unfold getD; rw [hno]; rfl
      have H1 := Lib.hid hno
      have H2 := Lib.hid hgd
      clear hno hgd hkl
      go_wp2_with fail
      go_ret2
      exact ⟨by rw [H1.out, H2.out]; rfl, hx⟩

/-- Whatever it points to: no element, nothing is read. -/
theorem Rd.empty {α : Type} {E : El α} {S : Fp} {w : World} {ad : Addr} {n : Nat} {xs : List α} (hn : n = 0) (hx : xs = []) : Rd E S w (.slice (some ad) n 0) xs := by
  subst hx hn
  exact ⟨some ad, 0, rfl, Nat.le_refl _, Nat.zero_le _, fun h => rfl, fun h => by simp at h⟩
theorem gtr_true {x y : ByteArray} (h : ltB x y = true) : (!Op.bytesLess y.toList x.toList && !(y.toList == x.toList)) = true := by
  have h1 : Op.bytesLess y.toList x.toList = false := ltB_asymm h
  rw [h1, toList_beq]
  have : y ≠ x := by rintro rfl; rw [ltB_irrefl] at h; cases h
  simp [this]
theorem gtr_false {x y : ByteArray} (h : ltB x y = false) : (!Op.bytesLess y.toList x.toList && !(y.toList == x.toList)) = false := by
  cases h1 : Op.bytesLess y.toList x.toList with
  | true => rfl
  | false =>
    have : y = x := ltB_tri h1 h
    subst this
    simp
theorem one_max : 1 ≤ maxLen := by simp [maxLen]
theorem put_sizes (ss : List File) (f : File) (j : Nat) (h : ss.length ≤ 2000) :
    (([] : List File).length + (ss.take j).length) * 32 ≤ 140737488355328 ∧ ([] : List File).length + (ss.take j).length ≤ maxLen ∧ (([] ++ ss.take j).length + [f].length) * 32 ≤ 140737488355328 ∧ ([] ++ ss.take j).length + [f].length ≤ maxLen ∧
    ((([] ++ ss.take j) ++ [f]).length + (ss.drop j).length) * 32 ≤ 140737488355328 ∧ (([] ++ ss.take j) ++ [f]).length + (ss.drop j).length ≤ maxLen := by
  unfold maxLen
  simp only [List.nil_append, List.length_append, List.length_take, List.length_drop, List.length_cons, List.length_nil]
  omega

end Go.Proofs.YtgjbfkaepalkiaaGreatDoor

namespace Go.Proofs.YtgjbfkaepalkiaaGreatDoor
open Go.RowKit
set_option linter.unusedVariables false
set_option linter.unusedSimpArgs false
attribute [local go_sem] Oper.semAt_some

set_option maxHeartbeats 2000000 in
set_option maxRecDepth 100000 in
/-- cortegeref7.Rise. -/
theorem refRise_calls (v : Value) (all : List ByteArray) (S : Fp) (w : World) (hR : Rd ES S w v all) (hb : all.length ≤ 100000) :
    Calls Tryz.prog 121 #[v] w fun e w' => ∃ u, e = .returned u ∧ New ES 9 w.heap.size w' u (riseT all) ∧ Ext w w' := by
  obtain ⟨A, c, rfl, hO⟩ := hR.open_
  have hlen := hO.len
  clear hR
  go_enter Tryz.func121, Tryz.ntmps121
  go_wp2_with fail
  go_loopw [3, 4] (fun o i wr => ∃ k : Nat, k ≤ all.length ∧ i = .int .i64 k ∧ New ES 9 w.heap.size wr o (riseT (all.take k)) ∧ Ext w wr) (fun _ i _ => all.length - (intOf i).toNat)
  case atStart => exact ⟨0, Nat.zero_le _, rfl, New.nil _ _ _, Kp.refl _ _⟩
  case round =>
    obtain ⟨k, hk, rfl, hN, hx⟩ := hrel
    rename World => wo
    by_cases hlt : k < all.length
    · have hd3 : decide ((k : Int) < (all.length : Int)) = true := decide_eq_true (by omega)
      obtain ⟨b, off, rfl, _, hb, c0⟩ := (hO.kp (hx.mono fun _ _ _ => trivial)).rd.text hlt
      have hsn : riseT (all.take (k + 1)) = addT (riseT (all.take k)) all[k] := by rw [take_snoc all hlt, riseT_snoc]
      have hstr := riseT_strict (all.take k)
      have hsl : (riseT (all.take k)).length ≤ k := Nat.le_trans (riseT_length _) (by rw [List.length_take]; omega)
      obtain ⟨f, hf⟩ : ∃ f, all[k] = f := ⟨_, rfl⟩
      obtain ⟨ss, hss⟩ : ∃ ss, riseT (all.take k) = ss := ⟨_, rfl⟩
      rw [hf] at c0
      rw [hf, hss] at hsn
      rw [hss] at hN hstr hsl
      obtain ⟨m, hm⟩ : ∃ m, ss.length = m := ⟨_, rfl⟩
      rw [hm] at hsl
      have hlt' : (k : Int) < (all.length : Int) := by omega
      have h0 : (0 : Int) ≤ (k : Int) := by omega
      have HS := Lib.hid hsn
      have HL := Lib.hid hm
      have HSTR := Lib.hid hstr
      obtain ⟨A2, c2, hu5, hO2⟩ := hN.rd.open_
      subst hu5
      rw [hm] at hN ⊢
      have hmc : m ≤ c2 := by rw [← hm]; exact hO2.le
      clear hsn hf hss hm hstr
      go_wp2_with fail
      go_loopw [5] (fun q wj => ∃ j : Nat, j ≤ m ∧ q = .int .i64 j ∧ (∀ y ∈ ss.drop j, ltB f y = true) ∧ Ext wo wj) (fun q _ => (intOf q).toNat)
      case atStart => exact ⟨m, Nat.le_refl _, rfl, by rw [List.drop_of_length_le (by rw [HL.out]; exact Nat.le_refl _)]; simp, Kp.refl _ _⟩
      case round =>
        obtain ⟨j, hj, rfl, hgt, hxj⟩ := hrel
        rename World => wj
        have HG := Lib.hid hgt
        clear hgt
        have cf0 : wj.cell? ⟨b, off + k, none⟩ = some (.string f) := (hxj.cell (p := ⟨b, off + k, none⟩) hb trivial).trans c0
        rcases Nat.eq_zero_or_pos j with hj0 | hj0
        · subst hj0
          have d1 : decide ((0 : Int) < ((0 : Nat) : Int)) = false := by simp
          have hno : f ∉ ss := not_mem_of 0 (by simp) HG.out
          have hins := addT_at HSTR.out 0 (Nat.zero_le _) (by simp) HG.out hno
          have HI := Lib.hid hins
          clear hins hno
          go_wp2_with fail
          go_quiet (fail)
          have hxq : Ext wo (wj.drewN nq) := hxj.drewN nq
          have cq0 : (wj.drewN nq).cell? ⟨b, off + k, none⟩ = some (.string f) := cf0
          clear cf0
          generalize wj.drewN nq = wq at hxq cq0 ⊢
          go_wp2_with fail
          go_quiet (fail)
          go_wp2_with fail
          have HT : ∀ W, Ext wo W → Rd ES (fun k => w.heap.size ≤ k) W (.slice A2 (0) c2) (ss.take (0)) := fun W hW => (hO2.kp (hW.mono fun _ _ _ => trivial)).takeRd (by rw [HL.out]; omega)
          have HD : ∀ W, Ext wo W → Rd ES (fun k => w.heap.size ≤ k) W (.slice A2 m c2) (ss.drop (0)) := fun W hW => by rw [List.drop_zero]; have := (hO2.kp (hW.mono fun _ _ _ => trivial)).shut; rw [HL.out] at this; exact this
          have HKe : ∀ W, Ext wo W → W.cell? ⟨b, off + k, none⟩ = some (.string f) := fun W hW => (hW.cell (p := ⟨b, off + k, none⟩) hb trivial).trans c0
          obtain ⟨l1, l2, l3, l4, l5, l6⟩ := put_sizesT ss f (0) (by rw [HL.out]; omega)
          have HT' := Lib.hid HT
          have HD' := Lib.hid HD
          have HKe' := Lib.hid HKe
          clear HT HD HKe
          go_region_held3 (fun w' => w'.cell? ⟨b, off + k, none⟩ = some (.string f))
            (first | exact HKe'.out _ hx2a | exact HKe'.out _ hx9 | exact HKe'.out _ (hx3.alloc _) | exact HKe'.out _ hx3 | exact HKe'.out _ ((hxq.drewN nq).drew) | exact HKe'.out _ (((hxq.drewN nq).drew).alloc _) | fail)
            (first
              | (refine step_append_new (w0 := wo) tiS (by rfl) (by rfl) (New.nil (E := ES) _ _ _) ((hxq.drewN nq).drew) (HT'.out _ ((hxq.drewN nq).drew)) (by rfl) (by rfl) l1 l2 ?_; intro v3 w3 hN3 hx3 hk3)
              | (refine step_append_new (w0 := wo) tiS (by rfl) (by rfl) (New.nil (E := ES) _ _ _) (((hxq.drewN nq).drew).alloc _) (HT'.out _ (((hxq.drewN nq).drew).alloc _)) (by rfl) (by rfl) l1 l2 ?_; intro v3 w3 hN3 hx3 hk3)
              | (refine step_append_new (w0 := wo) (ys := [f]) tiS (by rfl) (by rfl) (hN3.ext ((Kp.refl _ w3).alloc _)) (hx3.alloc _) (Own.made w3 9 [f] one_max).rd (by rfl) (by rfl) l3 l4 ?_; intro v9 w9 hN9 hx9 hk9)
              | (refine step_append_new (w0 := wo) (ys := [f]) tiS (by rfl) (by rfl) hN3 hx3 ((Own.made _ 9 [f] one_max).rd.kp (hk3.mono fun _ _ _ => fun h => by cases h)) (by rfl) (by rfl) l3 l4 ?_; intro v9 w9 hN9 hx9 hk9)
              | (refine step_append_new (w0 := wo) tiS (by rfl) (by rfl) hN9 hx9 (HD'.out _ hx9) (by rfl) (by rfl) l5 l6 ?_; intro v10 w10 hN10 hx2a hk10)
              | fail)
          all_goals
            obtain ⟨A', n', c', rfl⟩ := hN10.1.slice
            go_wp2_with fail
            go_roundw
            case rel =>
              refine ⟨k + 1, by omega, by go_num, ?_, hx.trans hx2a⟩
              rw [HS.out, HI.out]
              have hsz := hx.size
              have := hN10.less (m := w.heap.size) hsz
              simpa using this
            case measure => simp [intOf]; omega
        · obtain ⟨s, hs⟩ : ∃ s, j = s + 1 := ⟨j - 1, by omega⟩
          subst hs
          have hslt : s < ss.length := by have := HL.out; omega
          obtain ⟨g, hg⟩ : ∃ g, ss[s] = g := ⟨_, rfl⟩
          obtain ⟨b2, off2, hA2, hb2S, hb2, e0⟩ := (hO2.kp (hxj.mono fun _ _ _ => trivial)).rd.text hslt
          rw [hg] at e0
          subst hA2
          have hcast : ((s + 1 : Nat) : Int) = (s : Int) + 1 := by omega
          rw [hcast]
          have d1' : decide ((0 : Int) < (s : Int) + 1) = true := decide_eq_true (by omega)
          have hs0 : (0 : Int) ≤ (s : Int) := by omega
          have hs1 : (s : Int) < (m : Int) := by omega
          have hs2 : (s : Int) + 1 ≤ (m : Int) := by omega
          have hs3 : (0 : Int) ≤ (s : Int) + 1 := by omega
          have hs4 : s + 1 ≤ c2 := by omega
          have hs5 : (s : Int) + 1 ≤ (c2 : Int) := by omega
          clear hcast
          cases hcmp : ltB f g with
          | true =>
            have hgt : (!Op.bytesLess g.toList f.toList && !(g.toList == f.toList)) = true := gtr_true hcmp
            have HG2 : Hid (∀ y ∈ ss.drop s, ltB f y = true) := Lib.hid fun y hy => by
              rw [List.drop_eq_getElem_cons hslt] at hy
              rcases List.mem_cons.1 hy with rfl | hy
              · rw [hg]; exact hcmp
              · exact HG.out y hy
            have hw1 : IntKind.i64.wrap ((s : Int) + 1 - 1) = (s : Int) := by rw [IntWalk.i64_in _ (by omega)]; omega
            clear hcmp hg
            go_wp2_with fail
            go_quiet (fail)
            go_wp2_with fail
            go_roundw
            case rel => exact ⟨s, by omega, rfl, HG2.out, hxj.drewN _⟩
            case measure => first | (simp [intOf]; done) | (simp [intOf]; omega)
          | false =>
            have hgt : (!Op.bytesLess g.toList f.toList && !(g.toList == f.toList)) = false := gtr_false hcmp
            have hw1 : IntKind.i64.wrap ((s : Int) + 1 - 1) = (s : Int) := by rw [IntWalk.i64_in _ (by omega)]; omega
            by_cases heq : g = f
            · have heq' : (g.toList == f.toList) = true := by rw [heq]; simp
              have hsame : addT ss f = ss := by unfold addT; exact if_pos (any_mem.2 (by rw [← heq, ← hg]; exact List.getElem_mem hslt))
              have HI := Lib.hid hsame
              clear hsame hcmp hg heq
              go_wp2_with fail
              go_quiet (fail)
              have hxq : Ext wo (wj.drewN nq) := hxj.drewN nq
              have cq0 : (wj.drewN nq).cell? ⟨b, off + k, none⟩ = some (.string f) := cf0
              have cq1 : (wj.drewN nq).cell? ⟨b2, off2 + s, none⟩ = some (.string g) := e0
              clear cf0 e0 hgt
              generalize wj.drewN nq = wq at hxq cq0 cq1 ⊢
              go_wp2_with fail
              go_quiet (fail)
              clear hw1
              go_wp2_with fail
              go_roundw
              case rel =>
                refine ⟨k + 1, by omega, by go_num, ?_, hx.trans (hxq.drewN _)⟩
                rw [HS.out, HI.out]
                exact hN.ext (hxq.drewN _)
              case measure => simp [intOf]; omega
            · have heq' : (g.toList == f.toList) = false := by rw [toList_beq]; simpa using heq
              have hltgf : ltB g f = true := by
                cases h' : ltB g f with
                | true => rfl
                | false => exact absurd (ltB_tri h' hcmp) heq
              have hbe := HSTR.out.take_lt hslt (x := f) (by rw [hg]; exact hltgf)
              have hno : f ∉ ss := not_mem_of (s + 1) hbe HG.out
              have hins := addT_at HSTR.out (s + 1) (by omega) (fun y hy => ltB_asymm (hbe y hy)) HG.out hno
              have HI := Lib.hid hins
              have hless : Op.bytesLess g.toList f.toList = true := hltgf
              clear hins hcmp hg hno hbe hltgf heq
              clear hgt
              have ht1 : ((s : Int) + 1).toNat = s + 1 := by omega
              go_wp2_with fail
              go_quiet (fail)
              have hxq : Ext wo (wj.drewN nq) := hxj.drewN nq
              have cq0 : (wj.drewN nq).cell? ⟨b, off + k, none⟩ = some (.string f) := cf0
              have cq1 : (wj.drewN nq).cell? ⟨b2, off2 + s, none⟩ = some (.string g) := e0
              clear cf0 e0 hless
              generalize wj.drewN nq = wq at hxq cq0 cq1 ⊢
              by_cases hc2 : c2 = s + 1
              · have hc2' : s + 1 = m := by omega
                subst hc2
                have HC2 := Lib.hid hc2'
                clear hc2' hmc
                go_wp2_with fail
                go_quiet (fail)
                clear hw1 cq1 heq'
                go_wp2_with fail
                have HT : ∀ W, Ext wo W → Rd ES (fun k => w.heap.size ≤ k) W (.slice (some ⟨b2, off2, none⟩) (s + 1) (s + 1)) (ss.take (s + 1)) := fun W hW => (hO2.kp (hW.mono fun _ _ _ => trivial)).takeRd (by rw [HL.out]; omega)
                have HD : ∀ W, Ext wo W → Rd ES (fun k => w.heap.size ≤ k) W (.slice (some ⟨b2, off2, none⟩) (m - (s + 1)) 0) (ss.drop (s + 1)) := fun W hW => Rd.empty (by have := HC2.out; omega) (by rw [List.drop_of_length_le (by rw [HL.out]; have := HC2.out; omega)])
                have HKe : ∀ W, Ext wo W → W.cell? ⟨b, off + k, none⟩ = some (.string f) := fun W hW => (hW.cell (p := ⟨b, off + k, none⟩) hb trivial).trans c0
                obtain ⟨l1, l2, l3, l4, l5, l6⟩ := put_sizesT ss f (s + 1) (by rw [HL.out]; omega)
                have HT' := Lib.hid HT
                have HD' := Lib.hid HD
                have HKe' := Lib.hid HKe
                clear HT HD HKe
                go_region_held3 (fun w' => w'.cell? ⟨b, off + k, none⟩ = some (.string f))
                  (first | exact HKe'.out _ hx2a | exact HKe'.out _ hx9 | exact HKe'.out _ (hx3.alloc _) | exact HKe'.out _ hx3 | exact HKe'.out _ ((hxq.drewN nq).drew) | exact HKe'.out _ (((hxq.drewN nq).drew).alloc _) | fail)
                  (first
                    | (refine step_append_new (w0 := wo) tiS (by rfl) (by rfl) (New.nil (E := ES) _ _ _) ((hxq.drewN nq).drew) (HT'.out _ ((hxq.drewN nq).drew)) (by rfl) (by rfl) l1 l2 ?_; intro v3 w3 hN3 hx3 hk3)
                    | (refine step_append_new (w0 := wo) tiS (by rfl) (by rfl) (New.nil (E := ES) _ _ _) (((hxq.drewN nq).drew).alloc _) (HT'.out _ (((hxq.drewN nq).drew).alloc _)) (by rfl) (by rfl) l1 l2 ?_; intro v3 w3 hN3 hx3 hk3)
                    | (refine step_append_new (w0 := wo) (ys := [f]) tiS (by rfl) (by rfl) (hN3.ext ((Kp.refl _ w3).alloc _)) (hx3.alloc _) (Own.made w3 9 [f] one_max).rd (by rfl) (by rfl) l3 l4 ?_; intro v9 w9 hN9 hx9 hk9)
                    | (refine step_append_new (w0 := wo) (ys := [f]) tiS (by rfl) (by rfl) hN3 hx3 ((Own.made _ 9 [f] one_max).rd.kp (hk3.mono fun _ _ _ => fun h => by cases h)) (by rfl) (by rfl) l3 l4 ?_; intro v9 w9 hN9 hx9 hk9)
                    | (refine step_append_new (w0 := wo) tiS (by rfl) (by rfl) hN9 hx9 (HD'.out _ hx9) (by rfl) (by rfl) l5 l6 ?_; intro v10 w10 hN10 hx2a hk10)
                    | fail)
                all_goals
                  obtain ⟨A', n', c', rfl⟩ := hN10.1.slice
                  go_wp2_with fail
                  go_roundw
                  case rel =>
                    refine ⟨k + 1, by omega, by go_num, ?_, hx.trans hx2a⟩
                    rw [HS.out, HI.out]
                    have hsz := hx.size
                    have := hN10.less (m := w.heap.size) hsz
                    simpa using this
                  case measure => simp [intOf]; omega
              · clear hmc
                go_wp2_with fail
                go_quiet (fail)
                clear hw1 cq1 heq'
                go_wp2_with fail
                have HT : ∀ W, Ext wo W → Rd ES (fun k => w.heap.size ≤ k) W (.slice (some ⟨b2, off2, none⟩) (s + 1) c2) (ss.take (s + 1)) := fun W hW => (hO2.kp (hW.mono fun _ _ _ => trivial)).takeRd (by rw [HL.out]; omega)
                have HD : ∀ W, Ext wo W → Rd ES (fun k => w.heap.size ≤ k) W (.slice (some ⟨b2, off2 + (s + 1), none⟩) (m - (s + 1)) (c2 - (s + 1))) (ss.drop (s + 1)) := fun W hW => by have := (hO2.kp (hW.mono fun _ _ _ => trivial)).dropRd (j := s + 1) (by rw [HL.out]; omega); rw [HL.out] at this; simpa [ES] using this
                have HKe : ∀ W, Ext wo W → W.cell? ⟨b, off + k, none⟩ = some (.string f) := fun W hW => (hW.cell (p := ⟨b, off + k, none⟩) hb trivial).trans c0
                obtain ⟨l1, l2, l3, l4, l5, l6⟩ := put_sizesT ss f (s + 1) (by rw [HL.out]; omega)
                have HT' := Lib.hid HT
                have HD' := Lib.hid HD
                have HKe' := Lib.hid HKe
                clear HT HD HKe
                go_region_held3 (fun w' => w'.cell? ⟨b, off + k, none⟩ = some (.string f))
                  (first | exact HKe'.out _ hx2a | exact HKe'.out _ hx9 | exact HKe'.out _ (hx3.alloc _) | exact HKe'.out _ hx3 | exact HKe'.out _ ((hxq.drewN nq).drew) | exact HKe'.out _ (((hxq.drewN nq).drew).alloc _) | fail)
                  (first
                    | (refine step_append_new (w0 := wo) tiS (by rfl) (by rfl) (New.nil (E := ES) _ _ _) ((hxq.drewN nq).drew) (HT'.out _ ((hxq.drewN nq).drew)) (by rfl) (by rfl) l1 l2 ?_; intro v3 w3 hN3 hx3 hk3)
                    | (refine step_append_new (w0 := wo) tiS (by rfl) (by rfl) (New.nil (E := ES) _ _ _) (((hxq.drewN nq).drew).alloc _) (HT'.out _ (((hxq.drewN nq).drew).alloc _)) (by rfl) (by rfl) l1 l2 ?_; intro v3 w3 hN3 hx3 hk3)
                    | (refine step_append_new (w0 := wo) (ys := [f]) tiS (by rfl) (by rfl) (hN3.ext ((Kp.refl _ w3).alloc _)) (hx3.alloc _) (Own.made w3 9 [f] one_max).rd (by rfl) (by rfl) l3 l4 ?_; intro v9 w9 hN9 hx9 hk9)
                    | (refine step_append_new (w0 := wo) (ys := [f]) tiS (by rfl) (by rfl) hN3 hx3 ((Own.made _ 9 [f] one_max).rd.kp (hk3.mono fun _ _ _ => fun h => by cases h)) (by rfl) (by rfl) l3 l4 ?_; intro v9 w9 hN9 hx9 hk9)
                    | (refine step_append_new (w0 := wo) tiS (by rfl) (by rfl) hN9 hx9 (HD'.out _ hx9) (by rfl) (by rfl) l5 l6 ?_; intro v10 w10 hN10 hx2a hk10)
                    | fail)
                all_goals
                  obtain ⟨A', n', c', rfl⟩ := hN10.1.slice
                  go_wp2_with fail
                  go_roundw
                  case rel =>
                    refine ⟨k + 1, by omega, by go_num, ?_, hx.trans hx2a⟩
                    rw [HS.out, HI.out]
                    have hsz := hx.size
                    have := hN10.less (m := w.heap.size) hsz
                    simpa using this
                  case measure => simp [intOf]; omega
    · have hd3 : decide ((k : Int) < (all.length : Int)) = false := decide_eq_false (by omega)
      have hkl : all.take k = all := List.take_of_length_le (by omega)
      rw [hkl] at hN
      obtain ⟨A', n', c', rfl⟩ := hN.1.slice
      clear hkl
      go_wp2_with fail
      go_ret
      exact ⟨_, rfl, hN, hx⟩

end Go.Proofs.YtgjbfkaepalkiaaGreatDoor

namespace Go.Proofs.YtgjbfkaepalkiaaGreatDoor
open Go.RowKit
set_option linter.unusedVariables false
set_option linter.unusedSimpArgs false
attribute [local go_sem] Oper.semAt_some

set_option maxHeartbeats 800000 in
/-- cortegeref7.Paths. -/
theorem refPaths_calls (v : Value) (ss : List SliceV) (xss : List (List File)) (S : Fp) (w : World) (hV : Rd ESL S w v ss) (hA : RdAll S w ss xss) (hb : sumL xss ≤ 100000) :
    Calls Tryz.prog 138 #[v] w fun e w' => ∃ u, e = .returned u ∧ New ES 9 w.heap.size w' u (riseT (flatP xss)) ∧ Ext w w' := by
  obtain ⟨A, c, rfl, hO⟩ := hV.open_
  have hlen := hO.len
  have hl := hA.length
  obtain ⟨n, hn⟩ : ∃ n, ss.length = n := ⟨_, rfl⟩
  rw [hn] at hlen hV hl ⊢
  have HN := Lib.hid hn
  have HL := Lib.hid hl
  clear hn hl hV
  go_enter Tryz.func138, Tryz.ntmps138
  go_wp2_with fail
  go_loopw [3, 4] (fun o i wr => ∃ k : Nat, k ≤ n ∧ i = .int .i64 k ∧ New ES 9 w.heap.size wr o (flatP (xss.take k)) ∧ Ext w wr) (fun _ i _ => n - (intOf i).toNat)
  case atStart => exact ⟨0, Nat.zero_le _, rfl, New.nil _ _ _, Kp.refl _ _⟩
  case round =>
    obtain ⟨k, hk, rfl, hN, hx⟩ := hrel
    rename World => wo
    by_cases hlt : k < n
    · have hd3 : decide ((k : Int) < (n : Int)) = true := decide_eq_true (by omega)
      have hkx : k < xss.length := by have := HL.out; omega
      have hks : k < ss.length := by have := HN.out; omega
      obtain ⟨b, off, rfl, _, hbl, cw⟩ := hO.rd.slice hks
      have c0 := (hx.cell (p := ⟨b, off + k, none⟩) hbl trivial).trans cw
      have hRd := hA.get k hks hkx
      obtain ⟨a1, c1, hv1, hO1⟩ := hRd.open_
      have hfl := flatP_take xss k hkx
      have hle1 : (flatP (xss.take k)).length + xss[k].length ≤ 100000 := by
        rw [flatP_len]; have := sumL_take xss k hkx; have := sumL_le xss (k + 1); omega
      obtain ⟨l, hl⟩ : ∃ l, xss[k] = l := ⟨_, rfl⟩
      obtain ⟨p0, hp0⟩ : ∃ p0, flatP (xss.take k) = p0 := ⟨_, rfl⟩
      rw [hv1] at c0 cw hRd
      rw [hl] at c0 cw hRd hfl hO1 hle1
      rw [hp0] at hN hfl hle1
      have hll := hO1.len
      obtain ⟨m, hm⟩ : ∃ m, l.length = m := ⟨_, rfl⟩
      rw [hm] at c0 cw hll hle1
      have hlt' : (k : Int) < (n : Int) := by omega
      have h0 : (0 : Int) ≤ (k : Int) := by omega
      have hw : IntKind.i64.wrap ((k : Int) + 1) = (k : Int) + 1 := IntWalk.i64_in _ (by omega)
      have HF := Lib.hid hfl
      have HM := Lib.hid hm
      have HLE := Lib.hid hle1
      clear hfl hle1 hl hp0 hv1 hm hRd
      go_wp2_with fail
      go_loopw [3, 5] (fun o q wr => ∃ j : Nat, j ≤ m ∧ q = .int .i64 j ∧ New ES 9 w.heap.size wr o (p0 ++ (l.take j).map File.path) ∧ Ext w wr) (fun _ q _ => m - (intOf q).toNat)
      case atStart => exact ⟨0, Nat.zero_le _, rfl, by simpa using hN, hx⟩
      case round =>
        obtain ⟨j, hj, rfl, hNj, hxj⟩ := hrel
        rename World => wj
        have cj := (hxj.cell (p := ⟨b, off + k, none⟩) hbl trivial).trans cw
        by_cases hltj : j < m
        · have hd4 : decide ((j : Int) < (m : Int)) = true := decide_eq_true (by omega)
          have hjl : j < l.length := by have := HM.out; omega
          obtain ⟨b3, off3, rfl, _, hb3, e0, e1⟩ := (hO1.kp (hxj.mono fun _ _ _ => trivial)).rd.file hjl
          obtain ⟨f, hf⟩ : ∃ f, l[j] = f := ⟨_, rfl⟩
          have hts : (l.take (j + 1)).map File.path = (l.take j).map File.path ++ [f.path] := by rw [take_snoc l hjl, List.map_append, hf]; rfl
          rw [hf] at e0 e1
          have hltj' : (j : Int) < (m : Int) := by omega
          have hj0 : (0 : Int) ≤ (j : Int) := by omega
          have hwj : IntKind.i64.wrap ((j : Int) + 1) = (j : Int) + 1 := IntWalk.i64_in _ (by omega)
          have hsz : (p0 ++ (l.take j).map File.path).length + 1 ≤ 100000 := by rw [List.length_append, List.length_map, List.length_take]; have := HLE.out; have := HM.out; omega
          have HTS := Lib.hid hts
          have HSZ := Lib.hid hsz
          clear hts hsz hf hw
          go_wp2_with (at_builtin; refine stop ?_)
          refine list_append1 tiS f.path rfl rfl rfl hNj hxj rfl rfl rfl (by have := HSZ.out; omega) (by have := HSZ.out; unfold maxLen; omega) ?_
          intro v' w' hN' hx'
          obtain ⟨A', n', c', rfl⟩ := hN'.1.slice
          clear c0 cw cj e0 e1
          go_wp2_with fail
          go_roundw
          case rel => exact ⟨j + 1, by omega, by go_num, by rw [HTS.out, ← List.append_assoc]; exact hN', hx'⟩
          case measure => simp [intOf]; omega
        · have hd4 : decide ((j : Int) < (m : Int)) = false := decide_eq_false (by omega)
          have hall : l.take j = l := List.take_of_length_le (by have := HM.out; omega)
          rw [hall] at hNj
          clear hall c0 cw
          obtain ⟨A', n', c', hv'⟩ := hNj.1.slice
          subst hv'
          go_wp2_with fail
          go_roundw
          case rel => exact ⟨k + 1, by omega, by go_num, by rw [HF.out]; exact hNj, hxj⟩
          case measure => simp [intOf]; omega
    · have hd3 : decide ((k : Int) < (n : Int)) = false := decide_eq_false (by omega)
      have hall : xss.take k = xss := List.take_of_length_le (by have := HL.out; omega)
      rw [hall] at hN
      clear hall
      obtain ⟨A', n', c', hv'⟩ := hN.1.slice
      subst hv'
      go_wp2_with (go_at_call 121; refine stop ?_)
      refine (refRise_calls _ _ _ wo hN.rd (by rw [flatP_len]; exact hb)).mono ?_
      rintro e w3 ⟨u, rfl, hN3, hx3⟩
      go_wp2_with fail
      go_ret
      exact ⟨_, rfl, hN3.less hx.size, hx.trans hx3⟩

end Go.Proofs.YtgjbfkaepalkiaaGreatDoor
