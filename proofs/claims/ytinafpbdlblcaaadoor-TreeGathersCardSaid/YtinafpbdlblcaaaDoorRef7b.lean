/-
  cortegeref7: Put.
-/
import Derived.Test.YtinafpbdlblcaaaDoorRef7a
import Derived.Deep.RegionHeld3
namespace Go.Proofs.YtinafpbdlblcaaaDoor
open Go.RowKit
set_option linter.unusedVariables false
set_option linter.unusedSimpArgs false
attribute [local go_sem] Oper.semAt_some

/-- Whatever it points to: no element, nothing is read. -/
theorem Rd.empty {α : Type} {E : El α} {S : Fp} {w : World} {ad : Addr} {n : Nat} {xs : List α} (hn : n = 0) (hx : xs = []) : Rd E S w (.slice (some ad) n 0) xs := by
  subst hx hn
  exact ⟨some ad, 0, rfl, Nat.le_refl _, Nat.zero_le _, fun h => rfl, fun h => by simp at h⟩
theorem gtr_true {x y : ByteArray} (h : ltB x y = true) : (!Op.bytesLess y.toList x.toList && !(y.toList == x.toList)) = true := by
  have h1 : Op.bytesLess y.toList x.toList = false := ltB_asymm h
  rw [h1, toList_beq]
  have : y ≠ x := by rintro rfl; rw [ltB_irrefl] at h; cases h
  simp [this]
theorem gtr_false {x y : ByteArray} (h : ltB x y = false) : (!Op.bytesLess y.toList x.toList && !(y.toList == x.toList)) = false := by
  cases h1 : Op.bytesLess y.toList x.toList with
  | true => rfl
  | false =>
    have : y = x := ltB_tri h1 h
    subst this
    simp
theorem one_max : 1 ≤ maxLen := by simp [maxLen]
theorem put_sizes (ss : List File) (f : File) (j : Nat) (h : ss.length ≤ 2000) :
    (([] : List File).length + (ss.take j).length) * 32 ≤ 140737488355328 ∧ ([] : List File).length + (ss.take j).length ≤ maxLen ∧ (([] ++ ss.take j).length + [f].length) * 32 ≤ 140737488355328 ∧ ([] ++ ss.take j).length + [f].length ≤ maxLen ∧
    ((([] ++ ss.take j) ++ [f]).length + (ss.drop j).length) * 32 ≤ 140737488355328 ∧ (([] ++ ss.take j) ++ [f]).length + (ss.drop j).length ≤ maxLen := by
  unfold maxLen
  simp only [List.nil_append, List.length_append, List.length_take, List.length_drop, List.length_cons, List.length_nil]
  omega

set_option maxHeartbeats 1000000 in
/-- cortegeref7.Put. -/
theorem refPut_calls (v : Value) (p d : ByteArray) (xs : List File) (S : Fp) (w : World) (hR : Rd EF S w v xs) (hb : xs.length ≤ 1000) :
    Calls Tryd.prog 22 #[v, .string p, .string d] w fun e w' => ∃ u, e = .returned u ∧ New EF 30 w.heap.size w' u (putF xs p d) ∧ Ext w w' := by
  go_enter Tryd.func22, Tryd.ntmps22
  go_wp2_with (go_at_call 23; refine stop ?_)
  refine (refDrop_calls v p xs S w hR (by omega)).mono ?_
  rintro e w1 ⟨u, rfl, hN, hx1⟩
  have hl1 : (drF xs p).length ≤ xs.length := List.length_filter_le _ _
  obtain ⟨ys, hys⟩ : ∃ ys, drF xs p = ys := ⟨_, rfl⟩
  have HP : Hid (putF xs p d = sortK File.path (ys ++ [⟨p, d⟩])) := Lib.hid (by rw [← hys]; rfl)
  rw [hys] at hN hl1
  clear hys
  go_wp2_with (at_builtin; refine stop ?_)
  refine list_append1 tiF ⟨p, d⟩ rfl rfl rfl hN hx1 rfl rfl rfl (by omega) (by unfold maxLen; omega) ?_
  intro v2 w2 hN2 hx2
  have hal : (ys ++ [⟨p, d⟩] : List File).length ≤ 1001 := by simp; omega
  obtain ⟨all, hall⟩ : ∃ all, (ys ++ [⟨p, d⟩] : List File) = all := ⟨_, rfl⟩
  rw [hall] at hN2 hal
  have HA := Lib.hid hall
  have hRall := hN2.rd
  obtain ⟨A, c, rfl, hO⟩ := hRall.open_
  clear hall hRall
  go_wp2_with fail
  go_loopw [8, 9] (fun o i wr => ∃ k : Nat, k ≤ all.length ∧ i = .int .i64 k ∧ New EF 30 w2.heap.size wr o (sortK File.path (all.take k)) ∧ Ext w2 wr) (fun _ i _ => all.length - (intOf i).toNat)
  case atStart => exact ⟨0, Nat.zero_le _, rfl, New.nil _ _ _, Kp.refl _ _⟩
  case round =>
    obtain ⟨k, hk, rfl, hN, hx⟩ := hrel
    rename World => wo
    by_cases hlt : k < all.length
    · have hd3 : decide ((k : Int) < (all.length : Int)) = true := decide_eq_true (by omega)
      obtain ⟨b, off, rfl, _, hb, c0, c1⟩ := (hO.kp (hx.mono fun _ _ _ => trivial)).rd.file hlt
      have hsn : sortK File.path (all.take (k + 1)) = insK File.path all[k] (sortK File.path (all.take k)) := by rw [take_snoc all hlt, sortK_snoc]
      have hrise := sortK_rise File.path (all.take k)
      have hsl : (sortK File.path (all.take k)).length = k := by rw [sortK_length, List.length_take]; omega
      obtain ⟨f, hf⟩ : ∃ f, all[k] = f := ⟨_, rfl⟩
      obtain ⟨ss, hss⟩ : ∃ ss, sortK File.path (all.take k) = ss := ⟨_, rfl⟩
      rw [hf] at c0 c1
      rw [hf, hss] at hsn
      rw [hss] at hN hrise hsl
      have hlt' : (k : Int) < (all.length : Int) := by omega
      have h0 : (0 : Int) ≤ (k : Int) := by omega
      have HS := Lib.hid hsn
      have HL := Lib.hid hsl
      have HRI := Lib.hid hrise
      obtain ⟨A2, c2, hu5, hO2⟩ := hN.rd.open_
      subst hu5
      rw [hsl] at hN ⊢
      clear hsn hf hss hsl hrise
      go_wp2_with fail
      go_loopw [10] (fun q wj => ∃ j : Nat, j ≤ k ∧ q = .int .i64 j ∧ (∀ y ∈ ss.drop j, ltB f.path y.path = true) ∧ Ext wo wj) (fun q _ => (intOf q).toNat)
      case atStart => exact ⟨k, Nat.le_refl _, rfl, by rw [List.drop_of_length_le (by rw [HL.out]; exact Nat.le_refl _)]; simp, Kp.refl _ _⟩
      case round =>
        obtain ⟨j, hj, rfl, hgt, hxj⟩ := hrel
        rename World => wj
        have HG := Lib.hid hgt
        clear hgt
        have hcx := hxj
        obtain ⟨b', off', hA', hB', cf0, cf1⟩ : ∃ b' off', (some b', off') = (some b, off) ∧ b' < wj.heap.size ∧ wj.cell? ⟨b, off + k * 2, none⟩ = some (.string f.path) ∧ wj.cell? ⟨b, off + k * 2 + 1, none⟩ = some (.string f.data) :=
          ⟨b, off, rfl, hxj.lt hb, (hxj.cell (p := ⟨b, off + k * 2, none⟩) hb trivial).trans c0, (hxj.cell (p := ⟨b, off + k * 2 + 1, none⟩) hb trivial).trans c1⟩
        clear hA' hB' hcx
        rcases Nat.eq_zero_or_pos j with hj0 | hj0
        · subst hj0
          have d1 : decide ((0 : Int) < ((0 : Nat) : Int)) = false := by simp
          have hins := insK_at File.path f ss 0 (Nat.zero_le _) (by simp) HG.out
          have HI := Lib.hid hins
          clear hins
          go_wp2_with fail
          go_quiet (fail)
          go_wp2_with fail
          have HT : ∀ W, Ext wo W → Rd EF (fun k => w2.heap.size ≤ k) W (.slice A2 (0) c2) (ss.take (0)) := fun W hW => (hO2.kp (hW.mono fun _ _ _ => trivial)).takeRd (by rw [HL.out]; omega)
          have HD : ∀ W, Ext wo W → Rd EF (fun k => w2.heap.size ≤ k) W (.slice A2 k c2) (ss.drop (0)) := fun W hW => by rw [List.drop_zero]; have := (hO2.kp (hW.mono fun _ _ _ => trivial)).shut; rw [HL.out] at this; exact this
          have HKe : ∀ W, Ext wo W → W.cell? ⟨b, off + k * 2, none⟩ = some (.string f.path) ∧ W.cell? ⟨b, off + k * 2 + 1, none⟩ = some (.string f.data) := fun W hW => ⟨(hW.cell (p := ⟨b, off + k * 2, none⟩) hb trivial).trans c0, (hW.cell (p := ⟨b, off + k * 2 + 1, none⟩) hb trivial).trans c1⟩
          obtain ⟨l1, l2, l3, l4, l5, l6⟩ := put_sizes ss f (0) (by rw [HL.out]; omega)
          have HT' := Lib.hid HT
          have HD' := Lib.hid HD
          have HKe' := Lib.hid HKe
          clear HT HD HKe
          go_region_held3 (fun w' => w'.cell? ⟨b, off + k * 2, none⟩ = some (.string f.path) ∧ w'.cell? ⟨b, off + k * 2 + 1, none⟩ = some (.string f.data))
            (first | exact HKe'.out _ hx2a | exact HKe'.out _ hx9 | exact HKe'.out _ (hx3.alloc _) | exact HKe'.out _ hx3 | exact HKe'.out _ ((hxj.drewN nq).drew) | exact HKe'.out _ (((hxj.drewN nq).drew).alloc _) | fail)
            (first
              | (refine step_append_new (w0 := wo) tiF (by rfl) (by rfl) (New.nil (E := EF) _ _ _) ((hxj.drewN nq).drew) (HT'.out _ ((hxj.drewN nq).drew)) (by rfl) (by rfl) l1 l2 ?_; intro v3 w3 hN3 hx3 hk3)
              | (refine step_append_new (w0 := wo) tiF (by rfl) (by rfl) (New.nil (E := EF) _ _ _) (((hxj.drewN nq).drew).alloc _) (HT'.out _ (((hxj.drewN nq).drew).alloc _)) (by rfl) (by rfl) l1 l2 ?_; intro v3 w3 hN3 hx3 hk3)
              | (refine step_append_new (w0 := wo) (ys := [f]) tiF (by rfl) (by rfl) (hN3.ext ((Kp.refl _ w3).alloc _)) (hx3.alloc _) (Own.made w3 30 [f] one_max).rd (by rfl) (by rfl) l3 l4 ?_; intro v9 w9 hN9 hx9 hk9)
              | (refine step_append_new (w0 := wo) (ys := [f]) tiF (by rfl) (by rfl) hN3 hx3 ((Own.made _ 30 [f] one_max).rd.kp (hk3.mono fun _ _ _ => fun h => by cases h)) (by rfl) (by rfl) l3 l4 ?_; intro v9 w9 hN9 hx9 hk9)
              | (refine step_append_new (w0 := wo) tiF (by rfl) (by rfl) hN9 hx9 (HD'.out _ hx9) (by rfl) (by rfl) l5 l6 ?_; intro v10 w10 hN10 hx2a hk10)
              | fail)
          all_goals
            obtain ⟨A', n', c', rfl⟩ := hN10.1.slice
            go_wp2_with fail
            go_roundw
            case rel =>
              refine ⟨k + 1, by omega, by go_num, ?_, hx.trans hx2a⟩
              rw [HS.out, HI.out]
              have hsz := hx.size
              have := hN10.less (m := w2.heap.size) hsz
              simpa using this
            case measure => simp [intOf]; omega
        · obtain ⟨s, hs⟩ : ∃ s, j = s + 1 := ⟨j - 1, by omega⟩
          subst hs
          have hslt : s < ss.length := by have := HL.out; omega
          obtain ⟨g, hg⟩ : ∃ g, ss[s] = g := ⟨_, rfl⟩
          obtain ⟨b2, off2, hA2, hb2S, hb2, e0, e1⟩ := (hO2.kp (hxj.mono fun _ _ _ => trivial)).rd.file hslt
          rw [hg] at e0 e1
          subst hA2
          have hcast : ((s + 1 : Nat) : Int) = (s : Int) + 1 := by omega
          rw [hcast]
          have d1' : decide ((0 : Int) < (s : Int) + 1) = true := decide_eq_true (by omega)
          have hs0 : (0 : Int) ≤ (s : Int) := by omega
          have hs1 : (s : Int) < (k : Int) := by omega
          have hs2 : (s : Int) + 1 ≤ (k : Int) := by omega
          have hs3 : (0 : Int) ≤ (s : Int) + 1 := by omega
          have hs4 : s + 1 ≤ c2 := by have := hO2.le; rw [HL.out] at this; omega
          have hs5 : (s : Int) + 1 ≤ (c2 : Int) := by omega
          clear hcast
          cases hcmp : ltB f.path g.path with
          | true =>
            have hgt : (!Op.bytesLess g.path.toList f.path.toList && !(g.path.toList == f.path.toList)) = true := gtr_true hcmp
            have HG2 : Hid (∀ y ∈ ss.drop s, ltB f.path y.path = true) := Lib.hid fun y hy => by
              rw [List.drop_eq_getElem_cons hslt] at hy
              rcases List.mem_cons.1 hy with rfl | hy
              · rw [hg]; exact hcmp
              · exact HG.out y hy
            have hw1 : IntKind.i64.wrap ((s : Int) + 1 - 1) = (s : Int) := by rw [IntWalk.i64_in _ (by omega)]; omega
            clear hcmp hg
            go_wp2_with fail
            go_quiet (fail)
            go_wp2_with fail
            go_roundw
            case rel => exact ⟨s, by omega, rfl, HG2.out, hxj.drewN _⟩
            case measure => first | (simp [intOf]; done) | (simp [intOf]; omega)
          | false =>
            have hgt : (!Op.bytesLess g.path.toList f.path.toList && !(g.path.toList == f.path.toList)) = false := gtr_false hcmp
            have hins := insK_at File.path f ss (s + 1) (by omega) (rise_take File.path f HRI.out (s + 1) (by omega) (fun _ => by simp only [Nat.add_sub_cancel]; rw [hg]; exact hcmp)) HG.out
            have HI := Lib.hid hins
            clear hins hcmp hg
            have hw1 : IntKind.i64.wrap ((s : Int) + 1 - 1) = (s : Int) := by rw [IntWalk.i64_in _ (by omega)]; omega
            have ht1 : ((s : Int) + 1).toNat = s + 1 := by omega
            by_cases hc2 : c2 = s + 1
            · have hc2' : s + 1 = k := by have := hO2.le; rw [HL.out] at this; omega
              subst hc2
              have HC2 := Lib.hid hc2'
              clear hc2'
              go_wp2_with fail
              go_quiet (fail)
              clear hw1 e0 e1 hgt
              go_wp2_with fail
              have HT : ∀ W, Ext wo W → Rd EF (fun k => w2.heap.size ≤ k) W (.slice (some ⟨b2, off2, none⟩) (s + 1) (s + 1)) (ss.take (s + 1)) := fun W hW => (hO2.kp (hW.mono fun _ _ _ => trivial)).takeRd (by rw [HL.out]; omega)
              have HD : ∀ W, Ext wo W → Rd EF (fun k => w2.heap.size ≤ k) W (.slice (some ⟨b2, off2, none⟩) (k - (s + 1)) 0) (ss.drop (s + 1)) := fun W hW => by have := ((hO2.kp (hW.mono fun _ _ _ => trivial)).dropRd (j := s + 1) (by rw [HL.out]; omega)); rw [HL.out] at this; exact Rd.empty (by have := HC2.out; omega) (by rw [List.drop_of_length_le (by rw [HL.out]; have := HC2.out; omega)])
              have HKe : ∀ W, Ext wo W → W.cell? ⟨b, off + k * 2, none⟩ = some (.string f.path) ∧ W.cell? ⟨b, off + k * 2 + 1, none⟩ = some (.string f.data) := fun W hW => ⟨(hW.cell (p := ⟨b, off + k * 2, none⟩) hb trivial).trans c0, (hW.cell (p := ⟨b, off + k * 2 + 1, none⟩) hb trivial).trans c1⟩
              obtain ⟨l1, l2, l3, l4, l5, l6⟩ := put_sizes ss f (s + 1) (by rw [HL.out]; omega)
              have HT' := Lib.hid HT
              have HD' := Lib.hid HD
              have HKe' := Lib.hid HKe
              clear HT HD HKe
              go_region_held3 (fun w' => w'.cell? ⟨b, off + k * 2, none⟩ = some (.string f.path) ∧ w'.cell? ⟨b, off + k * 2 + 1, none⟩ = some (.string f.data))
                (first | exact HKe'.out _ hx2a | exact HKe'.out _ hx9 | exact HKe'.out _ (hx3.alloc _) | exact HKe'.out _ hx3 | exact HKe'.out _ ((hxj.drewN nq).drew) | exact HKe'.out _ (((hxj.drewN nq).drew).alloc _) | fail)
                (first
                  | (refine step_append_new (w0 := wo) tiF (by rfl) (by rfl) (New.nil (E := EF) _ _ _) ((hxj.drewN nq).drew) (HT'.out _ ((hxj.drewN nq).drew)) (by rfl) (by rfl) l1 l2 ?_; intro v3 w3 hN3 hx3 hk3)
                  | (refine step_append_new (w0 := wo) tiF (by rfl) (by rfl) (New.nil (E := EF) _ _ _) (((hxj.drewN nq).drew).alloc _) (HT'.out _ (((hxj.drewN nq).drew).alloc _)) (by rfl) (by rfl) l1 l2 ?_; intro v3 w3 hN3 hx3 hk3)
                  | (refine step_append_new (w0 := wo) (ys := [f]) tiF (by rfl) (by rfl) (hN3.ext ((Kp.refl _ w3).alloc _)) (hx3.alloc _) (Own.made w3 30 [f] one_max).rd (by rfl) (by rfl) l3 l4 ?_; intro v9 w9 hN9 hx9 hk9)
                  | (refine step_append_new (w0 := wo) (ys := [f]) tiF (by rfl) (by rfl) hN3 hx3 ((Own.made _ 30 [f] one_max).rd.kp (hk3.mono fun _ _ _ => fun h => by cases h)) (by rfl) (by rfl) l3 l4 ?_; intro v9 w9 hN9 hx9 hk9)
                  | (refine step_append_new (w0 := wo) tiF (by rfl) (by rfl) hN9 hx9 (HD'.out _ hx9) (by rfl) (by rfl) l5 l6 ?_; intro v10 w10 hN10 hx2a hk10)
                  | fail)
              all_goals
                obtain ⟨A', n', c', rfl⟩ := hN10.1.slice
                go_wp2_with fail
                go_roundw
                case rel =>
                  refine ⟨k + 1, by omega, by go_num, ?_, hx.trans hx2a⟩
                  rw [HS.out, HI.out]
                  have hsz := hx.size
                  have := hN10.less (m := w2.heap.size) hsz
                  simpa using this
                case measure => simp [intOf]; omega
            · go_wp2_with fail
              go_quiet (fail)
              clear hw1 e0 e1 hgt
              go_wp2_with fail
              have HT : ∀ W, Ext wo W → Rd EF (fun k => w2.heap.size ≤ k) W (.slice (some ⟨b2, off2, none⟩) (s + 1) c2) (ss.take (s + 1)) := fun W hW => (hO2.kp (hW.mono fun _ _ _ => trivial)).takeRd (by rw [HL.out]; omega)
              have HD : ∀ W, Ext wo W → Rd EF (fun k => w2.heap.size ≤ k) W (.slice (some ⟨b2, off2 + (s + 1) * 2, none⟩) (k - (s + 1)) (c2 - (s + 1))) (ss.drop (s + 1)) := fun W hW => by have := ((hO2.kp (hW.mono fun _ _ _ => trivial)).dropRd (j := s + 1) (by rw [HL.out]; omega)); rw [HL.out] at this; exact this
              have HKe : ∀ W, Ext wo W → W.cell? ⟨b, off + k * 2, none⟩ = some (.string f.path) ∧ W.cell? ⟨b, off + k * 2 + 1, none⟩ = some (.string f.data) := fun W hW => ⟨(hW.cell (p := ⟨b, off + k * 2, none⟩) hb trivial).trans c0, (hW.cell (p := ⟨b, off + k * 2 + 1, none⟩) hb trivial).trans c1⟩
              obtain ⟨l1, l2, l3, l4, l5, l6⟩ := put_sizes ss f (s + 1) (by rw [HL.out]; omega)
              have HT' := Lib.hid HT
              have HD' := Lib.hid HD
              have HKe' := Lib.hid HKe
              clear HT HD HKe
              go_region_held3 (fun w' => w'.cell? ⟨b, off + k * 2, none⟩ = some (.string f.path) ∧ w'.cell? ⟨b, off + k * 2 + 1, none⟩ = some (.string f.data))
                (first | exact HKe'.out _ hx2a | exact HKe'.out _ hx9 | exact HKe'.out _ (hx3.alloc _) | exact HKe'.out _ hx3 | exact HKe'.out _ ((hxj.drewN nq).drew) | exact HKe'.out _ (((hxj.drewN nq).drew).alloc _) | fail)
                (first
                  | (refine step_append_new (w0 := wo) tiF (by rfl) (by rfl) (New.nil (E := EF) _ _ _) ((hxj.drewN nq).drew) (HT'.out _ ((hxj.drewN nq).drew)) (by rfl) (by rfl) l1 l2 ?_; intro v3 w3 hN3 hx3 hk3)
                  | (refine step_append_new (w0 := wo) tiF (by rfl) (by rfl) (New.nil (E := EF) _ _ _) (((hxj.drewN nq).drew).alloc _) (HT'.out _ (((hxj.drewN nq).drew).alloc _)) (by rfl) (by rfl) l1 l2 ?_; intro v3 w3 hN3 hx3 hk3)
                  | (refine step_append_new (w0 := wo) (ys := [f]) tiF (by rfl) (by rfl) (hN3.ext ((Kp.refl _ w3).alloc _)) (hx3.alloc _) (Own.made w3 30 [f] one_max).rd (by rfl) (by rfl) l3 l4 ?_; intro v9 w9 hN9 hx9 hk9)
                  | (refine step_append_new (w0 := wo) (ys := [f]) tiF (by rfl) (by rfl) hN3 hx3 ((Own.made _ 30 [f] one_max).rd.kp (hk3.mono fun _ _ _ => fun h => by cases h)) (by rfl) (by rfl) l3 l4 ?_; intro v9 w9 hN9 hx9 hk9)
                  | (refine step_append_new (w0 := wo) tiF (by rfl) (by rfl) hN9 hx9 (HD'.out _ hx9) (by rfl) (by rfl) l5 l6 ?_; intro v10 w10 hN10 hx2a hk10)
                  | fail)
              all_goals
                obtain ⟨A', n', c', rfl⟩ := hN10.1.slice
                go_wp2_with fail
                go_roundw
                case rel =>
                  refine ⟨k + 1, by omega, by go_num, ?_, hx.trans hx2a⟩
                  rw [HS.out, HI.out]
                  have hsz := hx.size
                  have := hN10.less (m := w2.heap.size) hsz
                  simpa using this
                case measure => simp [intOf]; omega
    · have hd3 : decide ((k : Int) < (all.length : Int)) = false := decide_eq_false (by omega)
      have hkl : all.take k = all := List.take_of_length_le (by omega)
      rw [hkl] at hN
      have hres : sortK File.path all = putF xs p d := by rw [HP.out, HA.out]
      rw [hres] at hN
      obtain ⟨A', n', c', rfl⟩ := hN.1.slice
      clear hkl hres
      go_wp2_with fail
      go_ret
      have := hx2.size
      exact ⟨_, rfl, hN.less (by omega), hx2.trans hx⟩

end Go.Proofs.YtinafpbdlblcaaaDoor
