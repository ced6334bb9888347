/-
  cortegelaw8.PatchTells.
-/
import Derived.Test.YtinafpbdlblcaaaTells8
namespace Go.Proofs.Ytinafpbdlblcaaa
open Go.RowKit
set_option linter.unusedVariables false
set_option linter.unusedSimpArgs false
attribute [local go_sem] Oper.semAt_some

set_option maxHeartbeats 1000000 in
set_option maxRecDepth 100000 in
theorem tells8_calls (va vb vc : Value) (xs ys : List File) (cs : List Ch) (S : Fp) (w : World) (hA : Rd EF S w va xs) (hB : Rd EF S w vb ys) (hC : Rd EC S w vc cs) :
    Calls Try.prog 3 #[va, vb, vc] w fun e w' => e = .returned (.bool true) ∧ Ext w w' := by
  have hg1 := fun W (hW : Ext w W) => greatFiles_calls va xs 16 S W (hA.kp (hW.mono fun _ _ _ => trivial)) (by omega)
  have hg2 := fun W (hW : Ext w W) => greatFiles_calls vb ys 16 S W (hB.kp (hW.mono fun _ _ _ => trivial)) (by omega)
  obtain ⟨A1, c1, ha, hOa⟩ := hA.open_
  obtain ⟨A2, c2, hb, hOb⟩ := hB.open_
  obtain ⟨A3, c3, hc, hOc⟩ := hC.open_
  subst ha hb hc
  obtain ⟨n1, hn1⟩ : ∃ n, xs.length = n := ⟨_, rfl⟩
  obtain ⟨n2, hn2⟩ : ∃ n, ys.length = n := ⟨_, rfl⟩
  obtain ⟨n3, hn3⟩ : ∃ n, cs.length = n := ⟨_, rfl⟩
  rw [hn1] at hA hg1 ⊢
  rw [hn2] at hB hg2 ⊢
  have hlc := hOc.len
  rw [hn3] at hC hlc ⊢
  have H1 := Lib.hid hn1
  have H2 := Lib.hid hn2
  have H3 := Lib.hid hn3
  have HG1 := Lib.hid hg1
  have HG2 := Lib.hid hg2
  clear hn1 hn2 hn3 hg1 hg2 hOa hOb
  have c16 : ((16 : Nat) : Int) = 16 := rfl
  by_cases hgr : greatB xs 16 = true ∨ greatB ys 16 = true ∨ 16 < n3
  · have hr : ∃ b1 b2 b3 : Bool, greatB xs 16 = b1 ∧ greatB ys 16 = b2 ∧ decide ((16 : Int) < (n3 : Int)) = b3 ∧ (b1 = true ∨ b1 = false ∧ b2 = true ∨ b1 = false ∧ b2 = false ∧ b3 = true) := by
      refine ⟨_, _, _, rfl, rfl, rfl, ?_⟩
      cases h1 : greatB xs 16 with
      | true => exact .inl rfl
      | false =>
        cases h2 : greatB ys 16 with
        | true => exact .inr (.inl ⟨rfl, rfl⟩)
        | false =>
          refine .inr (.inr ⟨rfl, rfl, decide_eq_true ?_⟩)
          rcases hgr with h | h | h
          · rw [h1] at h; cases h
          · rw [h2] at h; cases h
          · omega
    obtain ⟨b1, b2, b3, e1, e2, e3, hbb⟩ := hr
    clear hgr
    rcases hbb with rfl | ⟨rfl, rfl⟩ | ⟨rfl, rfl, rfl⟩
    · clear e2 e3
      go_enter Try.func3, Try.ntmps3
      go_wp2_with fail
      refine (HG1.out w (Kp.refl _ _)).mono ?_
      rintro e w1 ⟨rfl, rfl⟩
      rw [e1]
      go_wp2_with fail
      refine (awake8_calls w).mono ?_
      rintro e w2 ⟨rfl, hx2⟩
      go_wp2_with fail
      go_ret
      exact ⟨rfl, hx2⟩
    · clear e3
      go_enter Try.func3, Try.ntmps3
      go_wp2_with fail
      refine (HG1.out w (Kp.refl _ _)).mono ?_
      rintro e w1 ⟨rfl, rfl⟩
      rw [e1]
      go_wp2_with fail
      refine (HG2.out w (Kp.refl _ _)).mono ?_
      rintro e w1 ⟨rfl, rfl⟩
      rw [e2]
      go_wp2_with fail
      refine (awake8_calls w).mono ?_
      rintro e w2 ⟨rfl, hx2⟩
      go_wp2_with fail
      go_ret
      exact ⟨rfl, hx2⟩
    · go_enter Try.func3, Try.ntmps3
      go_wp2_with fail
      refine (HG1.out w (Kp.refl _ _)).mono ?_
      rintro e w1 ⟨rfl, rfl⟩
      rw [e1]
      go_wp2_with fail
      refine (HG2.out w (Kp.refl _ _)).mono ?_
      rintro e w1 ⟨rfl, rfl⟩
      rw [e2]
      go_wp2_with fail
      refine (awake8_calls w).mono ?_
      rintro e w2 ⟨rfl, hx2⟩
      go_wp2_with fail
      go_ret
      exact ⟨rfl, hx2⟩
  · have e1 : greatB xs 16 = false := by cases h : greatB xs 16 with | true => exact absurd (.inl h) hgr | false => rfl
    have e2 : greatB ys 16 = false := by cases h : greatB ys 16 with | true => exact absurd (.inr (.inl h)) hgr | false => rfl
    have h3 : n3 ≤ 16 := by
      rcases Nat.lt_or_ge 16 n3 with h | h
      · exact absurd (.inr (.inr h)) hgr
      · exact h
    have e3 : decide ((16 : Int) < (n3 : Int)) = false := decide_eq_false (by omega)
    have hl1 := (greatB_false e1).1
    have hl2 := (greatB_false e2).1
    rw [H1.out] at hl1
    rw [H2.out] at hl2
    clear hgr
    go_enter Try.func3, Try.ntmps3
    go_wp2_with fail
    refine (HG1.out w (Kp.refl _ _)).mono ?_
    rintro e w1 ⟨rfl, rfl⟩
    rw [e1]
    go_wp2_with fail
    refine (HG2.out w (Kp.refl _ _)).mono ?_
    rintro e w1 ⟨rfl, rfl⟩
    rw [e2]
    clear e1 e2 HG1 HG2
    go_wp2_with fail
    go_loopw [7, 8, 9] (fun o q i wr => ∃ k : Nat, k ≤ n3 ∧ i = .int .i64 k ∧ New EC 30 w.heap.size wr o (cs.take k) ∧ New EC 31 w.heap.size wr q (cs.take k) ∧ (∀ g, o.ownBlock = some g → q.ownBlock ≠ some g) ∧ Ext w wr) (fun _ _ i _ => n3 - (intOf i).toNat)
    case atStart => exact ⟨0, Nat.zero_le _, rfl, New.nil _ _ _, New.nil _ _ _, (fun g h => by cases h), Kp.refl _ _⟩
    case round =>
      obtain ⟨k, hk, rfl, hNo, hNq, hoq, hx⟩ := hrel
      rename World => wo
      by_cases hlt : k < n3
      · have hd3 : decide ((k : Int) < (n3 : Int)) = true := decide_eq_true (by omega)
        have hkc : k < cs.length := by have := H3.out; omega
        obtain ⟨b, off, rfl, _, hbl, c0, c1, c2, c3, c4⟩ := (hOc.kp (hx.mono fun _ _ _ => trivial)).rd.ch hkc
        have hts : cs.take (k + 1) = cs.take k ++ [cs[k]] := take_snoc cs hkc
        obtain ⟨ch, hch⟩ : ∃ ch, cs[k] = ch := ⟨_, rfl⟩
        rw [hch] at c0 c1 c2 c3 c4 hts
        obtain ⟨cp, cw, ci, co, cn⟩ := ch
        dsimp only at c0 c1 c2 c3 c4
        have htl : (cs.take k).length ≤ 16 := by rw [List.length_take]; omega
        have hlt' : (k : Int) < (n3 : Int) := by omega
        have h0 : (0 : Int) ≤ (k : Int) := by omega
        have hw : IntKind.i64.wrap ((k : Int) + 1) = (k : Int) + 1 := IntWalk.i64_in _ (by omega)
        have HT := Lib.hid hts
        have HTL := Lib.hid htl
        clear hts hch htl
        obtain ⟨Ao, no, co', hvo⟩ := hNo.1.slice
        obtain ⟨Aq, nq, cq', hvq⟩ := hNq.1.slice
        subst hvo hvq
        by_cases hz : 100 < cp.size ∨ 500 < co.size ∨ 500 < cn.size
        · have hzz : ∃ b1 b2 b3 : Bool, decide ((100 : Int) < (cp.size : Int)) = b1 ∧ decide ((500 : Int) < (co.size : Int)) = b2 ∧ decide ((500 : Int) < (cn.size : Int)) = b3 ∧ (b1 = true ∨ b1 = false ∧ b2 = true ∨ b1 = false ∧ b2 = false ∧ b3 = true) := by
            by_cases z1 : 100 < cp.size
            · exact ⟨true, _, _, decide_eq_true (by omega), rfl, rfl, .inl rfl⟩
            · by_cases z2 : 500 < co.size
              · exact ⟨false, true, _, decide_eq_false (by omega), decide_eq_true (by omega), rfl, .inr (.inl ⟨rfl, rfl⟩)⟩
              · exact ⟨false, false, true, decide_eq_false (by omega), decide_eq_false (by omega), decide_eq_true (by omega), .inr (.inr ⟨rfl, rfl, rfl⟩)⟩
          obtain ⟨b1, b2, b3, e1, e2, e3, hbb⟩ := hzz
          clear hz
          rcases hbb with rfl | ⟨rfl, rfl⟩ | ⟨rfl, rfl, rfl⟩
          all_goals
            go_wp2_with (go_at_call 5; refine stop ?_)
            refine (awake8_calls _).mono ?_
            rintro e w2 ⟨rfl, hx2⟩
            go_wp2_with fail
            go_ret
            exact ⟨rfl, (hx.alloc _).trans hx2⟩
        · have e1 : decide ((100 : Int) < (cp.size : Int)) = false := decide_eq_false (by omega)
          have e2 : decide ((500 : Int) < (co.size : Int)) = false := decide_eq_false (by omega)
          have e3 : decide ((500 : Int) < (cn.size : Int)) = false := decide_eq_false (by omega)
          clear hz
          have hlo : ∀ g, (Value.slice Ao no co').ownBlock = some g → g < wo.heap.size := fun g h => hNo.1.lt h
          have hlq : ∀ g, (Value.slice Aq nq cq').ownBlock = some g → g < wo.heap.size := fun g h => hNq.1.lt h
          have hBx := Blk.new wo 29 #[.string cp, .bool cw, .bool ci, .string co, .string cn]
          have hxa : Ext wo (wo.alloc (.cells #[.string cp, .bool cw, .bool ci, .string co, .string cn] 29)) := (Kp.refl _ wo).alloc _
          go_wp2_with (at_builtin; refine stop ?_)
          have hsz : (wo.alloc (.cells #[.string cp, .bool cw, .bool ci, .string co, .string cn] 29)).heap.size = wo.heap.size + 1 := by simp
          have hNo1 := hNo.ext hxa
          have hNq1 := hNq.ext hxa
          have hx1 := hx.trans hxa
          clear hNo hNq c0 c1 c2 c3 c4 hxa
          generalize (wo.alloc (.cells #[.string cp, .bool cw, .bool ci, .string co, .string cn] 29)) = wa at hBx hsz hNo1 hNq1 hx1 ⊢
          refine list_append1k (u := .slice (some ⟨wo.heap.size + 1, 0, none⟩) 1 1) tiC ⟨cp, cw, ci, co, cn⟩ rfl rfl rfl hNo1 hx1 (by rw [hsz]) rfl rfl (by have := HTL.out; omega) (by have := HTL.out; unfold maxLen; omega) ?_
          intro vo w2 hNo2 hx2 hk2 hb2
          have hsz2 := hk2.size
          have hBx2 : Blk w2 wo.heap.size 29 #[.string cp, .bool cw, .bool ci, .string co, .string cn] := hBx.kp hk2 fun e => by have := hlo _ e; omega
          have hNq2 := hNq1.kp hk2 fun g hg e => hoq g e hg
          have d0 : w2.cell? ⟨wo.heap.size, 0, none⟩ = some (.string cp) := hBx2.cell 0
          have d1 : w2.cell? ⟨wo.heap.size, 1, none⟩ = some (.bool cw) := hBx2.cell 1
          have d2 : w2.cell? ⟨wo.heap.size, 2, none⟩ = some (.bool ci) := hBx2.cell 2
          have d3 : w2.cell? ⟨wo.heap.size, 3, none⟩ = some (.string co) := hBx2.cell 3
          have d4 : w2.cell? ⟨wo.heap.size, 4, none⟩ = some (.string cn) := hBx2.cell 4
          obtain ⟨Ao2, no2, co2, hvo2⟩ := hNo2.1.slice
          subst hvo2
          clear e1 e2 e3 hBx hBx2
          have HSZ := Lib.hid hsz
          clear hsz
          go_wp2_with (at_builtin; refine stop ?_)
          refine list_append1k tiC8 ⟨cp, cw, ci, co, cn⟩ rfl rfl rfl hNq2 hx2 rfl rfl rfl (by have := HTL.out; omega) (by have := HTL.out; unfold maxLen; omega) ?_
          intro vq w3 hNq3 hx3 hk3 hb3
          obtain ⟨Aq3, nq3, cq3, hvq3⟩ := hNq3.1.slice
          subst hvq3
          have hoqs : ∀ g, (Value.slice Ao2 no2 co2).ownBlock = some g → (Value.slice Aq nq cq').ownBlock ≠ some g := fun g hg e => by
            have hs := HSZ.out
            rcases hb2 g hg with h | h
            · exact hoq g h e
            · have := hlq g e; omega
          have hNo3 := hNo2.kp hk3 fun g hg e => hoqs g hg e
          clear d0 d1 d2 d3 d4
          go_wp2_with fail
          go_roundw
          case rel =>
            refine ⟨k + 1, by omega, by go_num, by rw [HT.out]; exact hNo3, by rw [HT.out]; exact hNq3, fun g hg e => ?_, hx3⟩
            rcases hb3 g e with h | h
            · exact hoqs g hg h
            · have := hNo2.1.lt hg; omega
          case measure => simp [intOf]; omega
      · have hd3 : decide ((k : Int) < (n3 : Int)) = false := decide_eq_false (by omega)
        have hall : cs.take k = cs := List.take_of_length_le (by have := H3.out; omega)
        rw [hall] at hNo hNq
        clear hall
        obtain ⟨Ao, no, co', hvo⟩ := hNo.1.slice
        obtain ⟨Aq, nq, cq', hvq⟩ := hNq.1.slice
        subst hvo hvq
        go_wp2_with (go_at_call 6; refine stop ?_)
        have hA4 := hA.kp (hx.mono fun _ _ _ => trivial)
        have hB4 := hB.kp (hx.mono fun _ _ _ => trivial)
        have hlend := lendFiles_calls _ xs _ wo hA4 (by rw [H1.out]; omega)
        rw [H1.out] at hlend
        refine hlend.mono ?_
        clear hlend
        rintro e w4 ⟨g, rfl, hgs, hBl, hx4⟩
        have hL : LentF w4 g xs := ⟨hBl, by rw [H1.out]; omega⟩
        have hLr := hL.rd
        rw [H1.out] at hLr
        have hgl : g < w4.heap.size := hBl.lt
        have hsm : xs.length + cs.length ≤ 38 := by rw [H1.out, H3.out]; omega
        have HSM := Lib.hid hsm
        have hNo4 := (hNo.ext hx4).rd
        have hNq4 := (hNq.ext hx4).rd
        have hA5 := hA4.kp (hx4.mono fun _ _ _ => trivial)
        have hB5 := hB4.kp (hx4.mono fun _ _ _ => trivial)
        have hxw4 := hx.trans hx4
        clear hsm hA4 hB4 hBl hNo hNq hoq hx hx4
        go_wp2_with (go_at_call 7; refine stop ?_)
        refine (apply_calls _ _ xs cs _ _ w4 hLr hNo4 (by rw [H1.out]; omega) (by rw [H3.out]; omega) (applyF_small HSM.out)).mono ?_
        rintro e w5 ⟨r1, rfl, hR1, hx5⟩
        go_wp2_with (go_at_call 8; refine stop ?_)
        refine (refApply_calls _ _ xs cs _ _ w5 (hA5.kp (hx5.mono fun _ _ _ => trivial)) (hNq4.kp (hx5.mono fun _ _ _ => trivial)) (by rw [H1.out]; omega) (by rw [H3.out]; omega) (applyF_small HSM.out)).mono ?_
        rintro e w6 ⟨r2, rfl, hR2, hx6⟩
        obtain ⟨okb, hok⟩ : ∃ b, (applyF xs cs).isSome = b := ⟨_, rfl⟩
        obtain ⟨rs, hrs⟩ : ∃ l, (applyF xs cs).getD [] = l := ⟨_, rfl⟩
        have hrl : rs.length ≤ 38 := by
          rw [← hrs]
          cases h : applyF xs cs with
          | none => simp
          | some u => have := applyF_len _ h; have := HSM.out; simp only [Option.getD_some]; omega
        rw [hrs] at hR1 hR2
        rw [hok]
        clear hok hrs
        have hR16 := hR1.ext hx6
        have hx46 := hx5.trans hx6
        have hgr1 : ∀ k, r1.ownBlock = some k → w4.heap.size ≤ k := hR1.2
        obtain ⟨Ar1, nr1, cr1, hvr1⟩ := hR16.1.slice
        obtain ⟨Ar2, nr2, cr2, hvr2⟩ := hR2.1.slice
        subst hvr1 hvr2
        have hK : ∀ W, Ext w4 W → Rd EF (fun k => k = g) W (.slice (some ⟨g, 0, none⟩) n1 (n1 + 3)) xs := fun W hW => hLr.kp (hW.mono fun _ _ _ => trivial)
        go_wp2_with fail
        refine (of_patch_calls _ _ xs ys _ _ w6 (hK w6 hx46) (hB5.kp (hx46.mono fun _ _ _ => trivial)) (by rw [H1.out]; omega) (by rw [H2.out]; omega)).mono ?_
        rintro e w7 ⟨o1, rfl, hO1, hx7⟩
        obtain ⟨Ap, np, cp', hvp⟩ := hO1.1.slice
        subst hvp
        go_wp2_with fail
        refine (refOf_calls _ _ xs ys _ _ w7 (hA5.kp ((hx46.trans hx7).mono fun _ _ _ => trivial)) (hB5.kp ((hx46.trans hx7).mono fun _ _ _ => trivial)) (by rw [H1.out]; omega) (by rw [H2.out]; omega)).mono ?_
        rintro e w8 ⟨o2, rfl, hO2, hx8⟩
        obtain ⟨Aq2, nq2, cq2, hvq2⟩ := hO2.1.slice
        subst hvq2
        go_wp2_with fail
        refine (same8_calls _ _ _ _ _ w8 (hO1.ext hx8).rd hO2.rd).mono ?_
        rintro e w9 ⟨rfl, hx9⟩
        have hx69 := (hx7.trans hx8).trans hx9
        go_wp2_with fail
        refine (sameFiles_calls _ _ rs rs _ _ w9 (hR16.ext hx69).rd (hR2.ext hx69).rd).mono ?_
        rintro e w10 ⟨rfl, hx10⟩
        rw [sameB_refl]
        have hR110 := (hR16.ext hx69).ext hx10
        have hx410 := (hx46.trans hx69).trans hx10
        have hbb : (okb == okb) = true := beq_self_eq_true _
        clear hO1 hO2 hx7 hx8 hx9 hx10 hx69 hx46 hx5 hx6 hR1 hR16 hR2
        go_wp2_with (go_at_call 13; refine stop ?_)
        refine (overFiles_calls _ rs w10 hR110.1 (by omega)).mono ?_
        rintro e w11 ⟨⟨rr, rfl⟩, hk11⟩
        have hx411 : Ext w4 w11 := hx410.trans' hk11 fun k hk _ e => by have := hgr1 k e; omega
        have hL11 : LentF w11 g xs := hL.kp hx411 trivial
        go_wp2_with fail
        have hkept := keptFiles_calls g _ xs xs _ w11 hL11 (hA5.kp (hx411.mono fun _ _ _ => trivial))
        rw [H1.out, sameB_refl] at hkept
        refine hkept.mono ?_
        clear hkept
        rintro e w12 ⟨rfl, hx12⟩
        go_wp2_with fail
        refine (awake8_calls w12).mono ?_
        rintro e w13 ⟨rfl, hx13⟩
        go_wp2_with fail
        go_ret
        exact ⟨rfl, hxw4.trans (hx411.trans (hx12.trans hx13))⟩

end Go.Proofs.Ytinafpbdlblcaaa
