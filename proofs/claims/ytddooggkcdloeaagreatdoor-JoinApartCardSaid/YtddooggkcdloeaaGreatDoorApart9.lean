/-
  cortegelaw9: JoinApart.
-/
import Derived.Test.YtddooggkcdloeaaGreatDoorTrio
import Derived.Test.YtddooggkcdloeaaGreatDoorLaw9
import Derived.BigQuiet
namespace Go.Proofs.YtddooggkcdloeaaGreatDoor
open Go.RowKit
set_option linter.unusedVariables false
set_option linter.unusedSimpArgs false
attribute [local go_sem] Oper.semAt_some

theorem preF_take (c : ByteArray) (t : List File) {k : Nat} (h : k < t.length) : preF c (t.take (k + 1)) = preF c (t.take k) ++ [⟨c ++ t[k].path, t[k].data⟩] := by
  unfold preF
  rw [take_snoc t h, List.map_append]
  rfl
theorem preF_size {c : ByteArray} (hc : c.size = 1) {t : List File} (h : ∀ f ∈ t, f.path.size ≤ 100) : ∀ f ∈ preF c t, f.path.size ≤ 1000000 := by
  intro f hf
  unfold preF at hf
  obtain ⟨g, hg, rfl⟩ := List.mem_map.1 hf
  have := h g hg
  dsimp only
  rw [ByteArray.size_append, hc]
  omega
theorem preF_len (c : ByteArray) (t : List File) : (preF c t).length = t.length := by unfold preF; rw [List.length_map]

set_option maxHeartbeats 2000000 in
set_option maxRecDepth 100000 in
theorem apart9_main (v0 v1 v2 : Value) (xs ys zs : List File) (w : World) (hA : RdF w v0 xs) (hB : RdF w v1 ys) (hC : RdF w v2 zs) (hg : great9 xs ys zs = false) (hm : may3 xs ys zs = true) (hn : ys.length + zs.length + xs.length ≤ 12) :
    Calls Tryz.prog 8 #[v0, v1, v2] w fun e w' => e = .returned (.bool true) ∧ Ext w w' := by
  obtain ⟨g1, g2, g3⟩ := great9_false hg
  obtain ⟨m1, m2, m3⟩ := (may3_iff _ _ _).1 hm
  have hG := great9_calls v0 v1 v2 xs ys zs w hA hB hC
  rw [hg] at hG
  have hM1 := fun W (hW : Ext w W) => may_calls v0 xs _ W (hA.ext hW) (Nat.le_trans (small_len g1) (by omega)) (small_path g1)
  have hM2 := fun W (hW : Ext w W) => may_calls v1 ys _ W (hB.ext hW) (Nat.le_trans (small_len g2) (by omega)) (small_path g2)
  have hM3 := fun W (hW : Ext w W) => may_calls v2 zs _ W (hC.ext hW) (Nat.le_trans (small_len g3) (by omega)) (small_path g3)
  rw [m1] at hM1
  rw [m2] at hM2
  rw [m3] at hM3
  have hz1 : ∀ x ∈ xs, x.path.size ≤ 100 := fun x hx => ((greatB_false g1).2 x hx).1
  have hz2 : ∀ x ∈ ys, x.path.size ≤ 100 := fun x hx => ((greatB_false g2).2 x hx).1
  have hz3 : ∀ x ∈ zs, x.path.size ≤ 100 := fun x hx => ((greatB_false g3).2 x hx).1
  have SA := Lib.hid ((mayB_iff _).1 m2).rise
  have SB := Lib.hid ((mayB_iff _).1 m3).rise
  obtain ⟨A1, c1, rfl, _⟩ := hA.open_
  obtain ⟨A2, c2, rfl, _⟩ := hB.open_
  obtain ⟨A3, c3, rfl, _⟩ := hC.open_
  obtain ⟨n1, hn1⟩ : ∃ n, xs.length = n := ⟨_, rfl⟩
  obtain ⟨n2, hn2⟩ : ∃ n, ys.length = n := ⟨_, rfl⟩
  obtain ⟨n3, hn3⟩ : ∃ n, zs.length = n := ⟨_, rfl⟩
  rw [hn1, hn2, hn3] at hn
  rw [hn1] at hA
  rw [hn2] at hB
  rw [hn3] at hC
  rw [hn1, hn2, hn3] at hG ⊢
  rw [hn1] at hM1
  rw [hn2] at hM2
  rw [hn3] at hM3
  have HG := Lib.hid hG
  have HM1 := Lib.hid hM1
  have HM2 := Lib.hid hM2
  have HM3 := Lib.hid hM3
  have HA := Lib.hid fun W (hW : Ext w W) => hA.ext hW
  have HB := Lib.hid fun W (hW : Ext w W) => hB.ext hW
  have HC := Lib.hid fun W (hW : Ext w W) => hC.ext hW
  have N1 := Lib.hid hn1
  have N2 := Lib.hid hn2
  have N3 := Lib.hid hn3
  have Z1 := Lib.hid hz1
  have Z2 := Lib.hid hz2
  have Z3 := Lib.hid hz3
  clear hz1 hz2 hz3
  clear hA hB hC hg hm g1 g2 g3 m1 m2 m3 hG hM1 hM2 hM3 hn1 hn2 hn3
  have hs1 : IntKind.i64.wrap ((n2 : Int) + (n3 : Int)) = (n2 : Int) + (n3 : Int) := IntWalk.i64_in _ (by omega)
  have hs2 : IntKind.i64.wrap ((n2 : Int) + (n3 : Int) + (n1 : Int)) = (n2 : Int) + (n3 : Int) + (n1 : Int) := IntWalk.i64_in _ (by omega)
  have hs3 : decide ((12 : Int) < (n2 : Int) + (n3 : Int) + (n1 : Int)) = false := decide_eq_false (by omega)
  go_enter Tryz.func8, Tryz.ntmps8
  go_wp2_with fail
  refine HG.out.mono ?_
  rintro e w0 ⟨rfl, hw0⟩
  subst hw0
  clear HG
  go_wp2_with fail
  refine (HM1.out _ (Kp.refl _ _)).mono ?_
  rintro e w1 ⟨rfl, hx1⟩
  go_wp2_with fail
  refine (HM2.out _ hx1).mono ?_
  rintro e w2 ⟨rfl, hx2⟩
  have hx02 := hx1.trans hx2
  clear hx1 hx2
  go_wp2_with fail
  refine (HM3.out _ hx02).mono ?_
  rintro e w3 ⟨rfl, hx3⟩
  have hx03 := hx02.trans hx3
  clear hx02 hx3 HM1 HM2 HM3
  go_wp2_with fail
  clear hs1 hs2 hs3
  go_loopw [7, 8, 9, 10] (fun o p q i wr => ∃ k : Nat, k ≤ n1 ∧ i = .int .i64 k ∧ New EF 40 w3.heap.size wr o (preF oB (xs.take k)) ∧ New EF 40 w3.heap.size wr p (preF oB (xs.take k)) ∧ New EF 40 w3.heap.size wr q (preF oB (xs.take k)) ∧ ((∀ g, o.ownBlock = some g → p.ownBlock ≠ some g) ∧ (∀ g, p.ownBlock = some g → q.ownBlock ≠ some g) ∧ (∀ g, q.ownBlock = some g → o.ownBlock ≠ some g)) ∧ Ext w3 wr) (fun _ _ _ i _ => n1 - (intOf i).toNat)
  case atStart => exact ⟨0, Nat.zero_le _, rfl, New.nil _ _ _, New.nil _ _ _, New.nil _ _ _, ⟨(fun g h => by cases h), (fun g h => by cases h), (fun g h => by cases h)⟩, Kp.refl _ _⟩
  case round =>
    obtain ⟨k, hk, rfl, hNo, hNp, hNq, hap, hx⟩ := hrel
    rename World => wo
    rename_i u7 u8 u9
    by_cases hlk : k < n1
    · have hd : decide ((k : Int) < (n1 : Int)) = true := decide_eq_true (by omega)
      have hkp : k < xs.length := by have := N1.out; omega
      obtain ⟨Ax, cx, hvx, hOx⟩ := (HA.out wo (hx03.trans hx)).open_
      obtain ⟨b, off, hAt, _, _, d0, d1⟩ := hOx.rd.file hkp
      injection hvx with e1 e3 e2
      clear e3
      subst e1 e2
      subst hAt
      have HCELL : Hid (∀ W, Ext wo W → W.cell? ⟨b, off + k * 2, none⟩ = some (.string xs[k].path) ∧ W.cell? ⟨b, off + k * 2 + 1, none⟩ = some (.string xs[k].data)) := Lib.hid fun W hW => by
        obtain ⟨Ax, cx, hvx, hOx⟩ := (HA.out W (hx03.trans (hx.trans hW))).open_
        obtain ⟨b', off', hAt, _, _, d0, d1⟩ := hOx.rd.file hkp
        injection hvx with e1 e3 e2
        clear e3
        subst e1 e2
        injection hAt with hAt
        injection hAt with e1 e2
        subst e1 e2
        exact ⟨d0, d1⟩
      have hstep := Lib.hid (preF_take oB xs hkp)
      have hfz := Z1.out xs[k] (List.getElem_mem hkp)
      obtain ⟨f, hf⟩ : ∃ f, xs[k] = f := ⟨_, rfl⟩
      rw [hf] at d0 d1 HCELL hstep hfz
      obtain ⟨fp, fd⟩ := f
      dsimp only at d0 d1 HCELL hstep hfz
      have hcat : ∀ W, (Op.stringOp .add (⟨#[111]⟩ : ByteArray) fp).run Tryz.prog W = .ok (.string (oB ++ fp)) W := fun W => run_string_add_sum W _ _ (by have : (⟨#[111]⟩ : ByteArray).size = 1 := rfl; omega)
      clear hfz
      have hlt' : (k : Int) < (n1 : Int) := by omega
      have h0 : (0 : Int) ≤ (k : Int) := by omega
      have hw : IntKind.i64.wrap ((k : Int) + 1) = (k : Int) + 1 := IntWalk.i64_in _ (by omega)
      clear hOx hf
      go_wp2_with fail
      go_region_held3 (fun w' => w'.cell? ⟨b, off + k * 2, none⟩ = some (.string fp) ∧ w'.cell? ⟨b, off + k * 2 + 1, none⟩ = some (.string fd))
        (first | exact HCELL.out _ ((Kp.refl _ wo).drew) | exact HCELL.out _ (((Kp.refl _ wo).drew).alloc _) | exact HCELL.out _ (((((Kp.refl _ wo).drew).alloc _).setCell (.inl (by simp)) _).setCell (.inl (by simp)) _) | fail)
        (fail)
      have hBf : Blk (wo.alloc (.cells #[.string (oB ++ fp), .string fd] 40)).drew wo.heap.size 40 #[.string (oB ++ fp), .string fd] := (Blk.new wo _ _).ext ((Kp.refl _ _).drew)
      have hxa : Ext wo (wo.alloc (.cells #[.string (oB ++ fp), .string fd] 40)).drew := ((Kp.refl _ wo).alloc _).drew
      generalize (wo.alloc (.cells #[.string (oB ++ fp), .string fd] 40)).drew = wa at hBf hxa ⊢
      go_wp2_with fail
      have hlen : (preF oB (xs.take k)).length ≤ 1000 := by rw [preF_len, List.length_take]; have := N1.out; omega
      have hL0 : Live w3 wo.heap.size #[.string (oB ++ fp), .string fd] wa.drew u7 u8 u9 (preF oB (xs.take k)) (preF oB (xs.take k)) (preF oB (xs.take k)) :=
        ⟨hBf.ext ((Kp.refl _ _).drew), hNo.ext (hxa.trans ((Kp.refl _ _).drew)), hNp.ext (hxa.trans ((Kp.refl _ _).drew)), hNq.ext (hxa.trans ((Kp.refl _ _).drew)), hap.1, hap.2.1, hap.2.2, fun e => absurd (hNo.1.lt e) (Nat.lt_irrefl _), fun e => absurd (hNp.1.lt e) (Nat.lt_irrefl _), fun e => absurd (hNq.1.lt e) (Nat.lt_irrefl _), (hx.trans hxa).trans ((Kp.refl _ _).drew)⟩
      refine wp_meet8 (fun x y z wx => New EF 40 w3.heap.size wx x (preF oB (xs.take k) ++ [⟨oB ++ fp, fd⟩]) ∧ New EF 40 w3.heap.size wx y (preF oB (xs.take k) ++ [⟨oB ++ fp, fd⟩]) ∧ New EF 40 w3.heap.size wx z (preF oB (xs.take k) ++ [⟨oB ++ fp, fd⟩]) ∧ (∀ g, x.ownBlock = some g → y.ownBlock ≠ some g) ∧ (∀ g, y.ownBlock = some g → z.ownBlock ≠ some g) ∧ (∀ g, z.ownBlock = some g → x.ownBlock ≠ some g) ∧ Ext w3 wx) ?_ ?_
      · generalize preF oB (xs.take k) = l0 at hL0 hlen ⊢
        clear hNo hNp hNq hap hx hxa hBf hstep HCELL HA HB HC N1 N2 N3 Z1 Z2 Z3 hx03 hcat hw h0 hlt' hd hkp hlk hk d0 d1 hn
      -- REGION 8: printed by genapart.py
        refine wp_region_held_drew (S := (fun W => W.cell? ⟨wo.heap.size, 0, none⟩ = some (.string (oB ++ fp)) ∧ W.cell? ⟨wo.heap.size, 1, none⟩ = some (.string fd))) (by kernel_rfl) ?_ (fun hHeld => ?_)
        · exact ⟨hL0.blk.cell 0, hL0.blk.cell 1⟩
        refine wpAnyH_take (i := 0) (v := ?_) rfl (by kernel_rfl) (by kernel_rfl) (by kernel_rfl) (fun _ _ _ h => h) (Or.inl ⟨by rfl, ?_⟩) (by assumption) ?_
        rotate_left
        · intro w hSw; (try dsimp only at hSw); go_simp; (try with_reducible rfl)
        try simp only [List.getElem_toArray, List.getElem_cons_succ, List.getElem_cons_zero, Act.put, List.setIfInBounds_toArray, List.set_cons_zero, List.set_cons_succ]
        refine wpAnyH_take (i := 1) (v := ?_) rfl (by kernel_rfl) (by kernel_rfl) (by kernel_rfl) (fun _ _ _ h => h) (Or.inl ⟨by rfl, ?_⟩) (by assumption) ?_
        rotate_left
        · intro w hSw; (try dsimp only at hSw); go_simp; (try with_reducible rfl)
        try simp only [List.getElem_toArray, List.getElem_cons_succ, List.getElem_cons_zero, Act.put, List.setIfInBounds_toArray, List.set_cons_zero, List.set_cons_succ]
        refine wpAnyH_take (i := 4) (v := ?_) rfl (by kernel_rfl) (by kernel_rfl) (by kernel_rfl) (fun _ _ _ h => h) (Or.inl ⟨by rfl, ?_⟩) (by assumption) ?_
        rotate_left
        · intro w hSw; (try dsimp only at hSw); go_simp; (try with_reducible rfl)
        try simp only [List.getElem_toArray, List.getElem_cons_succ, List.getElem_cons_zero, Act.put, List.setIfInBounds_toArray, List.set_cons_zero, List.set_cons_succ]
        refine wpAnyH_take (i := 5) (v := ?_) rfl (by kernel_rfl) (by kernel_rfl) (by kernel_rfl) (fun _ _ _ h => h) (Or.inl ⟨by rfl, ?_⟩) (by assumption) ?_
        rotate_left
        · intro w hSw; (try dsimp only at hSw); go_simp; (try with_reducible rfl)
        try simp only [List.getElem_toArray, List.getElem_cons_succ, List.getElem_cons_zero, Act.put, List.setIfInBounds_toArray, List.set_cons_zero, List.set_cons_succ]
        refine wpAnyH_take (i := 8) (v := ?_) rfl (by kernel_rfl) (by kernel_rfl) (by kernel_rfl) (fun _ _ _ h => h) (Or.inl ⟨by rfl, ?_⟩) (by assumption) ?_
        rotate_left
        · intro w hSw; (try dsimp only at hSw); go_simp; (try with_reducible rfl)
        try simp only [List.getElem_toArray, List.getElem_cons_succ, List.getElem_cons_zero, Act.put, List.setIfInBounds_toArray, List.set_cons_zero, List.set_cons_succ]
        refine wpAnyH_take (i := 9) (v := ?_) rfl (by kernel_rfl) (by kernel_rfl) (by kernel_rfl) (fun _ _ _ h => h) (Or.inl ⟨by rfl, ?_⟩) (by assumption) ?_
        rotate_left
        · intro w hSw; (try dsimp only at hSw); go_simp; (try with_reducible rfl)
        try simp only [List.getElem_toArray, List.getElem_cons_succ, List.getElem_cons_zero, Act.put, List.setIfInBounds_toArray, List.set_cons_zero, List.set_cons_succ]
        refine wpAnyH_ready (rs := [2, 6, 10]) (by kernel_rfl) (by simp) ?_
        refine AllReadyH.cons rfl (fun K hK => ?_) ?_
        · skip
          go_simp
          refine hK.out _ _ ?_ (fun hHeld => ?_)
          · exact ⟨(hL0.alloc (.cells #[.string (oB ++ fp), .string fd] 40)).blk.cell 0, (hL0.alloc (.cells #[.string (oB ++ fp), .string fd] 40)).blk.cell 1⟩
          clear hK K
          try simp only [List.getElem_toArray, List.getElem_cons_succ, List.getElem_cons_zero, Act.put, List.setIfInBounds_toArray, List.set_cons_zero, List.set_cons_succ]
          have hL1 := hL0.alloc (.cells #[.string (oB ++ fp), .string fd] 40)
          have hB1_2 := hL0.built (⟨oB ++ fp, fd⟩ : File)
          try simp only [World.size_alloc] at hB1_2
          refine wpAnyH_ready (rs := [3, 6, 10]) (by kernel_rfl) (by simp) ?_
          refine AllReadyH.cons rfl (fun K hK => ?_) ?_
          · skip
            refine step_live1 tiF (by rfl) (by rfl) hL1 hB1_2 (by rfl) (by rfl) (by omega) ?_
            intro v3 W2 hL2 hT2
            refine hK.out _ _ ?_ (fun hHeld => ?_)
            · exact ⟨hL2.blk.cell 0, hL2.blk.cell 1⟩
            clear hK K
            try simp only [List.getElem_toArray, List.getElem_cons_succ, List.getElem_cons_zero, Act.put, List.setIfInBounds_toArray, List.set_cons_zero, List.set_cons_succ]
            have hB2_2 := hT2 _ _ hB1_2
            refine wpAnyH_ready (rs := [6, 10]) (by kernel_rfl) (by simp) ?_
            refine AllReadyH.cons rfl (fun K hK => ?_) ?_
            · skip
              go_simp
              refine hK.out _ _ ?_ (fun hHeld => ?_)
              · exact ⟨(hL2.alloc (.cells #[.string (oB ++ fp), .string fd] 40)).blk.cell 0, (hL2.alloc (.cells #[.string (oB ++ fp), .string fd] 40)).blk.cell 1⟩
              clear hK K
              try simp only [List.getElem_toArray, List.getElem_cons_succ, List.getElem_cons_zero, Act.put, List.setIfInBounds_toArray, List.set_cons_zero, List.set_cons_succ]
              have hL3 := hL2.alloc (.cells #[.string (oB ++ fp), .string fd] 40)
              have hB3_6 := hL2.built (⟨oB ++ fp, fd⟩ : File)
              try simp only [World.size_alloc] at hB3_6
              have hB3_2 := hB2_2.alloc (.cells #[.string (oB ++ fp), .string fd] 40)
              refine wpAnyH_ready (rs := [7, 10]) (by kernel_rfl) (by simp) ?_
              refine AllReadyH.cons rfl (fun K hK => ?_) ?_
              · skip
                refine step_live2 tiF (by rfl) (by rfl) hL3 hB3_6 (by rfl) (by rfl) (by omega) ?_
                intro v7 W4 hL4 hT4
                refine hK.out _ _ ?_ (fun hHeld => ?_)
                · exact ⟨hL4.blk.cell 0, hL4.blk.cell 1⟩
                clear hK K
                try simp only [List.getElem_toArray, List.getElem_cons_succ, List.getElem_cons_zero, Act.put, List.setIfInBounds_toArray, List.set_cons_zero, List.set_cons_succ]
                have hB4_2 := hT4 _ _ hB3_2
                have hB4_6 := hT4 _ _ hB3_6
                refine wpAnyH_ready (rs := [10]) (by kernel_rfl) (by simp) ?_
                refine AllReadyH.cons rfl (fun K hK => ?_) ?_
                · skip
                  go_simp
                  refine hK.out _ _ ?_ (fun hHeld => ?_)
                  · exact ⟨(hL4.alloc (.cells #[.string (oB ++ fp), .string fd] 40)).blk.cell 0, (hL4.alloc (.cells #[.string (oB ++ fp), .string fd] 40)).blk.cell 1⟩
                  clear hK K
                  try simp only [List.getElem_toArray, List.getElem_cons_succ, List.getElem_cons_zero, Act.put, List.setIfInBounds_toArray, List.set_cons_zero, List.set_cons_succ]
                  have hL5 := hL4.alloc (.cells #[.string (oB ++ fp), .string fd] 40)
                  have hB5_10 := hL4.built (⟨oB ++ fp, fd⟩ : File)
                  try simp only [World.size_alloc] at hB5_10
                  have hB5_2 := hB4_2.alloc (.cells #[.string (oB ++ fp), .string fd] 40)
                  have hB5_6 := hB4_6.alloc (.cells #[.string (oB ++ fp), .string fd] 40)
                  refine wpAnyH_ready (rs := [11]) (by kernel_rfl) (by simp) ?_
                  refine AllReadyH.cons rfl (fun K hK => ?_) ?_
                  · skip
                    refine step_live3 tiF (by rfl) (by rfl) hL5 hB5_10 (by rfl) (by rfl) (by omega) ?_
                    intro v11 W6 hL6 hT6
                    refine hK.out _ _ ?_ (fun hHeld => ?_)
                    · exact ⟨hL6.blk.cell 0, hL6.blk.cell 1⟩
                    clear hK K
                    try simp only [List.getElem_toArray, List.getElem_cons_succ, List.getElem_cons_zero, Act.put, List.setIfInBounds_toArray, List.set_cons_zero, List.set_cons_succ]
                    have hB6_2 := hT6 _ _ hB5_2
                    have hB6_6 := hT6 _ _ hB5_6
                    have hB6_10 := hT6 _ _ hB5_10
                    refine wpAnyH_take (i := 12) (v := ?_) rfl (by kernel_rfl) (by kernel_rfl) (by kernel_rfl) (fun _ _ _ h => h) (Or.inl ⟨by rfl, ?_⟩) (by assumption) ?_
                    rotate_left
                    · intro w hSw; (try dsimp only at hSw); go_simp; (try with_reducible rfl)
                    try simp only [List.getElem_toArray, List.getElem_cons_succ, List.getElem_cons_zero, Act.put, List.setIfInBounds_toArray, List.set_cons_zero, List.set_cons_succ]
                    refine wpAnyH_take (i := 13) (v := ?_) rfl (by kernel_rfl) (by kernel_rfl) (by kernel_rfl) (fun _ _ _ h => h) (Or.inl ⟨by rfl, ?_⟩) (by assumption) ?_
                    rotate_left
                    · intro w hSw; (try dsimp only at hSw); go_simp; (try with_reducible rfl)
                    try simp only [List.getElem_toArray, List.getElem_cons_succ, List.getElem_cons_zero, Act.put, List.setIfInBounds_toArray, List.set_cons_zero, List.set_cons_succ]
                    refine wpAnyH_take (i := 14) (v := ?_) rfl (by kernel_rfl) (by kernel_rfl) (by kernel_rfl) (fun _ _ _ h => h) (Or.inl ⟨by rfl, ?_⟩) (by assumption) ?_
                    rotate_left
                    · intro w hSw; (try dsimp only at hSw); go_simp; (try with_reducible rfl)
                    try simp only [List.getElem_toArray, List.getElem_cons_succ, List.getElem_cons_zero, Act.put, List.setIfInBounds_toArray, List.set_cons_zero, List.set_cons_succ]
                    refine wpAnyH_done (by kernel_rfl) ?_ _
                    exact ⟨u7, .agg #[.string (oB ++ fp), .string fd], _, v3, u8, .agg #[.string (oB ++ fp), .string fd], _, v7, u9, .agg #[.string (oB ++ fp), .string fd], _, v11, v3, v7, v11, (by simp only [put8, Act.put, List.setIfInBounds_toArray, List.set_cons_zero, List.set_cons_succ]; rfl), hL6.n1, hL6.n2, hL6.n3, (fun g h => hL6.a12 g h), (fun g h => hL6.a23 g h), (fun g h => hL6.a31 g h), hL6.ext⟩
                  exact AllReadyH.nil
                exact AllReadyH.nil
              refine AllReadyH.cons rfl (fun K hK => ?_) ?_
              · skip
                go_simp
                refine hK.out _ _ ?_ (fun hHeld => ?_)
                · exact ⟨(hL3.alloc (.cells #[.string (oB ++ fp), .string fd] 40)).blk.cell 0, (hL3.alloc (.cells #[.string (oB ++ fp), .string fd] 40)).blk.cell 1⟩
                clear hK K
                try simp only [List.getElem_toArray, List.getElem_cons_succ, List.getElem_cons_zero, Act.put, List.setIfInBounds_toArray, List.set_cons_zero, List.set_cons_succ]
                have hL4 := hL3.alloc (.cells #[.string (oB ++ fp), .string fd] 40)
                have hB4_10 := hL3.built (⟨oB ++ fp, fd⟩ : File)
                try simp only [World.size_alloc] at hB4_10
                have hB4_2 := hB3_2.alloc (.cells #[.string (oB ++ fp), .string fd] 40)
                have hB4_6 := hB3_6.alloc (.cells #[.string (oB ++ fp), .string fd] 40)
                refine wpAnyH_ready (rs := [7]) (by kernel_rfl) (by simp) ?_
                refine AllReadyH.cons rfl (fun K hK => ?_) ?_
                · skip
                  refine step_live2 tiF (by rfl) (by rfl) hL4 hB4_6 (by rfl) (by rfl) (by omega) ?_
                  intro v7 W5 hL5 hT5
                  refine hK.out _ _ ?_ (fun hHeld => ?_)
                  · exact ⟨hL5.blk.cell 0, hL5.blk.cell 1⟩
                  clear hK K
                  try simp only [List.getElem_toArray, List.getElem_cons_succ, List.getElem_cons_zero, Act.put, List.setIfInBounds_toArray, List.set_cons_zero, List.set_cons_succ]
                  have hB5_2 := hT5 _ _ hB4_2
                  have hB5_6 := hT5 _ _ hB4_6
                  have hB5_10 := hT5 _ _ hB4_10
                  refine wpAnyH_ready (rs := [11]) (by kernel_rfl) (by simp) ?_
                  refine AllReadyH.cons rfl (fun K hK => ?_) ?_
                  · skip
                    refine step_live3 tiF (by rfl) (by rfl) hL5 hB5_10 (by rfl) (by rfl) (by omega) ?_
                    intro v11 W6 hL6 hT6
                    refine hK.out _ _ ?_ (fun hHeld => ?_)
                    · exact ⟨hL6.blk.cell 0, hL6.blk.cell 1⟩
                    clear hK K
                    try simp only [List.getElem_toArray, List.getElem_cons_succ, List.getElem_cons_zero, Act.put, List.setIfInBounds_toArray, List.set_cons_zero, List.set_cons_succ]
                    have hB6_2 := hT6 _ _ hB5_2
                    have hB6_6 := hT6 _ _ hB5_6
                    have hB6_10 := hT6 _ _ hB5_10
                    refine wpAnyH_take (i := 12) (v := ?_) rfl (by kernel_rfl) (by kernel_rfl) (by kernel_rfl) (fun _ _ _ h => h) (Or.inl ⟨by rfl, ?_⟩) (by assumption) ?_
                    rotate_left
                    · intro w hSw; (try dsimp only at hSw); go_simp; (try with_reducible rfl)
                    try simp only [List.getElem_toArray, List.getElem_cons_succ, List.getElem_cons_zero, Act.put, List.setIfInBounds_toArray, List.set_cons_zero, List.set_cons_succ]
                    refine wpAnyH_take (i := 13) (v := ?_) rfl (by kernel_rfl) (by kernel_rfl) (by kernel_rfl) (fun _ _ _ h => h) (Or.inl ⟨by rfl, ?_⟩) (by assumption) ?_
                    rotate_left
                    · intro w hSw; (try dsimp only at hSw); go_simp; (try with_reducible rfl)
                    try simp only [List.getElem_toArray, List.getElem_cons_succ, List.getElem_cons_zero, Act.put, List.setIfInBounds_toArray, List.set_cons_zero, List.set_cons_succ]
                    refine wpAnyH_take (i := 14) (v := ?_) rfl (by kernel_rfl) (by kernel_rfl) (by kernel_rfl) (fun _ _ _ h => h) (Or.inl ⟨by rfl, ?_⟩) (by assumption) ?_
                    rotate_left
                    · intro w hSw; (try dsimp only at hSw); go_simp; (try with_reducible rfl)
                    try simp only [List.getElem_toArray, List.getElem_cons_succ, List.getElem_cons_zero, Act.put, List.setIfInBounds_toArray, List.set_cons_zero, List.set_cons_succ]
                    refine wpAnyH_done (by kernel_rfl) ?_ _
                    exact ⟨u7, .agg #[.string (oB ++ fp), .string fd], _, v3, u8, .agg #[.string (oB ++ fp), .string fd], _, v7, u9, .agg #[.string (oB ++ fp), .string fd], _, v11, v3, v7, v11, (by simp only [put8, Act.put, List.setIfInBounds_toArray, List.set_cons_zero, List.set_cons_succ]; rfl), hL6.n1, hL6.n2, hL6.n3, (fun g h => hL6.a12 g h), (fun g h => hL6.a23 g h), (fun g h => hL6.a31 g h), hL6.ext⟩
                  exact AllReadyH.nil
                exact AllReadyH.nil
              exact AllReadyH.nil
            refine AllReadyH.cons rfl (fun K hK => ?_) ?_
            · skip
              go_simp
              refine hK.out _ _ ?_ (fun hHeld => ?_)
              · exact ⟨(hL2.alloc (.cells #[.string (oB ++ fp), .string fd] 40)).blk.cell 0, (hL2.alloc (.cells #[.string (oB ++ fp), .string fd] 40)).blk.cell 1⟩
              clear hK K
              try simp only [List.getElem_toArray, List.getElem_cons_succ, List.getElem_cons_zero, Act.put, List.setIfInBounds_toArray, List.set_cons_zero, List.set_cons_succ]
              have hL3 := hL2.alloc (.cells #[.string (oB ++ fp), .string fd] 40)
              have hB3_10 := hL2.built (⟨oB ++ fp, fd⟩ : File)
              try simp only [World.size_alloc] at hB3_10
              have hB3_2 := hB2_2.alloc (.cells #[.string (oB ++ fp), .string fd] 40)
              refine wpAnyH_ready (rs := [6]) (by kernel_rfl) (by simp) ?_
              refine AllReadyH.cons rfl (fun K hK => ?_) ?_
              · skip
                go_simp
                refine hK.out _ _ ?_ (fun hHeld => ?_)
                · exact ⟨(hL3.alloc (.cells #[.string (oB ++ fp), .string fd] 40)).blk.cell 0, (hL3.alloc (.cells #[.string (oB ++ fp), .string fd] 40)).blk.cell 1⟩
                clear hK K
                try simp only [List.getElem_toArray, List.getElem_cons_succ, List.getElem_cons_zero, Act.put, List.setIfInBounds_toArray, List.set_cons_zero, List.set_cons_succ]
                have hL4 := hL3.alloc (.cells #[.string (oB ++ fp), .string fd] 40)
                have hB4_6 := hL3.built (⟨oB ++ fp, fd⟩ : File)
                try simp only [World.size_alloc] at hB4_6
                have hB4_2 := hB3_2.alloc (.cells #[.string (oB ++ fp), .string fd] 40)
                have hB4_10 := hB3_10.alloc (.cells #[.string (oB ++ fp), .string fd] 40)
                refine wpAnyH_ready (rs := [7]) (by kernel_rfl) (by simp) ?_
                refine AllReadyH.cons rfl (fun K hK => ?_) ?_
                · skip
                  refine step_live2 tiF (by rfl) (by rfl) hL4 hB4_6 (by rfl) (by rfl) (by omega) ?_
                  intro v7 W5 hL5 hT5
                  refine hK.out _ _ ?_ (fun hHeld => ?_)
                  · exact ⟨hL5.blk.cell 0, hL5.blk.cell 1⟩
                  clear hK K
                  try simp only [List.getElem_toArray, List.getElem_cons_succ, List.getElem_cons_zero, Act.put, List.setIfInBounds_toArray, List.set_cons_zero, List.set_cons_succ]
                  have hB5_2 := hT5 _ _ hB4_2
                  have hB5_10 := hT5 _ _ hB4_10
                  have hB5_6 := hT5 _ _ hB4_6
                  refine wpAnyH_ready (rs := [11]) (by kernel_rfl) (by simp) ?_
                  refine AllReadyH.cons rfl (fun K hK => ?_) ?_
                  · skip
                    refine step_live3 tiF (by rfl) (by rfl) hL5 hB5_10 (by rfl) (by rfl) (by omega) ?_
                    intro v11 W6 hL6 hT6
                    refine hK.out _ _ ?_ (fun hHeld => ?_)
                    · exact ⟨hL6.blk.cell 0, hL6.blk.cell 1⟩
                    clear hK K
                    try simp only [List.getElem_toArray, List.getElem_cons_succ, List.getElem_cons_zero, Act.put, List.setIfInBounds_toArray, List.set_cons_zero, List.set_cons_succ]
                    have hB6_2 := hT6 _ _ hB5_2
                    have hB6_10 := hT6 _ _ hB5_10
                    have hB6_6 := hT6 _ _ hB5_6
                    refine wpAnyH_take (i := 12) (v := ?_) rfl (by kernel_rfl) (by kernel_rfl) (by kernel_rfl) (fun _ _ _ h => h) (Or.inl ⟨by rfl, ?_⟩) (by assumption) ?_
                    rotate_left
                    · intro w hSw; (try dsimp only at hSw); go_simp; (try with_reducible rfl)
                    try simp only [List.getElem_toArray, List.getElem_cons_succ, List.getElem_cons_zero, Act.put, List.setIfInBounds_toArray, List.set_cons_zero, List.set_cons_succ]
                    refine wpAnyH_take (i := 13) (v := ?_) rfl (by kernel_rfl) (by kernel_rfl) (by kernel_rfl) (fun _ _ _ h => h) (Or.inl ⟨by rfl, ?_⟩) (by assumption) ?_
                    rotate_left
                    · intro w hSw; (try dsimp only at hSw); go_simp; (try with_reducible rfl)
                    try simp only [List.getElem_toArray, List.getElem_cons_succ, List.getElem_cons_zero, Act.put, List.setIfInBounds_toArray, List.set_cons_zero, List.set_cons_succ]
                    refine wpAnyH_take (i := 14) (v := ?_) rfl (by kernel_rfl) (by kernel_rfl) (by kernel_rfl) (fun _ _ _ h => h) (Or.inl ⟨by rfl, ?_⟩) (by assumption) ?_
                    rotate_left
                    · intro w hSw; (try dsimp only at hSw); go_simp; (try with_reducible rfl)
                    try simp only [List.getElem_toArray, List.getElem_cons_succ, List.getElem_cons_zero, Act.put, List.setIfInBounds_toArray, List.set_cons_zero, List.set_cons_succ]
                    refine wpAnyH_done (by kernel_rfl) ?_ _
                    exact ⟨u7, .agg #[.string (oB ++ fp), .string fd], _, v3, u8, .agg #[.string (oB ++ fp), .string fd], _, v7, u9, .agg #[.string (oB ++ fp), .string fd], _, v11, v3, v7, v11, (by simp only [put8, Act.put, List.setIfInBounds_toArray, List.set_cons_zero, List.set_cons_succ]; rfl), hL6.n1, hL6.n2, hL6.n3, (fun g h => hL6.a12 g h), (fun g h => hL6.a23 g h), (fun g h => hL6.a31 g h), hL6.ext⟩
                  exact AllReadyH.nil
                exact AllReadyH.nil
              exact AllReadyH.nil
            exact AllReadyH.nil
          refine AllReadyH.cons rfl (fun K hK => ?_) ?_
          · skip
            go_simp
            refine hK.out _ _ ?_ (fun hHeld => ?_)
            · exact ⟨(hL1.alloc (.cells #[.string (oB ++ fp), .string fd] 40)).blk.cell 0, (hL1.alloc (.cells #[.string (oB ++ fp), .string fd] 40)).blk.cell 1⟩
            clear hK K
            try simp only [List.getElem_toArray, List.getElem_cons_succ, List.getElem_cons_zero, Act.put, List.setIfInBounds_toArray, List.set_cons_zero, List.set_cons_succ]
            have hL2 := hL1.alloc (.cells #[.string (oB ++ fp), .string fd] 40)
            have hB2_6 := hL1.built (⟨oB ++ fp, fd⟩ : File)
            try simp only [World.size_alloc] at hB2_6
            have hB2_2 := hB1_2.alloc (.cells #[.string (oB ++ fp), .string fd] 40)
            refine wpAnyH_ready (rs := [3, 10]) (by kernel_rfl) (by simp) ?_
            refine AllReadyH.cons rfl (fun K hK => ?_) ?_
            · skip
              refine step_live1 tiF (by rfl) (by rfl) hL2 hB2_2 (by rfl) (by rfl) (by omega) ?_
              intro v3 W3 hL3 hT3
              refine hK.out _ _ ?_ (fun hHeld => ?_)
              · exact ⟨hL3.blk.cell 0, hL3.blk.cell 1⟩
              clear hK K
              try simp only [List.getElem_toArray, List.getElem_cons_succ, List.getElem_cons_zero, Act.put, List.setIfInBounds_toArray, List.set_cons_zero, List.set_cons_succ]
              have hB3_2 := hT3 _ _ hB2_2
              have hB3_6 := hT3 _ _ hB2_6
              refine wpAnyH_ready (rs := [7, 10]) (by kernel_rfl) (by simp) ?_
              refine AllReadyH.cons rfl (fun K hK => ?_) ?_
              · skip
                refine step_live2 tiF (by rfl) (by rfl) hL3 hB3_6 (by rfl) (by rfl) (by omega) ?_
                intro v7 W4 hL4 hT4
                refine hK.out _ _ ?_ (fun hHeld => ?_)
                · exact ⟨hL4.blk.cell 0, hL4.blk.cell 1⟩
                clear hK K
                try simp only [List.getElem_toArray, List.getElem_cons_succ, List.getElem_cons_zero, Act.put, List.setIfInBounds_toArray, List.set_cons_zero, List.set_cons_succ]
                have hB4_2 := hT4 _ _ hB3_2
                have hB4_6 := hT4 _ _ hB3_6
                refine wpAnyH_ready (rs := [10]) (by kernel_rfl) (by simp) ?_
                refine AllReadyH.cons rfl (fun K hK => ?_) ?_
                · skip
                  go_simp
                  refine hK.out _ _ ?_ (fun hHeld => ?_)
                  · exact ⟨(hL4.alloc (.cells #[.string (oB ++ fp), .string fd] 40)).blk.cell 0, (hL4.alloc (.cells #[.string (oB ++ fp), .string fd] 40)).blk.cell 1⟩
                  clear hK K
                  try simp only [List.getElem_toArray, List.getElem_cons_succ, List.getElem_cons_zero, Act.put, List.setIfInBounds_toArray, List.set_cons_zero, List.set_cons_succ]
                  have hL5 := hL4.alloc (.cells #[.string (oB ++ fp), .string fd] 40)
                  have hB5_10 := hL4.built (⟨oB ++ fp, fd⟩ : File)
                  try simp only [World.size_alloc] at hB5_10
                  have hB5_2 := hB4_2.alloc (.cells #[.string (oB ++ fp), .string fd] 40)
                  have hB5_6 := hB4_6.alloc (.cells #[.string (oB ++ fp), .string fd] 40)
                  refine wpAnyH_ready (rs := [11]) (by kernel_rfl) (by simp) ?_
                  refine AllReadyH.cons rfl (fun K hK => ?_) ?_
                  · skip
                    refine step_live3 tiF (by rfl) (by rfl) hL5 hB5_10 (by rfl) (by rfl) (by omega) ?_
                    intro v11 W6 hL6 hT6
                    refine hK.out _ _ ?_ (fun hHeld => ?_)
                    · exact ⟨hL6.blk.cell 0, hL6.blk.cell 1⟩
                    clear hK K
                    try simp only [List.getElem_toArray, List.getElem_cons_succ, List.getElem_cons_zero, Act.put, List.setIfInBounds_toArray, List.set_cons_zero, List.set_cons_succ]
                    have hB6_2 := hT6 _ _ hB5_2
                    have hB6_6 := hT6 _ _ hB5_6
                    have hB6_10 := hT6 _ _ hB5_10
                    refine wpAnyH_take (i := 12) (v := ?_) rfl (by kernel_rfl) (by kernel_rfl) (by kernel_rfl) (fun _ _ _ h => h) (Or.inl ⟨by rfl, ?_⟩) (by assumption) ?_
                    rotate_left
                    · intro w hSw; (try dsimp only at hSw); go_simp; (try with_reducible rfl)
                    try simp only [List.getElem_toArray, List.getElem_cons_succ, List.getElem_cons_zero, Act.put, List.setIfInBounds_toArray, List.set_cons_zero, List.set_cons_succ]
                    refine wpAnyH_take (i := 13) (v := ?_) rfl (by kernel_rfl) (by kernel_rfl) (by kernel_rfl) (fun _ _ _ h => h) (Or.inl ⟨by rfl, ?_⟩) (by assumption) ?_
                    rotate_left
                    · intro w hSw; (try dsimp only at hSw); go_simp; (try with_reducible rfl)
                    try simp only [List.getElem_toArray, List.getElem_cons_succ, List.getElem_cons_zero, Act.put, List.setIfInBounds_toArray, List.set_cons_zero, List.set_cons_succ]
                    refine wpAnyH_take (i := 14) (v := ?_) rfl (by kernel_rfl) (by kernel_rfl) (by kernel_rfl) (fun _ _ _ h => h) (Or.inl ⟨by rfl, ?_⟩) (by assumption) ?_
                    rotate_left
                    · intro w hSw; (try dsimp only at hSw); go_simp; (try with_reducible rfl)
                    try simp only [List.getElem_toArray, List.getElem_cons_succ, List.getElem_cons_zero, Act.put, List.setIfInBounds_toArray, List.set_cons_zero, List.set_cons_succ]
                    refine wpAnyH_done (by kernel_rfl) ?_ _
                    exact ⟨u7, .agg #[.string (oB ++ fp), .string fd], _, v3, u8, .agg #[.string (oB ++ fp), .string fd], _, v7, u9, .agg #[.string (oB ++ fp), .string fd], _, v11, v3, v7, v11, (by simp only [put8, Act.put, List.setIfInBounds_toArray, List.set_cons_zero, List.set_cons_succ]; rfl), hL6.n1, hL6.n2, hL6.n3, (fun g h => hL6.a12 g h), (fun g h => hL6.a23 g h), (fun g h => hL6.a31 g h), hL6.ext⟩
                  exact AllReadyH.nil
                exact AllReadyH.nil
              refine AllReadyH.cons rfl (fun K hK => ?_) ?_
              · skip
                go_simp
                refine hK.out _ _ ?_ (fun hHeld => ?_)
                · exact ⟨(hL3.alloc (.cells #[.string (oB ++ fp), .string fd] 40)).blk.cell 0, (hL3.alloc (.cells #[.string (oB ++ fp), .string fd] 40)).blk.cell 1⟩
                clear hK K
                try simp only [List.getElem_toArray, List.getElem_cons_succ, List.getElem_cons_zero, Act.put, List.setIfInBounds_toArray, List.set_cons_zero, List.set_cons_succ]
                have hL4 := hL3.alloc (.cells #[.string (oB ++ fp), .string fd] 40)
                have hB4_10 := hL3.built (⟨oB ++ fp, fd⟩ : File)
                try simp only [World.size_alloc] at hB4_10
                have hB4_2 := hB3_2.alloc (.cells #[.string (oB ++ fp), .string fd] 40)
                have hB4_6 := hB3_6.alloc (.cells #[.string (oB ++ fp), .string fd] 40)
                refine wpAnyH_ready (rs := [7]) (by kernel_rfl) (by simp) ?_
                refine AllReadyH.cons rfl (fun K hK => ?_) ?_
                · skip
                  refine step_live2 tiF (by rfl) (by rfl) hL4 hB4_6 (by rfl) (by rfl) (by omega) ?_
                  intro v7 W5 hL5 hT5
                  refine hK.out _ _ ?_ (fun hHeld => ?_)
                  · exact ⟨hL5.blk.cell 0, hL5.blk.cell 1⟩
                  clear hK K
                  try simp only [List.getElem_toArray, List.getElem_cons_succ, List.getElem_cons_zero, Act.put, List.setIfInBounds_toArray, List.set_cons_zero, List.set_cons_succ]
                  have hB5_2 := hT5 _ _ hB4_2
                  have hB5_6 := hT5 _ _ hB4_6
                  have hB5_10 := hT5 _ _ hB4_10
                  refine wpAnyH_ready (rs := [11]) (by kernel_rfl) (by simp) ?_
                  refine AllReadyH.cons rfl (fun K hK => ?_) ?_
                  · skip
                    refine step_live3 tiF (by rfl) (by rfl) hL5 hB5_10 (by rfl) (by rfl) (by omega) ?_
                    intro v11 W6 hL6 hT6
                    refine hK.out _ _ ?_ (fun hHeld => ?_)
                    · exact ⟨hL6.blk.cell 0, hL6.blk.cell 1⟩
                    clear hK K
                    try simp only [List.getElem_toArray, List.getElem_cons_succ, List.getElem_cons_zero, Act.put, List.setIfInBounds_toArray, List.set_cons_zero, List.set_cons_succ]
                    have hB6_2 := hT6 _ _ hB5_2
                    have hB6_6 := hT6 _ _ hB5_6
                    have hB6_10 := hT6 _ _ hB5_10
                    refine wpAnyH_take (i := 12) (v := ?_) rfl (by kernel_rfl) (by kernel_rfl) (by kernel_rfl) (fun _ _ _ h => h) (Or.inl ⟨by rfl, ?_⟩) (by assumption) ?_
                    rotate_left
                    · intro w hSw; (try dsimp only at hSw); go_simp; (try with_reducible rfl)
                    try simp only [List.getElem_toArray, List.getElem_cons_succ, List.getElem_cons_zero, Act.put, List.setIfInBounds_toArray, List.set_cons_zero, List.set_cons_succ]
                    refine wpAnyH_take (i := 13) (v := ?_) rfl (by kernel_rfl) (by kernel_rfl) (by kernel_rfl) (fun _ _ _ h => h) (Or.inl ⟨by rfl, ?_⟩) (by assumption) ?_
                    rotate_left
                    · intro w hSw; (try dsimp only at hSw); go_simp; (try with_reducible rfl)
                    try simp only [List.getElem_toArray, List.getElem_cons_succ, List.getElem_cons_zero, Act.put, List.setIfInBounds_toArray, List.set_cons_zero, List.set_cons_succ]
                    refine wpAnyH_take (i := 14) (v := ?_) rfl (by kernel_rfl) (by kernel_rfl) (by kernel_rfl) (fun _ _ _ h => h) (Or.inl ⟨by rfl, ?_⟩) (by assumption) ?_
                    rotate_left
                    · intro w hSw; (try dsimp only at hSw); go_simp; (try with_reducible rfl)
                    try simp only [List.getElem_toArray, List.getElem_cons_succ, List.getElem_cons_zero, Act.put, List.setIfInBounds_toArray, List.set_cons_zero, List.set_cons_succ]
                    refine wpAnyH_done (by kernel_rfl) ?_ _
                    exact ⟨u7, .agg #[.string (oB ++ fp), .string fd], _, v3, u8, .agg #[.string (oB ++ fp), .string fd], _, v7, u9, .agg #[.string (oB ++ fp), .string fd], _, v11, v3, v7, v11, (by simp only [put8, Act.put, List.setIfInBounds_toArray, List.set_cons_zero, List.set_cons_succ]; rfl), hL6.n1, hL6.n2, hL6.n3, (fun g h => hL6.a12 g h), (fun g h => hL6.a23 g h), (fun g h => hL6.a31 g h), hL6.ext⟩
                  exact AllReadyH.nil
                exact AllReadyH.nil
              exact AllReadyH.nil
            refine AllReadyH.cons rfl (fun K hK => ?_) ?_
            · skip
              go_simp
              refine hK.out _ _ ?_ (fun hHeld => ?_)
              · exact ⟨(hL2.alloc (.cells #[.string (oB ++ fp), .string fd] 40)).blk.cell 0, (hL2.alloc (.cells #[.string (oB ++ fp), .string fd] 40)).blk.cell 1⟩
              clear hK K
              try simp only [List.getElem_toArray, List.getElem_cons_succ, List.getElem_cons_zero, Act.put, List.setIfInBounds_toArray, List.set_cons_zero, List.set_cons_succ]
              have hL3 := hL2.alloc (.cells #[.string (oB ++ fp), .string fd] 40)
              have hB3_10 := hL2.built (⟨oB ++ fp, fd⟩ : File)
              try simp only [World.size_alloc] at hB3_10
              have hB3_2 := hB2_2.alloc (.cells #[.string (oB ++ fp), .string fd] 40)
              have hB3_6 := hB2_6.alloc (.cells #[.string (oB ++ fp), .string fd] 40)
              refine wpAnyH_ready (rs := [3]) (by kernel_rfl) (by simp) ?_
              refine AllReadyH.cons rfl (fun K hK => ?_) ?_
              · skip
                refine step_live1 tiF (by rfl) (by rfl) hL3 hB3_2 (by rfl) (by rfl) (by omega) ?_
                intro v3 W4 hL4 hT4
                refine hK.out _ _ ?_ (fun hHeld => ?_)
                · exact ⟨hL4.blk.cell 0, hL4.blk.cell 1⟩
                clear hK K
                try simp only [List.getElem_toArray, List.getElem_cons_succ, List.getElem_cons_zero, Act.put, List.setIfInBounds_toArray, List.set_cons_zero, List.set_cons_succ]
                have hB4_2 := hT4 _ _ hB3_2
                have hB4_6 := hT4 _ _ hB3_6
                have hB4_10 := hT4 _ _ hB3_10
                refine wpAnyH_ready (rs := [7]) (by kernel_rfl) (by simp) ?_
                refine AllReadyH.cons rfl (fun K hK => ?_) ?_
                · skip
                  refine step_live2 tiF (by rfl) (by rfl) hL4 hB4_6 (by rfl) (by rfl) (by omega) ?_
                  intro v7 W5 hL5 hT5
                  refine hK.out _ _ ?_ (fun hHeld => ?_)
                  · exact ⟨hL5.blk.cell 0, hL5.blk.cell 1⟩
                  clear hK K
                  try simp only [List.getElem_toArray, List.getElem_cons_succ, List.getElem_cons_zero, Act.put, List.setIfInBounds_toArray, List.set_cons_zero, List.set_cons_succ]
                  have hB5_2 := hT5 _ _ hB4_2
                  have hB5_6 := hT5 _ _ hB4_6
                  have hB5_10 := hT5 _ _ hB4_10
                  refine wpAnyH_ready (rs := [11]) (by kernel_rfl) (by simp) ?_
                  refine AllReadyH.cons rfl (fun K hK => ?_) ?_
                  · skip
                    refine step_live3 tiF (by rfl) (by rfl) hL5 hB5_10 (by rfl) (by rfl) (by omega) ?_
                    intro v11 W6 hL6 hT6
                    refine hK.out _ _ ?_ (fun hHeld => ?_)
                    · exact ⟨hL6.blk.cell 0, hL6.blk.cell 1⟩
                    clear hK K
                    try simp only [List.getElem_toArray, List.getElem_cons_succ, List.getElem_cons_zero, Act.put, List.setIfInBounds_toArray, List.set_cons_zero, List.set_cons_succ]
                    have hB6_2 := hT6 _ _ hB5_2
                    have hB6_6 := hT6 _ _ hB5_6
                    have hB6_10 := hT6 _ _ hB5_10
                    refine wpAnyH_take (i := 12) (v := ?_) rfl (by kernel_rfl) (by kernel_rfl) (by kernel_rfl) (fun _ _ _ h => h) (Or.inl ⟨by rfl, ?_⟩) (by assumption) ?_
                    rotate_left
                    · intro w hSw; (try dsimp only at hSw); go_simp; (try with_reducible rfl)
                    try simp only [List.getElem_toArray, List.getElem_cons_succ, List.getElem_cons_zero, Act.put, List.setIfInBounds_toArray, List.set_cons_zero, List.set_cons_succ]
                    refine wpAnyH_take (i := 13) (v := ?_) rfl (by kernel_rfl) (by kernel_rfl) (by kernel_rfl) (fun _ _ _ h => h) (Or.inl ⟨by rfl, ?_⟩) (by assumption) ?_
                    rotate_left
                    · intro w hSw; (try dsimp only at hSw); go_simp; (try with_reducible rfl)
                    try simp only [List.getElem_toArray, List.getElem_cons_succ, List.getElem_cons_zero, Act.put, List.setIfInBounds_toArray, List.set_cons_zero, List.set_cons_succ]
                    refine wpAnyH_take (i := 14) (v := ?_) rfl (by kernel_rfl) (by kernel_rfl) (by kernel_rfl) (fun _ _ _ h => h) (Or.inl ⟨by rfl, ?_⟩) (by assumption) ?_
                    rotate_left
                    · intro w hSw; (try dsimp only at hSw); go_simp; (try with_reducible rfl)
                    try simp only [List.getElem_toArray, List.getElem_cons_succ, List.getElem_cons_zero, Act.put, List.setIfInBounds_toArray, List.set_cons_zero, List.set_cons_succ]
                    refine wpAnyH_done (by kernel_rfl) ?_ _
                    exact ⟨u7, .agg #[.string (oB ++ fp), .string fd], _, v3, u8, .agg #[.string (oB ++ fp), .string fd], _, v7, u9, .agg #[.string (oB ++ fp), .string fd], _, v11, v3, v7, v11, (by simp only [put8, Act.put, List.setIfInBounds_toArray, List.set_cons_zero, List.set_cons_succ]; rfl), hL6.n1, hL6.n2, hL6.n3, (fun g h => hL6.a12 g h), (fun g h => hL6.a23 g h), (fun g h => hL6.a31 g h), hL6.ext⟩
                  exact AllReadyH.nil
                exact AllReadyH.nil
              exact AllReadyH.nil
            exact AllReadyH.nil
          refine AllReadyH.cons rfl (fun K hK => ?_) ?_
          · skip
            go_simp
            refine hK.out _ _ ?_ (fun hHeld => ?_)
            · exact ⟨(hL1.alloc (.cells #[.string (oB ++ fp), .string fd] 40)).blk.cell 0, (hL1.alloc (.cells #[.string (oB ++ fp), .string fd] 40)).blk.cell 1⟩
            clear hK K
            try simp only [List.getElem_toArray, List.getElem_cons_succ, List.getElem_cons_zero, Act.put, List.setIfInBounds_toArray, List.set_cons_zero, List.set_cons_succ]
            have hL2 := hL1.alloc (.cells #[.string (oB ++ fp), .string fd] 40)
            have hB2_10 := hL1.built (⟨oB ++ fp, fd⟩ : File)
            try simp only [World.size_alloc] at hB2_10
            have hB2_2 := hB1_2.alloc (.cells #[.string (oB ++ fp), .string fd] 40)
            refine wpAnyH_ready (rs := [3, 6]) (by kernel_rfl) (by simp) ?_
            refine AllReadyH.cons rfl (fun K hK => ?_) ?_
            · skip
              refine step_live1 tiF (by rfl) (by rfl) hL2 hB2_2 (by rfl) (by rfl) (by omega) ?_
              intro v3 W3 hL3 hT3
              refine hK.out _ _ ?_ (fun hHeld => ?_)
              · exact ⟨hL3.blk.cell 0, hL3.blk.cell 1⟩
              clear hK K
              try simp only [List.getElem_toArray, List.getElem_cons_succ, List.getElem_cons_zero, Act.put, List.setIfInBounds_toArray, List.set_cons_zero, List.set_cons_succ]
              have hB3_2 := hT3 _ _ hB2_2
              have hB3_10 := hT3 _ _ hB2_10
              refine wpAnyH_ready (rs := [6]) (by kernel_rfl) (by simp) ?_
              refine AllReadyH.cons rfl (fun K hK => ?_) ?_
              · skip
                go_simp
                refine hK.out _ _ ?_ (fun hHeld => ?_)
                · exact ⟨(hL3.alloc (.cells #[.string (oB ++ fp), .string fd] 40)).blk.cell 0, (hL3.alloc (.cells #[.string (oB ++ fp), .string fd] 40)).blk.cell 1⟩
                clear hK K
                try simp only [List.getElem_toArray, List.getElem_cons_succ, List.getElem_cons_zero, Act.put, List.setIfInBounds_toArray, List.set_cons_zero, List.set_cons_succ]
                have hL4 := hL3.alloc (.cells #[.string (oB ++ fp), .string fd] 40)
                have hB4_6 := hL3.built (⟨oB ++ fp, fd⟩ : File)
                try simp only [World.size_alloc] at hB4_6
                have hB4_2 := hB3_2.alloc (.cells #[.string (oB ++ fp), .string fd] 40)
                have hB4_10 := hB3_10.alloc (.cells #[.string (oB ++ fp), .string fd] 40)
                refine wpAnyH_ready (rs := [7]) (by kernel_rfl) (by simp) ?_
                refine AllReadyH.cons rfl (fun K hK => ?_) ?_
                · skip
                  refine step_live2 tiF (by rfl) (by rfl) hL4 hB4_6 (by rfl) (by rfl) (by omega) ?_
                  intro v7 W5 hL5 hT5
                  refine hK.out _ _ ?_ (fun hHeld => ?_)
                  · exact ⟨hL5.blk.cell 0, hL5.blk.cell 1⟩
                  clear hK K
                  try simp only [List.getElem_toArray, List.getElem_cons_succ, List.getElem_cons_zero, Act.put, List.setIfInBounds_toArray, List.set_cons_zero, List.set_cons_succ]
                  have hB5_2 := hT5 _ _ hB4_2
                  have hB5_10 := hT5 _ _ hB4_10
                  have hB5_6 := hT5 _ _ hB4_6
                  refine wpAnyH_ready (rs := [11]) (by kernel_rfl) (by simp) ?_
                  refine AllReadyH.cons rfl (fun K hK => ?_) ?_
                  · skip
                    refine step_live3 tiF (by rfl) (by rfl) hL5 hB5_10 (by rfl) (by rfl) (by omega) ?_
                    intro v11 W6 hL6 hT6
                    refine hK.out _ _ ?_ (fun hHeld => ?_)
                    · exact ⟨hL6.blk.cell 0, hL6.blk.cell 1⟩
                    clear hK K
                    try simp only [List.getElem_toArray, List.getElem_cons_succ, List.getElem_cons_zero, Act.put, List.setIfInBounds_toArray, List.set_cons_zero, List.set_cons_succ]
                    have hB6_2 := hT6 _ _ hB5_2
                    have hB6_10 := hT6 _ _ hB5_10
                    have hB6_6 := hT6 _ _ hB5_6
                    refine wpAnyH_take (i := 12) (v := ?_) rfl (by kernel_rfl) (by kernel_rfl) (by kernel_rfl) (fun _ _ _ h => h) (Or.inl ⟨by rfl, ?_⟩) (by assumption) ?_
                    rotate_left
                    · intro w hSw; (try dsimp only at hSw); go_simp; (try with_reducible rfl)
                    try simp only [List.getElem_toArray, List.getElem_cons_succ, List.getElem_cons_zero, Act.put, List.setIfInBounds_toArray, List.set_cons_zero, List.set_cons_succ]
                    refine wpAnyH_take (i := 13) (v := ?_) rfl (by kernel_rfl) (by kernel_rfl) (by kernel_rfl) (fun _ _ _ h => h) (Or.inl ⟨by rfl, ?_⟩) (by assumption) ?_
                    rotate_left
                    · intro w hSw; (try dsimp only at hSw); go_simp; (try with_reducible rfl)
                    try simp only [List.getElem_toArray, List.getElem_cons_succ, List.getElem_cons_zero, Act.put, List.setIfInBounds_toArray, List.set_cons_zero, List.set_cons_succ]
                    refine wpAnyH_take (i := 14) (v := ?_) rfl (by kernel_rfl) (by kernel_rfl) (by kernel_rfl) (fun _ _ _ h => h) (Or.inl ⟨by rfl, ?_⟩) (by assumption) ?_
                    rotate_left
                    · intro w hSw; (try dsimp only at hSw); go_simp; (try with_reducible rfl)
                    try simp only [List.getElem_toArray, List.getElem_cons_succ, List.getElem_cons_zero, Act.put, List.setIfInBounds_toArray, List.set_cons_zero, List.set_cons_succ]
                    refine wpAnyH_done (by kernel_rfl) ?_ _
                    exact ⟨u7, .agg #[.string (oB ++ fp), .string fd], _, v3, u8, .agg #[.string (oB ++ fp), .string fd], _, v7, u9, .agg #[.string (oB ++ fp), .string fd], _, v11, v3, v7, v11, (by simp only [put8, Act.put, List.setIfInBounds_toArray, List.set_cons_zero, List.set_cons_succ]; rfl), hL6.n1, hL6.n2, hL6.n3, (fun g h => hL6.a12 g h), (fun g h => hL6.a23 g h), (fun g h => hL6.a31 g h), hL6.ext⟩
                  exact AllReadyH.nil
                exact AllReadyH.nil
              exact AllReadyH.nil
            refine AllReadyH.cons rfl (fun K hK => ?_) ?_
            · skip
              go_simp
              refine hK.out _ _ ?_ (fun hHeld => ?_)
              · exact ⟨(hL2.alloc (.cells #[.string (oB ++ fp), .string fd] 40)).blk.cell 0, (hL2.alloc (.cells #[.string (oB ++ fp), .string fd] 40)).blk.cell 1⟩
              clear hK K
              try simp only [List.getElem_toArray, List.getElem_cons_succ, List.getElem_cons_zero, Act.put, List.setIfInBounds_toArray, List.set_cons_zero, List.set_cons_succ]
              have hL3 := hL2.alloc (.cells #[.string (oB ++ fp), .string fd] 40)
              have hB3_6 := hL2.built (⟨oB ++ fp, fd⟩ : File)
              try simp only [World.size_alloc] at hB3_6
              have hB3_2 := hB2_2.alloc (.cells #[.string (oB ++ fp), .string fd] 40)
              have hB3_10 := hB2_10.alloc (.cells #[.string (oB ++ fp), .string fd] 40)
              refine wpAnyH_ready (rs := [3]) (by kernel_rfl) (by simp) ?_
              refine AllReadyH.cons rfl (fun K hK => ?_) ?_
              · skip
                refine step_live1 tiF (by rfl) (by rfl) hL3 hB3_2 (by rfl) (by rfl) (by omega) ?_
                intro v3 W4 hL4 hT4
                refine hK.out _ _ ?_ (fun hHeld => ?_)
                · exact ⟨hL4.blk.cell 0, hL4.blk.cell 1⟩
                clear hK K
                try simp only [List.getElem_toArray, List.getElem_cons_succ, List.getElem_cons_zero, Act.put, List.setIfInBounds_toArray, List.set_cons_zero, List.set_cons_succ]
                have hB4_2 := hT4 _ _ hB3_2
                have hB4_10 := hT4 _ _ hB3_10
                have hB4_6 := hT4 _ _ hB3_6
                refine wpAnyH_ready (rs := [7]) (by kernel_rfl) (by simp) ?_
                refine AllReadyH.cons rfl (fun K hK => ?_) ?_
                · skip
                  refine step_live2 tiF (by rfl) (by rfl) hL4 hB4_6 (by rfl) (by rfl) (by omega) ?_
                  intro v7 W5 hL5 hT5
                  refine hK.out _ _ ?_ (fun hHeld => ?_)
                  · exact ⟨hL5.blk.cell 0, hL5.blk.cell 1⟩
                  clear hK K
                  try simp only [List.getElem_toArray, List.getElem_cons_succ, List.getElem_cons_zero, Act.put, List.setIfInBounds_toArray, List.set_cons_zero, List.set_cons_succ]
                  have hB5_2 := hT5 _ _ hB4_2
                  have hB5_10 := hT5 _ _ hB4_10
                  have hB5_6 := hT5 _ _ hB4_6
                  refine wpAnyH_ready (rs := [11]) (by kernel_rfl) (by simp) ?_
                  refine AllReadyH.cons rfl (fun K hK => ?_) ?_
                  · skip
                    refine step_live3 tiF (by rfl) (by rfl) hL5 hB5_10 (by rfl) (by rfl) (by omega) ?_
                    intro v11 W6 hL6 hT6
                    refine hK.out _ _ ?_ (fun hHeld => ?_)
                    · exact ⟨hL6.blk.cell 0, hL6.blk.cell 1⟩
                    clear hK K
                    try simp only [List.getElem_toArray, List.getElem_cons_succ, List.getElem_cons_zero, Act.put, List.setIfInBounds_toArray, List.set_cons_zero, List.set_cons_succ]
                    have hB6_2 := hT6 _ _ hB5_2
                    have hB6_10 := hT6 _ _ hB5_10
                    have hB6_6 := hT6 _ _ hB5_6
                    refine wpAnyH_take (i := 12) (v := ?_) rfl (by kernel_rfl) (by kernel_rfl) (by kernel_rfl) (fun _ _ _ h => h) (Or.inl ⟨by rfl, ?_⟩) (by assumption) ?_
                    rotate_left
                    · intro w hSw; (try dsimp only at hSw); go_simp; (try with_reducible rfl)
                    try simp only [List.getElem_toArray, List.getElem_cons_succ, List.getElem_cons_zero, Act.put, List.setIfInBounds_toArray, List.set_cons_zero, List.set_cons_succ]
                    refine wpAnyH_take (i := 13) (v := ?_) rfl (by kernel_rfl) (by kernel_rfl) (by kernel_rfl) (fun _ _ _ h => h) (Or.inl ⟨by rfl, ?_⟩) (by assumption) ?_
                    rotate_left
                    · intro w hSw; (try dsimp only at hSw); go_simp; (try with_reducible rfl)
                    try simp only [List.getElem_toArray, List.getElem_cons_succ, List.getElem_cons_zero, Act.put, List.setIfInBounds_toArray, List.set_cons_zero, List.set_cons_succ]
                    refine wpAnyH_take (i := 14) (v := ?_) rfl (by kernel_rfl) (by kernel_rfl) (by kernel_rfl) (fun _ _ _ h => h) (Or.inl ⟨by rfl, ?_⟩) (by assumption) ?_
                    rotate_left
                    · intro w hSw; (try dsimp only at hSw); go_simp; (try with_reducible rfl)
                    try simp only [List.getElem_toArray, List.getElem_cons_succ, List.getElem_cons_zero, Act.put, List.setIfInBounds_toArray, List.set_cons_zero, List.set_cons_succ]
                    refine wpAnyH_done (by kernel_rfl) ?_ _
                    exact ⟨u7, .agg #[.string (oB ++ fp), .string fd], _, v3, u8, .agg #[.string (oB ++ fp), .string fd], _, v7, u9, .agg #[.string (oB ++ fp), .string fd], _, v11, v3, v7, v11, (by simp only [put8, Act.put, List.setIfInBounds_toArray, List.set_cons_zero, List.set_cons_succ]; rfl), hL6.n1, hL6.n2, hL6.n3, (fun g h => hL6.a12 g h), (fun g h => hL6.a23 g h), (fun g h => hL6.a31 g h), hL6.ext⟩
                  exact AllReadyH.nil
                exact AllReadyH.nil
              exact AllReadyH.nil
            exact AllReadyH.nil
          exact AllReadyH.nil
        refine AllReadyH.cons rfl (fun K hK => ?_) ?_
        · skip
          go_simp
          refine hK.out _ _ ?_ (fun hHeld => ?_)
          · exact ⟨(hL0.alloc (.cells #[.string (oB ++ fp), .string fd] 40)).blk.cell 0, (hL0.alloc (.cells #[.string (oB ++ fp), .string fd] 40)).blk.cell 1⟩
          clear hK K
          try simp only [List.getElem_toArray, List.getElem_cons_succ, List.getElem_cons_zero, Act.put, List.setIfInBounds_toArray, List.set_cons_zero, List.set_cons_succ]
          have hL1 := hL0.alloc (.cells #[.string (oB ++ fp), .string fd] 40)
          have hB1_6 := hL0.built (⟨oB ++ fp, fd⟩ : File)
          try simp only [World.size_alloc] at hB1_6
          refine wpAnyH_ready (rs := [2, 10]) (by kernel_rfl) (by simp) ?_
          refine AllReadyH.cons rfl (fun K hK => ?_) ?_
          · skip
            go_simp
            refine hK.out _ _ ?_ (fun hHeld => ?_)
            · exact ⟨(hL1.alloc (.cells #[.string (oB ++ fp), .string fd] 40)).blk.cell 0, (hL1.alloc (.cells #[.string (oB ++ fp), .string fd] 40)).blk.cell 1⟩
            clear hK K
            try simp only [List.getElem_toArray, List.getElem_cons_succ, List.getElem_cons_zero, Act.put, List.setIfInBounds_toArray, List.set_cons_zero, List.set_cons_succ]
            have hL2 := hL1.alloc (.cells #[.string (oB ++ fp), .string fd] 40)
            have hB2_2 := hL1.built (⟨oB ++ fp, fd⟩ : File)
            try simp only [World.size_alloc] at hB2_2
            have hB2_6 := hB1_6.alloc (.cells #[.string (oB ++ fp), .string fd] 40)
            refine wpAnyH_ready (rs := [3, 10]) (by kernel_rfl) (by simp) ?_
            refine AllReadyH.cons rfl (fun K hK => ?_) ?_
            · skip
              refine step_live1 tiF (by rfl) (by rfl) hL2 hB2_2 (by rfl) (by rfl) (by omega) ?_
              intro v3 W3 hL3 hT3
              refine hK.out _ _ ?_ (fun hHeld => ?_)
              · exact ⟨hL3.blk.cell 0, hL3.blk.cell 1⟩
              clear hK K
              try simp only [List.getElem_toArray, List.getElem_cons_succ, List.getElem_cons_zero, Act.put, List.setIfInBounds_toArray, List.set_cons_zero, List.set_cons_succ]
              have hB3_6 := hT3 _ _ hB2_6
              have hB3_2 := hT3 _ _ hB2_2
              refine wpAnyH_ready (rs := [7, 10]) (by kernel_rfl) (by simp) ?_
              refine AllReadyH.cons rfl (fun K hK => ?_) ?_
              · skip
                refine step_live2 tiF (by rfl) (by rfl) hL3 hB3_6 (by rfl) (by rfl) (by omega) ?_
                intro v7 W4 hL4 hT4
                refine hK.out _ _ ?_ (fun hHeld => ?_)
                · exact ⟨hL4.blk.cell 0, hL4.blk.cell 1⟩
                clear hK K
                try simp only [List.getElem_toArray, List.getElem_cons_succ, List.getElem_cons_zero, Act.put, List.setIfInBounds_toArray, List.set_cons_zero, List.set_cons_succ]
                have hB4_6 := hT4 _ _ hB3_6
                have hB4_2 := hT4 _ _ hB3_2
                refine wpAnyH_ready (rs := [10]) (by kernel_rfl) (by simp) ?_
                refine AllReadyH.cons rfl (fun K hK => ?_) ?_
                · skip
                  go_simp
                  refine hK.out _ _ ?_ (fun hHeld => ?_)
                  · exact ⟨(hL4.alloc (.cells #[.string (oB ++ fp), .string fd] 40)).blk.cell 0, (hL4.alloc (.cells #[.string (oB ++ fp), .string fd] 40)).blk.cell 1⟩
                  clear hK K
                  try simp only [List.getElem_toArray, List.getElem_cons_succ, List.getElem_cons_zero, Act.put, List.setIfInBounds_toArray, List.set_cons_zero, List.set_cons_succ]
                  have hL5 := hL4.alloc (.cells #[.string (oB ++ fp), .string fd] 40)
                  have hB5_10 := hL4.built (⟨oB ++ fp, fd⟩ : File)
                  try simp only [World.size_alloc] at hB5_10
                  have hB5_6 := hB4_6.alloc (.cells #[.string (oB ++ fp), .string fd] 40)
                  have hB5_2 := hB4_2.alloc (.cells #[.string (oB ++ fp), .string fd] 40)
                  refine wpAnyH_ready (rs := [11]) (by kernel_rfl) (by simp) ?_
                  refine AllReadyH.cons rfl (fun K hK => ?_) ?_
                  · skip
                    refine step_live3 tiF (by rfl) (by rfl) hL5 hB5_10 (by rfl) (by rfl) (by omega) ?_
                    intro v11 W6 hL6 hT6
                    refine hK.out _ _ ?_ (fun hHeld => ?_)
                    · exact ⟨hL6.blk.cell 0, hL6.blk.cell 1⟩
                    clear hK K
                    try simp only [List.getElem_toArray, List.getElem_cons_succ, List.getElem_cons_zero, Act.put, List.setIfInBounds_toArray, List.set_cons_zero, List.set_cons_succ]
                    have hB6_6 := hT6 _ _ hB5_6
                    have hB6_2 := hT6 _ _ hB5_2
                    have hB6_10 := hT6 _ _ hB5_10
                    refine wpAnyH_take (i := 12) (v := ?_) rfl (by kernel_rfl) (by kernel_rfl) (by kernel_rfl) (fun _ _ _ h => h) (Or.inl ⟨by rfl, ?_⟩) (by assumption) ?_
                    rotate_left
                    · intro w hSw; (try dsimp only at hSw); go_simp; (try with_reducible rfl)
                    try simp only [List.getElem_toArray, List.getElem_cons_succ, List.getElem_cons_zero, Act.put, List.setIfInBounds_toArray, List.set_cons_zero, List.set_cons_succ]
                    refine wpAnyH_take (i := 13) (v := ?_) rfl (by kernel_rfl) (by kernel_rfl) (by kernel_rfl) (fun _ _ _ h => h) (Or.inl ⟨by rfl, ?_⟩) (by assumption) ?_
                    rotate_left
                    · intro w hSw; (try dsimp only at hSw); go_simp; (try with_reducible rfl)
                    try simp only [List.getElem_toArray, List.getElem_cons_succ, List.getElem_cons_zero, Act.put, List.setIfInBounds_toArray, List.set_cons_zero, List.set_cons_succ]
                    refine wpAnyH_take (i := 14) (v := ?_) rfl (by kernel_rfl) (by kernel_rfl) (by kernel_rfl) (fun _ _ _ h => h) (Or.inl ⟨by rfl, ?_⟩) (by assumption) ?_
                    rotate_left
                    · intro w hSw; (try dsimp only at hSw); go_simp; (try with_reducible rfl)
                    try simp only [List.getElem_toArray, List.getElem_cons_succ, List.getElem_cons_zero, Act.put, List.setIfInBounds_toArray, List.set_cons_zero, List.set_cons_succ]
                    refine wpAnyH_done (by kernel_rfl) ?_ _
                    exact ⟨u7, .agg #[.string (oB ++ fp), .string fd], _, v3, u8, .agg #[.string (oB ++ fp), .string fd], _, v7, u9, .agg #[.string (oB ++ fp), .string fd], _, v11, v3, v7, v11, (by simp only [put8, Act.put, List.setIfInBounds_toArray, List.set_cons_zero, List.set_cons_succ]; rfl), hL6.n1, hL6.n2, hL6.n3, (fun g h => hL6.a12 g h), (fun g h => hL6.a23 g h), (fun g h => hL6.a31 g h), hL6.ext⟩
                  exact AllReadyH.nil
                exact AllReadyH.nil
              refine AllReadyH.cons rfl (fun K hK => ?_) ?_
              · skip
                go_simp
                refine hK.out _ _ ?_ (fun hHeld => ?_)
                · exact ⟨(hL3.alloc (.cells #[.string (oB ++ fp), .string fd] 40)).blk.cell 0, (hL3.alloc (.cells #[.string (oB ++ fp), .string fd] 40)).blk.cell 1⟩
                clear hK K
                try simp only [List.getElem_toArray, List.getElem_cons_succ, List.getElem_cons_zero, Act.put, List.setIfInBounds_toArray, List.set_cons_zero, List.set_cons_succ]
                have hL4 := hL3.alloc (.cells #[.string (oB ++ fp), .string fd] 40)
                have hB4_10 := hL3.built (⟨oB ++ fp, fd⟩ : File)
                try simp only [World.size_alloc] at hB4_10
                have hB4_6 := hB3_6.alloc (.cells #[.string (oB ++ fp), .string fd] 40)
                have hB4_2 := hB3_2.alloc (.cells #[.string (oB ++ fp), .string fd] 40)
                refine wpAnyH_ready (rs := [7]) (by kernel_rfl) (by simp) ?_
                refine AllReadyH.cons rfl (fun K hK => ?_) ?_
                · skip
                  refine step_live2 tiF (by rfl) (by rfl) hL4 hB4_6 (by rfl) (by rfl) (by omega) ?_
                  intro v7 W5 hL5 hT5
                  refine hK.out _ _ ?_ (fun hHeld => ?_)
                  · exact ⟨hL5.blk.cell 0, hL5.blk.cell 1⟩
                  clear hK K
                  try simp only [List.getElem_toArray, List.getElem_cons_succ, List.getElem_cons_zero, Act.put, List.setIfInBounds_toArray, List.set_cons_zero, List.set_cons_succ]
                  have hB5_6 := hT5 _ _ hB4_6
                  have hB5_2 := hT5 _ _ hB4_2
                  have hB5_10 := hT5 _ _ hB4_10
                  refine wpAnyH_ready (rs := [11]) (by kernel_rfl) (by simp) ?_
                  refine AllReadyH.cons rfl (fun K hK => ?_) ?_
                  · skip
                    refine step_live3 tiF (by rfl) (by rfl) hL5 hB5_10 (by rfl) (by rfl) (by omega) ?_
                    intro v11 W6 hL6 hT6
                    refine hK.out _ _ ?_ (fun hHeld => ?_)
                    · exact ⟨hL6.blk.cell 0, hL6.blk.cell 1⟩
                    clear hK K
                    try simp only [List.getElem_toArray, List.getElem_cons_succ, List.getElem_cons_zero, Act.put, List.setIfInBounds_toArray, List.set_cons_zero, List.set_cons_succ]
                    have hB6_6 := hT6 _ _ hB5_6
                    have hB6_2 := hT6 _ _ hB5_2
                    have hB6_10 := hT6 _ _ hB5_10
                    refine wpAnyH_take (i := 12) (v := ?_) rfl (by kernel_rfl) (by kernel_rfl) (by kernel_rfl) (fun _ _ _ h => h) (Or.inl ⟨by rfl, ?_⟩) (by assumption) ?_
                    rotate_left
                    · intro w hSw; (try dsimp only at hSw); go_simp; (try with_reducible rfl)
                    try simp only [List.getElem_toArray, List.getElem_cons_succ, List.getElem_cons_zero, Act.put, List.setIfInBounds_toArray, List.set_cons_zero, List.set_cons_succ]
                    refine wpAnyH_take (i := 13) (v := ?_) rfl (by kernel_rfl) (by kernel_rfl) (by kernel_rfl) (fun _ _ _ h => h) (Or.inl ⟨by rfl, ?_⟩) (by assumption) ?_
                    rotate_left
                    · intro w hSw; (try dsimp only at hSw); go_simp; (try with_reducible rfl)
                    try simp only [List.getElem_toArray, List.getElem_cons_succ, List.getElem_cons_zero, Act.put, List.setIfInBounds_toArray, List.set_cons_zero, List.set_cons_succ]
                    refine wpAnyH_take (i := 14) (v := ?_) rfl (by kernel_rfl) (by kernel_rfl) (by kernel_rfl) (fun _ _ _ h => h) (Or.inl ⟨by rfl, ?_⟩) (by assumption) ?_
                    rotate_left
                    · intro w hSw; (try dsimp only at hSw); go_simp; (try with_reducible rfl)
                    try simp only [List.getElem_toArray, List.getElem_cons_succ, List.getElem_cons_zero, Act.put, List.setIfInBounds_toArray, List.set_cons_zero, List.set_cons_succ]
                    refine wpAnyH_done (by kernel_rfl) ?_ _
                    exact ⟨u7, .agg #[.string (oB ++ fp), .string fd], _, v3, u8, .agg #[.string (oB ++ fp), .string fd], _, v7, u9, .agg #[.string (oB ++ fp), .string fd], _, v11, v3, v7, v11, (by simp only [put8, Act.put, List.setIfInBounds_toArray, List.set_cons_zero, List.set_cons_succ]; rfl), hL6.n1, hL6.n2, hL6.n3, (fun g h => hL6.a12 g h), (fun g h => hL6.a23 g h), (fun g h => hL6.a31 g h), hL6.ext⟩
                  exact AllReadyH.nil
                exact AllReadyH.nil
              exact AllReadyH.nil
            refine AllReadyH.cons rfl (fun K hK => ?_) ?_
            · skip
              go_simp
              refine hK.out _ _ ?_ (fun hHeld => ?_)
              · exact ⟨(hL2.alloc (.cells #[.string (oB ++ fp), .string fd] 40)).blk.cell 0, (hL2.alloc (.cells #[.string (oB ++ fp), .string fd] 40)).blk.cell 1⟩
              clear hK K
              try simp only [List.getElem_toArray, List.getElem_cons_succ, List.getElem_cons_zero, Act.put, List.setIfInBounds_toArray, List.set_cons_zero, List.set_cons_succ]
              have hL3 := hL2.alloc (.cells #[.string (oB ++ fp), .string fd] 40)
              have hB3_10 := hL2.built (⟨oB ++ fp, fd⟩ : File)
              try simp only [World.size_alloc] at hB3_10
              have hB3_6 := hB2_6.alloc (.cells #[.string (oB ++ fp), .string fd] 40)
              have hB3_2 := hB2_2.alloc (.cells #[.string (oB ++ fp), .string fd] 40)
              refine wpAnyH_ready (rs := [3]) (by kernel_rfl) (by simp) ?_
              refine AllReadyH.cons rfl (fun K hK => ?_) ?_
              · skip
                refine step_live1 tiF (by rfl) (by rfl) hL3 hB3_2 (by rfl) (by rfl) (by omega) ?_
                intro v3 W4 hL4 hT4
                refine hK.out _ _ ?_ (fun hHeld => ?_)
                · exact ⟨hL4.blk.cell 0, hL4.blk.cell 1⟩
                clear hK K
                try simp only [List.getElem_toArray, List.getElem_cons_succ, List.getElem_cons_zero, Act.put, List.setIfInBounds_toArray, List.set_cons_zero, List.set_cons_succ]
                have hB4_6 := hT4 _ _ hB3_6
                have hB4_2 := hT4 _ _ hB3_2
                have hB4_10 := hT4 _ _ hB3_10
                refine wpAnyH_ready (rs := [7]) (by kernel_rfl) (by simp) ?_
                refine AllReadyH.cons rfl (fun K hK => ?_) ?_
                · skip
                  refine step_live2 tiF (by rfl) (by rfl) hL4 hB4_6 (by rfl) (by rfl) (by omega) ?_
                  intro v7 W5 hL5 hT5
                  refine hK.out _ _ ?_ (fun hHeld => ?_)
                  · exact ⟨hL5.blk.cell 0, hL5.blk.cell 1⟩
                  clear hK K
                  try simp only [List.getElem_toArray, List.getElem_cons_succ, List.getElem_cons_zero, Act.put, List.setIfInBounds_toArray, List.set_cons_zero, List.set_cons_succ]
                  have hB5_6 := hT5 _ _ hB4_6
                  have hB5_2 := hT5 _ _ hB4_2
                  have hB5_10 := hT5 _ _ hB4_10
                  refine wpAnyH_ready (rs := [11]) (by kernel_rfl) (by simp) ?_
                  refine AllReadyH.cons rfl (fun K hK => ?_) ?_
                  · skip
                    refine step_live3 tiF (by rfl) (by rfl) hL5 hB5_10 (by rfl) (by rfl) (by omega) ?_
                    intro v11 W6 hL6 hT6
                    refine hK.out _ _ ?_ (fun hHeld => ?_)
                    · exact ⟨hL6.blk.cell 0, hL6.blk.cell 1⟩
                    clear hK K
                    try simp only [List.getElem_toArray, List.getElem_cons_succ, List.getElem_cons_zero, Act.put, List.setIfInBounds_toArray, List.set_cons_zero, List.set_cons_succ]
                    have hB6_6 := hT6 _ _ hB5_6
                    have hB6_2 := hT6 _ _ hB5_2
                    have hB6_10 := hT6 _ _ hB5_10
                    refine wpAnyH_take (i := 12) (v := ?_) rfl (by kernel_rfl) (by kernel_rfl) (by kernel_rfl) (fun _ _ _ h => h) (Or.inl ⟨by rfl, ?_⟩) (by assumption) ?_
                    rotate_left
                    · intro w hSw; (try dsimp only at hSw); go_simp; (try with_reducible rfl)
                    try simp only [List.getElem_toArray, List.getElem_cons_succ, List.getElem_cons_zero, Act.put, List.setIfInBounds_toArray, List.set_cons_zero, List.set_cons_succ]
                    refine wpAnyH_take (i := 13) (v := ?_) rfl (by kernel_rfl) (by kernel_rfl) (by kernel_rfl) (fun _ _ _ h => h) (Or.inl ⟨by rfl, ?_⟩) (by assumption) ?_
                    rotate_left
                    · intro w hSw; (try dsimp only at hSw); go_simp; (try with_reducible rfl)
                    try simp only [List.getElem_toArray, List.getElem_cons_succ, List.getElem_cons_zero, Act.put, List.setIfInBounds_toArray, List.set_cons_zero, List.set_cons_succ]
                    refine wpAnyH_take (i := 14) (v := ?_) rfl (by kernel_rfl) (by kernel_rfl) (by kernel_rfl) (fun _ _ _ h => h) (Or.inl ⟨by rfl, ?_⟩) (by assumption) ?_
                    rotate_left
                    · intro w hSw; (try dsimp only at hSw); go_simp; (try with_reducible rfl)
                    try simp only [List.getElem_toArray, List.getElem_cons_succ, List.getElem_cons_zero, Act.put, List.setIfInBounds_toArray, List.set_cons_zero, List.set_cons_succ]
                    refine wpAnyH_done (by kernel_rfl) ?_ _
                    exact ⟨u7, .agg #[.string (oB ++ fp), .string fd], _, v3, u8, .agg #[.string (oB ++ fp), .string fd], _, v7, u9, .agg #[.string (oB ++ fp), .string fd], _, v11, v3, v7, v11, (by simp only [put8, Act.put, List.setIfInBounds_toArray, List.set_cons_zero, List.set_cons_succ]; rfl), hL6.n1, hL6.n2, hL6.n3, (fun g h => hL6.a12 g h), (fun g h => hL6.a23 g h), (fun g h => hL6.a31 g h), hL6.ext⟩
                  exact AllReadyH.nil
                exact AllReadyH.nil
              exact AllReadyH.nil
            exact AllReadyH.nil
          refine AllReadyH.cons rfl (fun K hK => ?_) ?_
          · skip
            go_simp
            refine hK.out _ _ ?_ (fun hHeld => ?_)
            · exact ⟨(hL1.alloc (.cells #[.string (oB ++ fp), .string fd] 40)).blk.cell 0, (hL1.alloc (.cells #[.string (oB ++ fp), .string fd] 40)).blk.cell 1⟩
            clear hK K
            try simp only [List.getElem_toArray, List.getElem_cons_succ, List.getElem_cons_zero, Act.put, List.setIfInBounds_toArray, List.set_cons_zero, List.set_cons_succ]
            have hL2 := hL1.alloc (.cells #[.string (oB ++ fp), .string fd] 40)
            have hB2_10 := hL1.built (⟨oB ++ fp, fd⟩ : File)
            try simp only [World.size_alloc] at hB2_10
            have hB2_6 := hB1_6.alloc (.cells #[.string (oB ++ fp), .string fd] 40)
            refine wpAnyH_ready (rs := [2]) (by kernel_rfl) (by simp) ?_
            refine AllReadyH.cons rfl (fun K hK => ?_) ?_
            · skip
              go_simp
              refine hK.out _ _ ?_ (fun hHeld => ?_)
              · exact ⟨(hL2.alloc (.cells #[.string (oB ++ fp), .string fd] 40)).blk.cell 0, (hL2.alloc (.cells #[.string (oB ++ fp), .string fd] 40)).blk.cell 1⟩
              clear hK K
              try simp only [List.getElem_toArray, List.getElem_cons_succ, List.getElem_cons_zero, Act.put, List.setIfInBounds_toArray, List.set_cons_zero, List.set_cons_succ]
              have hL3 := hL2.alloc (.cells #[.string (oB ++ fp), .string fd] 40)
              have hB3_2 := hL2.built (⟨oB ++ fp, fd⟩ : File)
              try simp only [World.size_alloc] at hB3_2
              have hB3_6 := hB2_6.alloc (.cells #[.string (oB ++ fp), .string fd] 40)
              have hB3_10 := hB2_10.alloc (.cells #[.string (oB ++ fp), .string fd] 40)
              refine wpAnyH_ready (rs := [3]) (by kernel_rfl) (by simp) ?_
              refine AllReadyH.cons rfl (fun K hK => ?_) ?_
              · skip
                refine step_live1 tiF (by rfl) (by rfl) hL3 hB3_2 (by rfl) (by rfl) (by omega) ?_
                intro v3 W4 hL4 hT4
                refine hK.out _ _ ?_ (fun hHeld => ?_)
                · exact ⟨hL4.blk.cell 0, hL4.blk.cell 1⟩
                clear hK K
                try simp only [List.getElem_toArray, List.getElem_cons_succ, List.getElem_cons_zero, Act.put, List.setIfInBounds_toArray, List.set_cons_zero, List.set_cons_succ]
                have hB4_6 := hT4 _ _ hB3_6
                have hB4_10 := hT4 _ _ hB3_10
                have hB4_2 := hT4 _ _ hB3_2
                refine wpAnyH_ready (rs := [7]) (by kernel_rfl) (by simp) ?_
                refine AllReadyH.cons rfl (fun K hK => ?_) ?_
                · skip
                  refine step_live2 tiF (by rfl) (by rfl) hL4 hB4_6 (by rfl) (by rfl) (by omega) ?_
                  intro v7 W5 hL5 hT5
                  refine hK.out _ _ ?_ (fun hHeld => ?_)
                  · exact ⟨hL5.blk.cell 0, hL5.blk.cell 1⟩
                  clear hK K
                  try simp only [List.getElem_toArray, List.getElem_cons_succ, List.getElem_cons_zero, Act.put, List.setIfInBounds_toArray, List.set_cons_zero, List.set_cons_succ]
                  have hB5_6 := hT5 _ _ hB4_6
                  have hB5_10 := hT5 _ _ hB4_10
                  have hB5_2 := hT5 _ _ hB4_2
                  refine wpAnyH_ready (rs := [11]) (by kernel_rfl) (by simp) ?_
                  refine AllReadyH.cons rfl (fun K hK => ?_) ?_
                  · skip
                    refine step_live3 tiF (by rfl) (by rfl) hL5 hB5_10 (by rfl) (by rfl) (by omega) ?_
                    intro v11 W6 hL6 hT6
                    refine hK.out _ _ ?_ (fun hHeld => ?_)
                    · exact ⟨hL6.blk.cell 0, hL6.blk.cell 1⟩
                    clear hK K
                    try simp only [List.getElem_toArray, List.getElem_cons_succ, List.getElem_cons_zero, Act.put, List.setIfInBounds_toArray, List.set_cons_zero, List.set_cons_succ]
                    have hB6_6 := hT6 _ _ hB5_6
                    have hB6_10 := hT6 _ _ hB5_10
                    have hB6_2 := hT6 _ _ hB5_2
                    refine wpAnyH_take (i := 12) (v := ?_) rfl (by kernel_rfl) (by kernel_rfl) (by kernel_rfl) (fun _ _ _ h => h) (Or.inl ⟨by rfl, ?_⟩) (by assumption) ?_
                    rotate_left
                    · intro w hSw; (try dsimp only at hSw); go_simp; (try with_reducible rfl)
                    try simp only [List.getElem_toArray, List.getElem_cons_succ, List.getElem_cons_zero, Act.put, List.setIfInBounds_toArray, List.set_cons_zero, List.set_cons_succ]
                    refine wpAnyH_take (i := 13) (v := ?_) rfl (by kernel_rfl) (by kernel_rfl) (by kernel_rfl) (fun _ _ _ h => h) (Or.inl ⟨by rfl, ?_⟩) (by assumption) ?_
                    rotate_left
                    · intro w hSw; (try dsimp only at hSw); go_simp; (try with_reducible rfl)
                    try simp only [List.getElem_toArray, List.getElem_cons_succ, List.getElem_cons_zero, Act.put, List.setIfInBounds_toArray, List.set_cons_zero, List.set_cons_succ]
                    refine wpAnyH_take (i := 14) (v := ?_) rfl (by kernel_rfl) (by kernel_rfl) (by kernel_rfl) (fun _ _ _ h => h) (Or.inl ⟨by rfl, ?_⟩) (by assumption) ?_
                    rotate_left
                    · intro w hSw; (try dsimp only at hSw); go_simp; (try with_reducible rfl)
                    try simp only [List.getElem_toArray, List.getElem_cons_succ, List.getElem_cons_zero, Act.put, List.setIfInBounds_toArray, List.set_cons_zero, List.set_cons_succ]
                    refine wpAnyH_done (by kernel_rfl) ?_ _
                    exact ⟨u7, .agg #[.string (oB ++ fp), .string fd], _, v3, u8, .agg #[.string (oB ++ fp), .string fd], _, v7, u9, .agg #[.string (oB ++ fp), .string fd], _, v11, v3, v7, v11, (by simp only [put8, Act.put, List.setIfInBounds_toArray, List.set_cons_zero, List.set_cons_succ]; rfl), hL6.n1, hL6.n2, hL6.n3, (fun g h => hL6.a12 g h), (fun g h => hL6.a23 g h), (fun g h => hL6.a31 g h), hL6.ext⟩
                  exact AllReadyH.nil
                exact AllReadyH.nil
              exact AllReadyH.nil
            exact AllReadyH.nil
          exact AllReadyH.nil
        refine AllReadyH.cons rfl (fun K hK => ?_) ?_
        · skip
          go_simp
          refine hK.out _ _ ?_ (fun hHeld => ?_)
          · exact ⟨(hL0.alloc (.cells #[.string (oB ++ fp), .string fd] 40)).blk.cell 0, (hL0.alloc (.cells #[.string (oB ++ fp), .string fd] 40)).blk.cell 1⟩
          clear hK K
          try simp only [List.getElem_toArray, List.getElem_cons_succ, List.getElem_cons_zero, Act.put, List.setIfInBounds_toArray, List.set_cons_zero, List.set_cons_succ]
          have hL1 := hL0.alloc (.cells #[.string (oB ++ fp), .string fd] 40)
          have hB1_10 := hL0.built (⟨oB ++ fp, fd⟩ : File)
          try simp only [World.size_alloc] at hB1_10
          refine wpAnyH_ready (rs := [2, 6]) (by kernel_rfl) (by simp) ?_
          refine AllReadyH.cons rfl (fun K hK => ?_) ?_
          · skip
            go_simp
            refine hK.out _ _ ?_ (fun hHeld => ?_)
            · exact ⟨(hL1.alloc (.cells #[.string (oB ++ fp), .string fd] 40)).blk.cell 0, (hL1.alloc (.cells #[.string (oB ++ fp), .string fd] 40)).blk.cell 1⟩
            clear hK K
            try simp only [List.getElem_toArray, List.getElem_cons_succ, List.getElem_cons_zero, Act.put, List.setIfInBounds_toArray, List.set_cons_zero, List.set_cons_succ]
            have hL2 := hL1.alloc (.cells #[.string (oB ++ fp), .string fd] 40)
            have hB2_2 := hL1.built (⟨oB ++ fp, fd⟩ : File)
            try simp only [World.size_alloc] at hB2_2
            have hB2_10 := hB1_10.alloc (.cells #[.string (oB ++ fp), .string fd] 40)
            refine wpAnyH_ready (rs := [3, 6]) (by kernel_rfl) (by simp) ?_
            refine AllReadyH.cons rfl (fun K hK => ?_) ?_
            · skip
              refine step_live1 tiF (by rfl) (by rfl) hL2 hB2_2 (by rfl) (by rfl) (by omega) ?_
              intro v3 W3 hL3 hT3
              refine hK.out _ _ ?_ (fun hHeld => ?_)
              · exact ⟨hL3.blk.cell 0, hL3.blk.cell 1⟩
              clear hK K
              try simp only [List.getElem_toArray, List.getElem_cons_succ, List.getElem_cons_zero, Act.put, List.setIfInBounds_toArray, List.set_cons_zero, List.set_cons_succ]
              have hB3_10 := hT3 _ _ hB2_10
              have hB3_2 := hT3 _ _ hB2_2
              refine wpAnyH_ready (rs := [6]) (by kernel_rfl) (by simp) ?_
              refine AllReadyH.cons rfl (fun K hK => ?_) ?_
              · skip
                go_simp
                refine hK.out _ _ ?_ (fun hHeld => ?_)
                · exact ⟨(hL3.alloc (.cells #[.string (oB ++ fp), .string fd] 40)).blk.cell 0, (hL3.alloc (.cells #[.string (oB ++ fp), .string fd] 40)).blk.cell 1⟩
                clear hK K
                try simp only [List.getElem_toArray, List.getElem_cons_succ, List.getElem_cons_zero, Act.put, List.setIfInBounds_toArray, List.set_cons_zero, List.set_cons_succ]
                have hL4 := hL3.alloc (.cells #[.string (oB ++ fp), .string fd] 40)
                have hB4_6 := hL3.built (⟨oB ++ fp, fd⟩ : File)
                try simp only [World.size_alloc] at hB4_6
                have hB4_10 := hB3_10.alloc (.cells #[.string (oB ++ fp), .string fd] 40)
                have hB4_2 := hB3_2.alloc (.cells #[.string (oB ++ fp), .string fd] 40)
                refine wpAnyH_ready (rs := [7]) (by kernel_rfl) (by simp) ?_
                refine AllReadyH.cons rfl (fun K hK => ?_) ?_
                · skip
                  refine step_live2 tiF (by rfl) (by rfl) hL4 hB4_6 (by rfl) (by rfl) (by omega) ?_
                  intro v7 W5 hL5 hT5
                  refine hK.out _ _ ?_ (fun hHeld => ?_)
                  · exact ⟨hL5.blk.cell 0, hL5.blk.cell 1⟩
                  clear hK K
                  try simp only [List.getElem_toArray, List.getElem_cons_succ, List.getElem_cons_zero, Act.put, List.setIfInBounds_toArray, List.set_cons_zero, List.set_cons_succ]
                  have hB5_10 := hT5 _ _ hB4_10
                  have hB5_2 := hT5 _ _ hB4_2
                  have hB5_6 := hT5 _ _ hB4_6
                  refine wpAnyH_ready (rs := [11]) (by kernel_rfl) (by simp) ?_
                  refine AllReadyH.cons rfl (fun K hK => ?_) ?_
                  · skip
                    refine step_live3 tiF (by rfl) (by rfl) hL5 hB5_10 (by rfl) (by rfl) (by omega) ?_
                    intro v11 W6 hL6 hT6
                    refine hK.out _ _ ?_ (fun hHeld => ?_)
                    · exact ⟨hL6.blk.cell 0, hL6.blk.cell 1⟩
                    clear hK K
                    try simp only [List.getElem_toArray, List.getElem_cons_succ, List.getElem_cons_zero, Act.put, List.setIfInBounds_toArray, List.set_cons_zero, List.set_cons_succ]
                    have hB6_10 := hT6 _ _ hB5_10
                    have hB6_2 := hT6 _ _ hB5_2
                    have hB6_6 := hT6 _ _ hB5_6
                    refine wpAnyH_take (i := 12) (v := ?_) rfl (by kernel_rfl) (by kernel_rfl) (by kernel_rfl) (fun _ _ _ h => h) (Or.inl ⟨by rfl, ?_⟩) (by assumption) ?_
                    rotate_left
                    · intro w hSw; (try dsimp only at hSw); go_simp; (try with_reducible rfl)
                    try simp only [List.getElem_toArray, List.getElem_cons_succ, List.getElem_cons_zero, Act.put, List.setIfInBounds_toArray, List.set_cons_zero, List.set_cons_succ]
                    refine wpAnyH_take (i := 13) (v := ?_) rfl (by kernel_rfl) (by kernel_rfl) (by kernel_rfl) (fun _ _ _ h => h) (Or.inl ⟨by rfl, ?_⟩) (by assumption) ?_
                    rotate_left
                    · intro w hSw; (try dsimp only at hSw); go_simp; (try with_reducible rfl)
                    try simp only [List.getElem_toArray, List.getElem_cons_succ, List.getElem_cons_zero, Act.put, List.setIfInBounds_toArray, List.set_cons_zero, List.set_cons_succ]
                    refine wpAnyH_take (i := 14) (v := ?_) rfl (by kernel_rfl) (by kernel_rfl) (by kernel_rfl) (fun _ _ _ h => h) (Or.inl ⟨by rfl, ?_⟩) (by assumption) ?_
                    rotate_left
                    · intro w hSw; (try dsimp only at hSw); go_simp; (try with_reducible rfl)
                    try simp only [List.getElem_toArray, List.getElem_cons_succ, List.getElem_cons_zero, Act.put, List.setIfInBounds_toArray, List.set_cons_zero, List.set_cons_succ]
                    refine wpAnyH_done (by kernel_rfl) ?_ _
                    exact ⟨u7, .agg #[.string (oB ++ fp), .string fd], _, v3, u8, .agg #[.string (oB ++ fp), .string fd], _, v7, u9, .agg #[.string (oB ++ fp), .string fd], _, v11, v3, v7, v11, (by simp only [put8, Act.put, List.setIfInBounds_toArray, List.set_cons_zero, List.set_cons_succ]; rfl), hL6.n1, hL6.n2, hL6.n3, (fun g h => hL6.a12 g h), (fun g h => hL6.a23 g h), (fun g h => hL6.a31 g h), hL6.ext⟩
                  exact AllReadyH.nil
                exact AllReadyH.nil
              exact AllReadyH.nil
            refine AllReadyH.cons rfl (fun K hK => ?_) ?_
            · skip
              go_simp
              refine hK.out _ _ ?_ (fun hHeld => ?_)
              · exact ⟨(hL2.alloc (.cells #[.string (oB ++ fp), .string fd] 40)).blk.cell 0, (hL2.alloc (.cells #[.string (oB ++ fp), .string fd] 40)).blk.cell 1⟩
              clear hK K
              try simp only [List.getElem_toArray, List.getElem_cons_succ, List.getElem_cons_zero, Act.put, List.setIfInBounds_toArray, List.set_cons_zero, List.set_cons_succ]
              have hL3 := hL2.alloc (.cells #[.string (oB ++ fp), .string fd] 40)
              have hB3_6 := hL2.built (⟨oB ++ fp, fd⟩ : File)
              try simp only [World.size_alloc] at hB3_6
              have hB3_10 := hB2_10.alloc (.cells #[.string (oB ++ fp), .string fd] 40)
              have hB3_2 := hB2_2.alloc (.cells #[.string (oB ++ fp), .string fd] 40)
              refine wpAnyH_ready (rs := [3]) (by kernel_rfl) (by simp) ?_
              refine AllReadyH.cons rfl (fun K hK => ?_) ?_
              · skip
                refine step_live1 tiF (by rfl) (by rfl) hL3 hB3_2 (by rfl) (by rfl) (by omega) ?_
                intro v3 W4 hL4 hT4
                refine hK.out _ _ ?_ (fun hHeld => ?_)
                · exact ⟨hL4.blk.cell 0, hL4.blk.cell 1⟩
                clear hK K
                try simp only [List.getElem_toArray, List.getElem_cons_succ, List.getElem_cons_zero, Act.put, List.setIfInBounds_toArray, List.set_cons_zero, List.set_cons_succ]
                have hB4_10 := hT4 _ _ hB3_10
                have hB4_2 := hT4 _ _ hB3_2
                have hB4_6 := hT4 _ _ hB3_6
                refine wpAnyH_ready (rs := [7]) (by kernel_rfl) (by simp) ?_
                refine AllReadyH.cons rfl (fun K hK => ?_) ?_
                · skip
                  refine step_live2 tiF (by rfl) (by rfl) hL4 hB4_6 (by rfl) (by rfl) (by omega) ?_
                  intro v7 W5 hL5 hT5
                  refine hK.out _ _ ?_ (fun hHeld => ?_)
                  · exact ⟨hL5.blk.cell 0, hL5.blk.cell 1⟩
                  clear hK K
                  try simp only [List.getElem_toArray, List.getElem_cons_succ, List.getElem_cons_zero, Act.put, List.setIfInBounds_toArray, List.set_cons_zero, List.set_cons_succ]
                  have hB5_10 := hT5 _ _ hB4_10
                  have hB5_2 := hT5 _ _ hB4_2
                  have hB5_6 := hT5 _ _ hB4_6
                  refine wpAnyH_ready (rs := [11]) (by kernel_rfl) (by simp) ?_
                  refine AllReadyH.cons rfl (fun K hK => ?_) ?_
                  · skip
                    refine step_live3 tiF (by rfl) (by rfl) hL5 hB5_10 (by rfl) (by rfl) (by omega) ?_
                    intro v11 W6 hL6 hT6
                    refine hK.out _ _ ?_ (fun hHeld => ?_)
                    · exact ⟨hL6.blk.cell 0, hL6.blk.cell 1⟩
                    clear hK K
                    try simp only [List.getElem_toArray, List.getElem_cons_succ, List.getElem_cons_zero, Act.put, List.setIfInBounds_toArray, List.set_cons_zero, List.set_cons_succ]
                    have hB6_10 := hT6 _ _ hB5_10
                    have hB6_2 := hT6 _ _ hB5_2
                    have hB6_6 := hT6 _ _ hB5_6
                    refine wpAnyH_take (i := 12) (v := ?_) rfl (by kernel_rfl) (by kernel_rfl) (by kernel_rfl) (fun _ _ _ h => h) (Or.inl ⟨by rfl, ?_⟩) (by assumption) ?_
                    rotate_left
                    · intro w hSw; (try dsimp only at hSw); go_simp; (try with_reducible rfl)
                    try simp only [List.getElem_toArray, List.getElem_cons_succ, List.getElem_cons_zero, Act.put, List.setIfInBounds_toArray, List.set_cons_zero, List.set_cons_succ]
                    refine wpAnyH_take (i := 13) (v := ?_) rfl (by kernel_rfl) (by kernel_rfl) (by kernel_rfl) (fun _ _ _ h => h) (Or.inl ⟨by rfl, ?_⟩) (by assumption) ?_
                    rotate_left
                    · intro w hSw; (try dsimp only at hSw); go_simp; (try with_reducible rfl)
                    try simp only [List.getElem_toArray, List.getElem_cons_succ, List.getElem_cons_zero, Act.put, List.setIfInBounds_toArray, List.set_cons_zero, List.set_cons_succ]
                    refine wpAnyH_take (i := 14) (v := ?_) rfl (by kernel_rfl) (by kernel_rfl) (by kernel_rfl) (fun _ _ _ h => h) (Or.inl ⟨by rfl, ?_⟩) (by assumption) ?_
                    rotate_left
                    · intro w hSw; (try dsimp only at hSw); go_simp; (try with_reducible rfl)
                    try simp only [List.getElem_toArray, List.getElem_cons_succ, List.getElem_cons_zero, Act.put, List.setIfInBounds_toArray, List.set_cons_zero, List.set_cons_succ]
                    refine wpAnyH_done (by kernel_rfl) ?_ _
                    exact ⟨u7, .agg #[.string (oB ++ fp), .string fd], _, v3, u8, .agg #[.string (oB ++ fp), .string fd], _, v7, u9, .agg #[.string (oB ++ fp), .string fd], _, v11, v3, v7, v11, (by simp only [put8, Act.put, List.setIfInBounds_toArray, List.set_cons_zero, List.set_cons_succ]; rfl), hL6.n1, hL6.n2, hL6.n3, (fun g h => hL6.a12 g h), (fun g h => hL6.a23 g h), (fun g h => hL6.a31 g h), hL6.ext⟩
                  exact AllReadyH.nil
                exact AllReadyH.nil
              exact AllReadyH.nil
            exact AllReadyH.nil
          refine AllReadyH.cons rfl (fun K hK => ?_) ?_
          · skip
            go_simp
            refine hK.out _ _ ?_ (fun hHeld => ?_)
            · exact ⟨(hL1.alloc (.cells #[.string (oB ++ fp), .string fd] 40)).blk.cell 0, (hL1.alloc (.cells #[.string (oB ++ fp), .string fd] 40)).blk.cell 1⟩
            clear hK K
            try simp only [List.getElem_toArray, List.getElem_cons_succ, List.getElem_cons_zero, Act.put, List.setIfInBounds_toArray, List.set_cons_zero, List.set_cons_succ]
            have hL2 := hL1.alloc (.cells #[.string (oB ++ fp), .string fd] 40)
            have hB2_6 := hL1.built (⟨oB ++ fp, fd⟩ : File)
            try simp only [World.size_alloc] at hB2_6
            have hB2_10 := hB1_10.alloc (.cells #[.string (oB ++ fp), .string fd] 40)
            refine wpAnyH_ready (rs := [2]) (by kernel_rfl) (by simp) ?_
            refine AllReadyH.cons rfl (fun K hK => ?_) ?_
            · skip
              go_simp
              refine hK.out _ _ ?_ (fun hHeld => ?_)
              · exact ⟨(hL2.alloc (.cells #[.string (oB ++ fp), .string fd] 40)).blk.cell 0, (hL2.alloc (.cells #[.string (oB ++ fp), .string fd] 40)).blk.cell 1⟩
              clear hK K
              try simp only [List.getElem_toArray, List.getElem_cons_succ, List.getElem_cons_zero, Act.put, List.setIfInBounds_toArray, List.set_cons_zero, List.set_cons_succ]
              have hL3 := hL2.alloc (.cells #[.string (oB ++ fp), .string fd] 40)
              have hB3_2 := hL2.built (⟨oB ++ fp, fd⟩ : File)
              try simp only [World.size_alloc] at hB3_2
              have hB3_10 := hB2_10.alloc (.cells #[.string (oB ++ fp), .string fd] 40)
              have hB3_6 := hB2_6.alloc (.cells #[.string (oB ++ fp), .string fd] 40)
              refine wpAnyH_ready (rs := [3]) (by kernel_rfl) (by simp) ?_
              refine AllReadyH.cons rfl (fun K hK => ?_) ?_
              · skip
                refine step_live1 tiF (by rfl) (by rfl) hL3 hB3_2 (by rfl) (by rfl) (by omega) ?_
                intro v3 W4 hL4 hT4
                refine hK.out _ _ ?_ (fun hHeld => ?_)
                · exact ⟨hL4.blk.cell 0, hL4.blk.cell 1⟩
                clear hK K
                try simp only [List.getElem_toArray, List.getElem_cons_succ, List.getElem_cons_zero, Act.put, List.setIfInBounds_toArray, List.set_cons_zero, List.set_cons_succ]
                have hB4_10 := hT4 _ _ hB3_10
                have hB4_6 := hT4 _ _ hB3_6
                have hB4_2 := hT4 _ _ hB3_2
                refine wpAnyH_ready (rs := [7]) (by kernel_rfl) (by simp) ?_
                refine AllReadyH.cons rfl (fun K hK => ?_) ?_
                · skip
                  refine step_live2 tiF (by rfl) (by rfl) hL4 hB4_6 (by rfl) (by rfl) (by omega) ?_
                  intro v7 W5 hL5 hT5
                  refine hK.out _ _ ?_ (fun hHeld => ?_)
                  · exact ⟨hL5.blk.cell 0, hL5.blk.cell 1⟩
                  clear hK K
                  try simp only [List.getElem_toArray, List.getElem_cons_succ, List.getElem_cons_zero, Act.put, List.setIfInBounds_toArray, List.set_cons_zero, List.set_cons_succ]
                  have hB5_10 := hT5 _ _ hB4_10
                  have hB5_6 := hT5 _ _ hB4_6
                  have hB5_2 := hT5 _ _ hB4_2
                  refine wpAnyH_ready (rs := [11]) (by kernel_rfl) (by simp) ?_
                  refine AllReadyH.cons rfl (fun K hK => ?_) ?_
                  · skip
                    refine step_live3 tiF (by rfl) (by rfl) hL5 hB5_10 (by rfl) (by rfl) (by omega) ?_
                    intro v11 W6 hL6 hT6
                    refine hK.out _ _ ?_ (fun hHeld => ?_)
                    · exact ⟨hL6.blk.cell 0, hL6.blk.cell 1⟩
                    clear hK K
                    try simp only [List.getElem_toArray, List.getElem_cons_succ, List.getElem_cons_zero, Act.put, List.setIfInBounds_toArray, List.set_cons_zero, List.set_cons_succ]
                    have hB6_10 := hT6 _ _ hB5_10
                    have hB6_6 := hT6 _ _ hB5_6
                    have hB6_2 := hT6 _ _ hB5_2
                    refine wpAnyH_take (i := 12) (v := ?_) rfl (by kernel_rfl) (by kernel_rfl) (by kernel_rfl) (fun _ _ _ h => h) (Or.inl ⟨by rfl, ?_⟩) (by assumption) ?_
                    rotate_left
                    · intro w hSw; (try dsimp only at hSw); go_simp; (try with_reducible rfl)
                    try simp only [List.getElem_toArray, List.getElem_cons_succ, List.getElem_cons_zero, Act.put, List.setIfInBounds_toArray, List.set_cons_zero, List.set_cons_succ]
                    refine wpAnyH_take (i := 13) (v := ?_) rfl (by kernel_rfl) (by kernel_rfl) (by kernel_rfl) (fun _ _ _ h => h) (Or.inl ⟨by rfl, ?_⟩) (by assumption) ?_
                    rotate_left
                    · intro w hSw; (try dsimp only at hSw); go_simp; (try with_reducible rfl)
                    try simp only [List.getElem_toArray, List.getElem_cons_succ, List.getElem_cons_zero, Act.put, List.setIfInBounds_toArray, List.set_cons_zero, List.set_cons_succ]
                    refine wpAnyH_take (i := 14) (v := ?_) rfl (by kernel_rfl) (by kernel_rfl) (by kernel_rfl) (fun _ _ _ h => h) (Or.inl ⟨by rfl, ?_⟩) (by assumption) ?_
                    rotate_left
                    · intro w hSw; (try dsimp only at hSw); go_simp; (try with_reducible rfl)
                    try simp only [List.getElem_toArray, List.getElem_cons_succ, List.getElem_cons_zero, Act.put, List.setIfInBounds_toArray, List.set_cons_zero, List.set_cons_succ]
                    refine wpAnyH_done (by kernel_rfl) ?_ _
                    exact ⟨u7, .agg #[.string (oB ++ fp), .string fd], _, v3, u8, .agg #[.string (oB ++ fp), .string fd], _, v7, u9, .agg #[.string (oB ++ fp), .string fd], _, v11, v3, v7, v11, (by simp only [put8, Act.put, List.setIfInBounds_toArray, List.set_cons_zero, List.set_cons_succ]; rfl), hL6.n1, hL6.n2, hL6.n3, (fun g h => hL6.a12 g h), (fun g h => hL6.a23 g h), (fun g h => hL6.a31 g h), hL6.ext⟩
                  exact AllReadyH.nil
                exact AllReadyH.nil
              exact AllReadyH.nil
            exact AllReadyH.nil
          exact AllReadyH.nil
        exact AllReadyH.nil
      -- END OF REGION 8
      · intro t68 t69 t70 t71 t72 t73 t74 t75 t76 t77 t78 t79 x y z wx ⟨hx1, hy1, hz1, ha1, ha2, ha3, hxx⟩
        simp only [put8, Act.put, List.setIfInBounds_toArray, List.set_cons_zero, List.set_cons_succ]
        rw [← hstep.out] at hx1 hy1 hz1
        go_wp2_with fail
        go_roundw
        case rel => exact ⟨k + 1, by omega, by go_num, hx1, hy1, hz1, ⟨ha1, ha2, ha3⟩, hxx⟩
        case measure => simp [intOf]; omega
    · have hd : decide ((k : Int) < (n1 : Int)) = false := decide_eq_false (by omega)
      have hdn : decide (k < n1) = false := decide_eq_false (by omega)
      have hkn : xs.take k = xs := List.take_of_length_le (by have := N1.out; omega)
      rw [hkn] at hNo hNp hNq
      clear hkn
      obtain ⟨Ao, co, hvo⟩ := hNo.sl
      obtain ⟨Ap, cp, hvp⟩ := hNp.sl
      obtain ⟨Aq, cq, hvq⟩ := hNq.sl
      subst hvo hvp hvq
      have hpl : (preF oB xs).length = n1 := by rw [preF_len]; exact N1.out
      rw [hpl] at hNo hNp hNq ⊢
      have hRo := Lib.hid hNo.rdF
      have hRp := Lib.hid hNp.rdF
      have hRq := Lib.hid hNq.rdF
      have hx0' := hx03.trans hx
      have HPL := Lib.hid hpl
      obtain ⟨bs, hbs⟩ : ∃ l, preF oB xs = l := ⟨_, rfl⟩
      have hsb : ∀ f ∈ bs, f.path.size ≤ 1000000 := by rw [← hbs]; exact preF_size rfl Z1.out
      have hsA : ∀ f ∈ preF aB ys, f.path.size ≤ 1000000 := preF_size rfl Z2.out
      have hsB : ∀ f ∈ preF bB' zs, f.path.size ≤ 1000000 := preF_size rfl Z3.out
      rw [hbs] at hRo hRp hRq HPL
      have Z2len1 : Hid (∀ k, k ≤ n2 → (putL bs (preF aB (ys.take k))).length ≤ 19) := Lib.hid fun k hk => by
        have h := putL_len (preF aB (ys.take k)) bs
        rw [preF_len, List.length_take] at h
        have := HPL.out; have := N2.out; omega
      have Z2len2 := Z2len1
      have Z3len1 : Hid (∀ k, k ≤ n3 → (putL bs (preF bB' (zs.take k))).length ≤ 19) := Lib.hid fun k hk => by
        have h := putL_len (preF bB' (zs.take k)) bs
        rw [preF_len, List.length_take] at h
        have := HPL.out; have := N3.out; omega
      have Z3len2 : Hid (∀ k, k ≤ n3 → (putL (putL bs (preF aB ys)) (preF bB' (zs.take k))).length ≤ 19) := Lib.hid fun k hk => by
        have h := putL_len (preF bB' (zs.take k)) (putL bs (preF aB ys))
        have h2 := putL_len (preF aB ys) bs
        rw [preF_len, List.length_take] at h
        rw [preF_len] at h2
        have := HPL.out; have := N2.out; have := N3.out; omega
      have JJ := Lib.hid fun m1 m2 m3 => apart_join (O := xs) SA.out SB.out m1 m2 m3 (by have := N1.out; have := N2.out; have := N3.out; omega)
      rw [hbs] at JJ
      have S1 := Lib.hid hsb
      have S2 := Lib.hid hsA
      have S3 := Lib.hid hsB
      clear hNo hNp hNq hx hx03 hap hk hlk hsb hsA hsB hbs hpl HA
      go_wp2_with (at_builtin; refine stop ?_)
      refine list_appendNk (w0 := wo) tiF rfl rfl (New.nil (E := EF) _ _ _) (Kp.refl _ _) hRo.out rfl rfl (by have := HPL.out; simp; omega) (by have := HPL.out; unfold maxLen; simp; omega) ?_
      intro v12 w4 hN4 hx4 hk4 hg4
      rw [List.nil_append] at hN4
      have hRb := Lib.hid hN4.rdF
      obtain ⟨A4, c4, hv4⟩ := hN4.sl
      subst hv4
      rw [HPL.out] at hRb ⊢
      replace hRo := Lib.hid (hRo.out.ext hx4)
      replace hRp := Lib.hid (hRp.out.ext hx4)
      replace hRq := Lib.hid (hRq.out.ext hx4)
      have hx0 := hx0'.trans hx4
      clear hN4 hk4 hg4 hx4 hx0' hd hdn
      go_wp2_with fail
      go_loopw [7, 9, 13] (fun o q i wr => ∃ k : Nat, k ≤ n2 ∧ i = .int .i64 k ∧ RdF wr o (putL bs (preF aB (ys.take k))) ∧ RdF wr q (putL bs (preF aB (ys.take k))) ∧ Ext w4 wr) (fun _ _ i _ => n2 - (intOf i).toNat)
      case atStart => exact ⟨0, Nat.zero_le _, rfl, hRo.out, hRq.out, Kp.refl _ _⟩
      case round =>
        obtain ⟨k, hk, rfl, hRo, hRq, hx⟩ := hrel
        rename World => wo
        by_cases hlk : k < n2
        · have hd : decide ((k : Int) < (n2 : Int)) = true := decide_eq_true (by omega)
          have hkp : k < ys.length := by have := N2.out; omega
          obtain ⟨Ao, co, hvo, _⟩ := hRo.open_
          obtain ⟨Aq, cq, hvq, _⟩ := hRq.open_
          obtain ⟨m1, hm1⟩ : ∃ l, (putL bs (preF aB (ys.take k))).length = l := ⟨_, rfl⟩
          obtain ⟨m2, hm2⟩ : ∃ l, (putL bs (preF aB (ys.take k))).length = l := ⟨_, rfl⟩
          rw [hm1] at hvo
          rw [hm2] at hvq
          subst hvo hvq
          clear hm1 hm2
          obtain ⟨Ax, cx, hvx, hOx⟩ := (HB.out wo (hx0.trans hx)).open_
          obtain ⟨b, off, hAt, _, _, d0, d1⟩ := hOx.rd.file hkp
          injection hvx with e1 e3 e2
          clear e3
          subst e1 e2
          subst hAt
          have HCELL : Hid (∀ W, Ext wo W → W.cell? ⟨b, off + k * 2, none⟩ = some (.string ys[k].path) ∧ W.cell? ⟨b, off + k * 2 + 1, none⟩ = some (.string ys[k].data)) := Lib.hid fun W hW => by
            obtain ⟨Ax, cx, hvx, hOx⟩ := (HB.out W (hx0.trans (hx.trans hW))).open_
            obtain ⟨b', off', hAt, _, _, d0, d1⟩ := hOx.rd.file hkp
            injection hvx with e1 e3 e2
            clear e3
            subst e1 e2
            injection hAt with hAt
            injection hAt with e1 e2
            subst e1 e2
            exact ⟨d0, d1⟩
          have hs1 := Lib.hid (show putL bs (preF aB (ys.take (k + 1))) = putF (putL bs (preF aB (ys.take k))) (aB ++ ys[k].path) ys[k].data by rw [preF_take aB ys hkp, putL_snoc])
          have hs2 := Lib.hid (show putL bs (preF aB (ys.take (k + 1))) = putF (putL bs (preF aB (ys.take k))) (aB ++ ys[k].path) ys[k].data by rw [preF_take aB ys hkp, putL_snoc])
          have hl1 := Z2len1.out k hk
          have hl2 := Z2len2.out k hk
          have hfz := Z2.out ys[k] (List.getElem_mem hkp)
          obtain ⟨f, hf⟩ : ∃ f, ys[k] = f := ⟨_, rfl⟩
          rw [hf] at d0 d1 HCELL hs1 hs2 hfz
          obtain ⟨fp, fd⟩ := f
          dsimp only at d0 d1 HCELL hs1 hs2 hfz
          have hcat : ∀ W, (Op.stringOp .add (⟨#[97]⟩ : ByteArray) fp).run Tryz.prog W = .ok (.string (aB ++ fp)) W := fun W => run_string_add_sum W _ _ (by have : (⟨#[97]⟩ : ByteArray).size = 1 := rfl; omega)
          clear hfz
          have hlt' : (k : Int) < (n2 : Int) := by omega
          have h0 : (0 : Int) ≤ (k : Int) := by omega
          have hw : IntKind.i64.wrap ((k : Int) + 1) = (k : Int) + 1 := IntWalk.i64_in _ (by omega)
          obtain ⟨L1, hL1⟩ : ∃ l, putL bs (preF aB (ys.take k)) = l := ⟨_, rfl⟩
          obtain ⟨L2, hL2⟩ : ∃ l, putL bs (preF aB (ys.take k)) = l := ⟨_, rfl⟩
          rw [hL1] at hs1 hRo hl1
          rw [hL2] at hs2 hRq hl2
          have P1 := Lib.hid fun W (hW : Ext wo W) => (put_calls _ (aB ++ fp) fd L1 _ W (hRo.ext hW) hl1).mono fun e W' h => show (∃ u, e = .returned u ∧ RdF W' u (putF L1 (aB ++ fp) fd)) ∧ Ext wo W' ∧ Ext W W' from by obtain ⟨u, he, hN, hz⟩ := h; exact ⟨⟨u, he, hN.rdF⟩, hW.trans hz, hz⟩
          have P2 := Lib.hid fun W (hW : Ext wo W) => (put_calls _ (aB ++ fp) fd L2 _ W (hRq.ext hW) hl2).mono fun e W' h => show (∃ u, e = .returned u ∧ RdF W' u (putF L2 (aB ++ fp) fd)) ∧ Ext wo W' ∧ Ext W W' from by obtain ⟨u, he, hN, hz⟩ := h; exact ⟨⟨u, he, hN.rdF⟩, hW.trans hz, hz⟩
          clear hOx hf hL1 hL2 hRo hRq hl1 hl2
          go_wp2_with fail
          go_region_held3 (fun w' => w'.cell? ⟨b, off + k * 2, none⟩ = some (.string fp) ∧ w'.cell? ⟨b, off + k * 2 + 1, none⟩ = some (.string fd))
            (first | exact HCELL.out _ ((Kp.refl _ wo).drew) | exact HCELL.out _ (((Kp.refl _ wo).drew).alloc _) | exact HCELL.out _ (((((Kp.refl _ wo).drew).alloc _).setCell (.inl (by simp)) _).setCell (.inl (by simp)) _) | fail)
            (fail)
          have hBf : Blk (wo.alloc (.cells #[.string (aB ++ fp), .string fd] 40)).drew wo.heap.size 40 #[.string (aB ++ fp), .string fd] := (Blk.new wo _ _).ext ((Kp.refl _ _).drew)
          have hxa : Ext wo (wo.alloc (.cells #[.string (aB ++ fp), .string fd] 40)).drew := ((Kp.refl _ wo).alloc _).drew
          generalize (wo.alloc (.cells #[.string (aB ++ fp), .string fd] 40)).drew = wa at hBf hxa ⊢
          have HKf : Hid (∀ W, Ext wa W → W.cell? ⟨wo.heap.size, 0, none⟩ = some (.string (aB ++ fp)) ∧ W.cell? ⟨wo.heap.size, 1, none⟩ = some (.string fd)) := Lib.hid fun W hW => ⟨(hBf.ext hW).cell 0, (hBf.ext hW).cell 1⟩
          have Q1 := Lib.hid fun W (hW : Ext wa W) => (P1.out W (hxa.trans hW)).mono fun e W' h => show (∃ u, e = .returned u ∧ RdF W' u (putF L1 (aB ++ fp) fd)) ∧ Ext wa W' ∧ Ext W W' from ⟨h.1, hW.trans h.2.2, h.2.2⟩
          have Q2 := Lib.hid fun W (hW : Ext wa W) => (P2.out W (hxa.trans hW)).mono fun e W' h => show (∃ u, e = .returned u ∧ RdF W' u (putF L2 (aB ++ fp) fd)) ∧ Ext wa W' ∧ Ext W W' from ⟨h.1, hW.trans h.2.2, h.2.2⟩
          clear P1 P2 hBf HCELL hcat
          go_wp2_with fail
          go_region_held3 (fun w' => w'.cell? ⟨wo.heap.size, 0, none⟩ = some (.string (aB ++ fp)) ∧ w'.cell? ⟨wo.heap.size, 1, none⟩ = some (.string fd))
            (first | exact HKf.out _ hzB | exact HKf.out _ hzA | exact HKf.out _ ((Kp.refl _ wa).drew) | fail)
            (first
              | (go_at_call 27; ((with_reducible refine Calls.mono (Q1.out _ ?_) ?_)); (exact (Kp.refl _ wa).drew); rintro e wA ⟨⟨rA, rfl, hRA⟩, hzA, hyA⟩)
              | (go_at_call 27; ((with_reducible refine Calls.mono (Q2.out _ ?_) ?_)); (exact hzA); rintro e wB ⟨⟨rB, rfl, hRB⟩, hzB, hyB⟩)
              | fail)
          have hRA2 := hRA.ext hyB
          rw [← hs1.out] at hRA2
          rw [← hs2.out] at hRB
          have hxB := hx.trans (hxa.trans hzB)
          clear HKf Q1 Q2 hRA hyA hyB hzA hzB hs1 hs2 hxa hx
          go_wp2_with fail
          go_roundw
          case rel => exact ⟨k + 1, by omega, by go_num, hRA2, hRB, hxB⟩
          case measure => simp [intOf]; omega
        · have hd : decide ((k : Int) < (n2 : Int)) = false := decide_eq_false (by omega)
          have hdn : decide (k < n2) = false := decide_eq_false (by omega)
          have hkn : ys.take k = ys := List.take_of_length_le (by have := N2.out; omega)
          rw [hkn] at hRo hRq
          have hRx := Lib.hid hRo
          have hRz := Lib.hid hRq
          replace hRb := Lib.hid (hRb.out.ext hx)
          replace hRp := Lib.hid (hRp.out.ext hx)
          replace hx0 := hx0.trans hx
          obtain ⟨Ax, cx, hvx, _⟩ := hRo.open_
          obtain ⟨Az, cz, hvz, _⟩ := hRq.open_
          subst hvx hvz
          clear hkn hRo hRq hx hk hlk HB Z2len1 Z2len2
          go_wp2_with fail
          clear hd hdn
          rename World => w5
          go_loopw [8, 9, 15] (fun o q i wr => ∃ k : Nat, k ≤ n3 ∧ i = .int .i64 k ∧ RdF wr o (putL bs (preF bB' (zs.take k))) ∧ RdF wr q (putL (putL bs (preF aB ys)) (preF bB' (zs.take k))) ∧ Ext w5 wr) (fun _ _ i _ => n3 - (intOf i).toNat)
          case atStart => exact ⟨0, Nat.zero_le _, rfl, hRp.out, hRz.out, Kp.refl _ _⟩
          case round =>
            obtain ⟨k, hk, rfl, hRo, hRq, hx⟩ := hrel
            rename World => wo
            by_cases hlk : k < n3
            · have hd : decide ((k : Int) < (n3 : Int)) = true := decide_eq_true (by omega)
              have hkp : k < zs.length := by have := N3.out; omega
              obtain ⟨Ao, co, hvo, _⟩ := hRo.open_
              obtain ⟨Aq, cq, hvq, _⟩ := hRq.open_
              obtain ⟨m1, hm1⟩ : ∃ l, (putL bs (preF bB' (zs.take k))).length = l := ⟨_, rfl⟩
              obtain ⟨m2, hm2⟩ : ∃ l, (putL (putL bs (preF aB ys)) (preF bB' (zs.take k))).length = l := ⟨_, rfl⟩
              rw [hm1] at hvo
              rw [hm2] at hvq
              subst hvo hvq
              clear hm1 hm2
              obtain ⟨Ax, cx, hvx, hOx⟩ := (HC.out wo (hx0.trans hx)).open_
              obtain ⟨b, off, hAt, _, _, d0, d1⟩ := hOx.rd.file hkp
              injection hvx with e1 e3 e2
              clear e3
              subst e1 e2
              subst hAt
              have HCELL : Hid (∀ W, Ext wo W → W.cell? ⟨b, off + k * 2, none⟩ = some (.string zs[k].path) ∧ W.cell? ⟨b, off + k * 2 + 1, none⟩ = some (.string zs[k].data)) := Lib.hid fun W hW => by
                obtain ⟨Ax, cx, hvx, hOx⟩ := (HC.out W (hx0.trans (hx.trans hW))).open_
                obtain ⟨b', off', hAt, _, _, d0, d1⟩ := hOx.rd.file hkp
                injection hvx with e1 e3 e2
                clear e3
                subst e1 e2
                injection hAt with hAt
                injection hAt with e1 e2
                subst e1 e2
                exact ⟨d0, d1⟩
              have hs1 := Lib.hid (show putL bs (preF bB' (zs.take (k + 1))) = putF (putL bs (preF bB' (zs.take k))) (bB' ++ zs[k].path) zs[k].data by rw [preF_take bB' zs hkp, putL_snoc])
              have hs2 := Lib.hid (show putL (putL bs (preF aB ys)) (preF bB' (zs.take (k + 1))) = putF (putL (putL bs (preF aB ys)) (preF bB' (zs.take k))) (bB' ++ zs[k].path) zs[k].data by rw [preF_take bB' zs hkp, putL_snoc])
              have hl1 := Z3len1.out k hk
              have hl2 := Z3len2.out k hk
              have hfz := Z3.out zs[k] (List.getElem_mem hkp)
              obtain ⟨f, hf⟩ : ∃ f, zs[k] = f := ⟨_, rfl⟩
              rw [hf] at d0 d1 HCELL hs1 hs2 hfz
              obtain ⟨fp, fd⟩ := f
              dsimp only at d0 d1 HCELL hs1 hs2 hfz
              have hcat : ∀ W, (Op.stringOp .add (⟨#[98]⟩ : ByteArray) fp).run Tryz.prog W = .ok (.string (bB' ++ fp)) W := fun W => run_string_add_sum W _ _ (by have : (⟨#[98]⟩ : ByteArray).size = 1 := rfl; omega)
              clear hfz
              have hlt' : (k : Int) < (n3 : Int) := by omega
              have h0 : (0 : Int) ≤ (k : Int) := by omega
              have hw : IntKind.i64.wrap ((k : Int) + 1) = (k : Int) + 1 := IntWalk.i64_in _ (by omega)
              obtain ⟨L1, hL1⟩ : ∃ l, putL bs (preF bB' (zs.take k)) = l := ⟨_, rfl⟩
              obtain ⟨L2, hL2⟩ : ∃ l, putL (putL bs (preF aB ys)) (preF bB' (zs.take k)) = l := ⟨_, rfl⟩
              rw [hL1] at hs1 hRo hl1
              rw [hL2] at hs2 hRq hl2
              have P1 := Lib.hid fun W (hW : Ext wo W) => (put_calls _ (bB' ++ fp) fd L1 _ W (hRo.ext hW) hl1).mono fun e W' h => show (∃ u, e = .returned u ∧ RdF W' u (putF L1 (bB' ++ fp) fd)) ∧ Ext wo W' ∧ Ext W W' from by obtain ⟨u, he, hN, hz⟩ := h; exact ⟨⟨u, he, hN.rdF⟩, hW.trans hz, hz⟩
              have P2 := Lib.hid fun W (hW : Ext wo W) => (put_calls _ (bB' ++ fp) fd L2 _ W (hRq.ext hW) hl2).mono fun e W' h => show (∃ u, e = .returned u ∧ RdF W' u (putF L2 (bB' ++ fp) fd)) ∧ Ext wo W' ∧ Ext W W' from by obtain ⟨u, he, hN, hz⟩ := h; exact ⟨⟨u, he, hN.rdF⟩, hW.trans hz, hz⟩
              clear hOx hf hL1 hL2 hRo hRq hl1 hl2
              go_wp2_with fail
              go_region_held3 (fun w' => w'.cell? ⟨b, off + k * 2, none⟩ = some (.string fp) ∧ w'.cell? ⟨b, off + k * 2 + 1, none⟩ = some (.string fd))
                (first | exact HCELL.out _ ((Kp.refl _ wo).drew) | exact HCELL.out _ (((Kp.refl _ wo).drew).alloc _) | exact HCELL.out _ (((((Kp.refl _ wo).drew).alloc _).setCell (.inl (by simp)) _).setCell (.inl (by simp)) _) | fail)
                (fail)
              have hBf : Blk (wo.alloc (.cells #[.string (bB' ++ fp), .string fd] 40)).drew wo.heap.size 40 #[.string (bB' ++ fp), .string fd] := (Blk.new wo _ _).ext ((Kp.refl _ _).drew)
              have hxa : Ext wo (wo.alloc (.cells #[.string (bB' ++ fp), .string fd] 40)).drew := ((Kp.refl _ wo).alloc _).drew
              generalize (wo.alloc (.cells #[.string (bB' ++ fp), .string fd] 40)).drew = wa at hBf hxa ⊢
              have HKf : Hid (∀ W, Ext wa W → W.cell? ⟨wo.heap.size, 0, none⟩ = some (.string (bB' ++ fp)) ∧ W.cell? ⟨wo.heap.size, 1, none⟩ = some (.string fd)) := Lib.hid fun W hW => ⟨(hBf.ext hW).cell 0, (hBf.ext hW).cell 1⟩
              have Q1 := Lib.hid fun W (hW : Ext wa W) => (P1.out W (hxa.trans hW)).mono fun e W' h => show (∃ u, e = .returned u ∧ RdF W' u (putF L1 (bB' ++ fp) fd)) ∧ Ext wa W' ∧ Ext W W' from ⟨h.1, hW.trans h.2.2, h.2.2⟩
              have Q2 := Lib.hid fun W (hW : Ext wa W) => (P2.out W (hxa.trans hW)).mono fun e W' h => show (∃ u, e = .returned u ∧ RdF W' u (putF L2 (bB' ++ fp) fd)) ∧ Ext wa W' ∧ Ext W W' from ⟨h.1, hW.trans h.2.2, h.2.2⟩
              clear P1 P2 hBf HCELL hcat
              go_wp2_with fail
              go_region_held3 (fun w' => w'.cell? ⟨wo.heap.size, 0, none⟩ = some (.string (bB' ++ fp)) ∧ w'.cell? ⟨wo.heap.size, 1, none⟩ = some (.string fd))
                (first | exact HKf.out _ hzB | exact HKf.out _ hzA | exact HKf.out _ ((Kp.refl _ wa).drew) | fail)
                (first
                  | (go_at_call 27; ((with_reducible refine Calls.mono (Q1.out _ ?_) ?_)); (exact (Kp.refl _ wa).drew); rintro e wA ⟨⟨rA, rfl, hRA⟩, hzA, hyA⟩)
                  | (go_at_call 27; ((with_reducible refine Calls.mono (Q2.out _ ?_) ?_)); (exact hzA); rintro e wB ⟨⟨rB, rfl, hRB⟩, hzB, hyB⟩)
                  | fail)
              have hRA2 := hRA.ext hyB
              rw [← hs1.out] at hRA2
              rw [← hs2.out] at hRB
              have hxB := hx.trans (hxa.trans hzB)
              clear HKf Q1 Q2 hRA hyA hyB hzA hzB hs1 hs2 hxa hx
              go_wp2_with fail
              go_roundw
              case rel => exact ⟨k + 1, by omega, by go_num, hRA2, hRB, hxB⟩
              case measure => simp [intOf]; omega
            · have hd : decide ((k : Int) < (n3 : Int)) = false := decide_eq_false (by omega)
              have hdn : decide (k < n3) = false := decide_eq_false (by omega)
              have hkn : zs.take k = zs := List.take_of_length_le (by have := N3.out; omega)
              have hq3 := Z3len2.out k hk
              rw [hkn] at hRo hRq hq3
              have hRy := Lib.hid hRo
              have hRw := Lib.hid hRq
              replace hRb := Lib.hid (hRb.out.ext hx)
              replace hRx := Lib.hid (hRx.out.ext hx)
              replace hx0 := hx0.trans hx
              have hq1 : (putL bs (preF aB ys)).length ≤ 19 := by
                have h2 := putL_len (preF aB ys) bs
                rw [preF_len] at h2
                have := HPL.out; have := N2.out; omega
              have hq2 : (putL bs (preF bB' zs)).length ≤ 19 := by
                have h2 := putL_len (preF bB' zs) bs
                rw [preF_len] at h2
                have := HPL.out; have := N3.out; omega
              have hsx : ∀ f ∈ putL bs (preF aB ys), f.path.size ≤ 1000000 := fun f hf => (putL_mem _ _ hf).elim (S1.out f) (S2.out f)
              have hsy : ∀ f ∈ putL bs (preF bB' zs), f.path.size ≤ 1000000 := fun f hf => (putL_mem _ _ hf).elim (S1.out f) (S3.out f)
              have hl1 : bs.length ≤ 1000 := by have := HPL.out; omega
              obtain ⟨lx, hlx⟩ : ∃ l, putL bs (preF aB ys) = l := ⟨_, rfl⟩
              obtain ⟨ly, hly⟩ : ∃ l, putL bs (preF bB' zs) = l := ⟨_, rfl⟩
              rw [hlx] at JJ hRx hRw hRq hq1 hq3 hsx ⊢
              rw [hly] at JJ hRy hRo hq2 hsy
              obtain ⟨lw, hlw⟩ : ∃ l, putL lx (preF bB' zs) = l := ⟨_, rfl⟩
              rw [hlw] at JJ hRw hRq hq3
              obtain ⟨Ay, cy, hvy, _⟩ := hRo.open_
              obtain ⟨Aw, cw, hvw, _⟩ := hRq.open_
              subst hvy hvw
              obtain ⟨nx, hnx⟩ : ∃ l, lx.length = l := ⟨_, rfl⟩
              obtain ⟨ny, hny⟩ : ∃ l, ly.length = l := ⟨_, rfl⟩
              obtain ⟨nw, hnw⟩ : ∃ l, lw.length = l := ⟨_, rfl⟩
              have M1 := fun W (hR : RdF W (.slice A4 n1 c4) bs) => may_calls _ bs _ W hR (by omega) S1.out
              have M2 := fun W (hR : RdF W (.slice Ax nx cx) lx) => may_calls _ lx _ W hR (by omega) hsx
              have M3 := fun W (hR : RdF W (.slice Ay ny cy) ly) => may_calls _ ly _ W hR (by omega) hsy
              have hO := fun W (h1 : RdF W (.slice A4 n1 c4) bs) (h2 : RdF W (.slice Ax nx cx) lx) (h3 : RdF W (.slice Ay ny cy) ly) => joinOf_calls textM _ _ _ bs lx ly _ W h1 h2 h3 (by omega) (by omega) (by omega) S1.out hsx hsy (fun _ => gathF_size _ _ S1.out hsx hsy) fun h p _ => may3_merge h p
              rw [hnx] at hRx ⊢
              rw [hny] at hRy ⊢
              rw [hnw] at hRw ⊢
              obtain ⟨q1, hm1⟩ : ∃ q, mayB bs = q := ⟨_, rfl⟩
              obtain ⟨q2, hm2⟩ : ∃ q, mayB lx = q := ⟨_, rfl⟩
              obtain ⟨q3, hm3⟩ : ∃ q, mayB ly = q := ⟨_, rfl⟩
              rw [hm1, hm2, hm3] at JJ
              rw [hm1] at M1
              rw [hm2] at M2
              rw [hm3] at M3
              have HM1 := Lib.hid M1
              have HM2 := Lib.hid M2
              have HM3 := Lib.hid M3
              have HO := Lib.hid hO
              clear M1 M2 M3 hO hm1 hm2 hm3 hnx hny hnw hlx hly hlw hq1 hq2 hq3 hsx hsy hRo hRq hkn hl1 HC S1 S2 S3 HPL N1 N2 N3 Z1 Z2 Z3 Z3len1 Z3len2 hx hk hlk SA SB hn
              have hxx := Lib.hid hx0
              clear hx0
              go_wp2_with fail
              clear hd hdn
              refine (HM1.out _ hRb.out).mono ?_
              rintro e k1 ⟨rfl, hz⟩
              replace hRb := Lib.hid (hRb.out.ext hz)
              replace hRx := Lib.hid (hRx.out.ext hz)
              replace hRy := Lib.hid (hRy.out.ext hz)
              replace hRw := Lib.hid (hRw.out.ext hz)
              replace hxx := Lib.hid (hxx.out.trans hz)
              clear hz HM1
              cases q1 with
              | false =>
                clear HM2 HM3 HO JJ
                go_wp2_with fail
                refine (awake9_calls _).mono ?_
                rintro e kz ⟨rfl, hz⟩
                go_wp2_with fail
                go_ret
                exact ⟨rfl, hxx.out.trans hz⟩
              | true =>
                go_wp2_with fail
                refine (HM2.out _ hRx.out).mono ?_
                rintro e k2 ⟨rfl, hz⟩
                replace hRb := Lib.hid (hRb.out.ext hz)
                replace hRx := Lib.hid (hRx.out.ext hz)
                replace hRy := Lib.hid (hRy.out.ext hz)
                replace hRw := Lib.hid (hRw.out.ext hz)
                replace hxx := Lib.hid (hxx.out.trans hz)
                clear hz HM2
                cases q2 with
                | false =>
                  clear HM3 HO JJ
                  go_wp2_with fail
                  refine (awake9_calls _).mono ?_
                  rintro e kz ⟨rfl, hz⟩
                  go_wp2_with fail
                  go_ret
                  exact ⟨rfl, hxx.out.trans hz⟩
                | true =>
                  go_wp2_with fail
                  refine (HM3.out _ hRy.out).mono ?_
                  rintro e k3 ⟨rfl, hz⟩
                  replace hRb := Lib.hid (hRb.out.ext hz)
                  replace hRx := Lib.hid (hRx.out.ext hz)
                  replace hRy := Lib.hid (hRy.out.ext hz)
                  replace hRw := Lib.hid (hRw.out.ext hz)
                  replace hxx := Lib.hid (hxx.out.trans hz)
                  clear hz HM3
                  cases q3 with
                  | false =>
                    clear HO JJ
                    go_wp2_with fail
                    refine (awake9_calls _).mono ?_
                    rintro e kz ⟨rfl, hz⟩
                    go_wp2_with fail
                    go_ret
                    exact ⟨rfl, hxx.out.trans hz⟩
                  | true =>
                    rw [JJ.out (by trivial) (by trivial) (by trivial)] at HO
                    clear JJ
                    go_wp2_with fail
                    refine (HO.out _ hRb.out hRx.out hRy.out).mono ?_
                    rintro e k4 ⟨r, s, rfl, hN, hM, hz⟩
                    obtain ⟨At, ct, ht⟩ := hN.sl
                    obtain ⟨Ab, cb, hb⟩ := hM.sl
                    replace hb : s = .slice Ab 0 cb := hb
                    subst ht hb
                    have hRt := Lib.hid hN.rdF
                    replace hRw := Lib.hid (hRw.out.ext hz)
                    replace hxx := Lib.hid (hxx.out.trans hz)
                    clear hz hN hM HO hRb hRx hRy
                    go_wp2_with fail
                    refine (sameFiles_calls _ _ lw lw _ _ _ hRt.out hRw.out).mono ?_
                    rintro e k5 ⟨rfl, hz⟩
                    replace hxx := Lib.hid (hxx.out.trans hz)
                    rw [sameB_refl]
                    go_wp2_with fail
                    refine (awake9_calls _).mono ?_
                    rintro e kz ⟨rfl, hz⟩
                    go_wp2_with fail
                    go_ret
                    exact ⟨rfl, hxx.out.trans hz⟩

set_option maxHeartbeats 2000000 in
set_option maxRecDepth 100000 in
theorem apart9_many (v0 v1 v2 : Value) (xs ys zs : List File) (w : World) (hA : RdF w v0 xs) (hB : RdF w v1 ys) (hC : RdF w v2 zs) (hg : great9 xs ys zs = false) (hm : may3 xs ys zs = true) (hn : ¬ ys.length + zs.length + xs.length ≤ 12) :
    Calls Tryz.prog 8 #[v0, v1, v2] w fun e w' => e = .returned (.bool true) ∧ Ext w w' := by
  obtain ⟨g1, g2, g3⟩ := great9_false hg
  obtain ⟨m1, m2, m3⟩ := (may3_iff _ _ _).1 hm
  have hG := great9_calls v0 v1 v2 xs ys zs w hA hB hC
  rw [hg] at hG
  have hM1 := fun W (hW : Ext w W) => may_calls v0 xs _ W (hA.ext hW) (Nat.le_trans (small_len g1) (by omega)) (small_path g1)
  have hM2 := fun W (hW : Ext w W) => may_calls v1 ys _ W (hB.ext hW) (Nat.le_trans (small_len g2) (by omega)) (small_path g2)
  have hM3 := fun W (hW : Ext w W) => may_calls v2 zs _ W (hC.ext hW) (Nat.le_trans (small_len g3) (by omega)) (small_path g3)
  rw [m1] at hM1
  rw [m2] at hM2
  rw [m3] at hM3
  have hz1 : ∀ x ∈ xs, x.path.size ≤ 100 := fun x hx => ((greatB_false g1).2 x hx).1
  have hz2 : ∀ x ∈ ys, x.path.size ≤ 100 := fun x hx => ((greatB_false g2).2 x hx).1
  have hz3 : ∀ x ∈ zs, x.path.size ≤ 100 := fun x hx => ((greatB_false g3).2 x hx).1
  have SA := Lib.hid ((mayB_iff _).1 m2).rise
  have SB := Lib.hid ((mayB_iff _).1 m3).rise
  have hb1 := (greatB_false g1).1
  have hb2 := (greatB_false g2).1
  have hb3 := (greatB_false g3).1
  obtain ⟨A1, c1, rfl, _⟩ := hA.open_
  obtain ⟨A2, c2, rfl, _⟩ := hB.open_
  obtain ⟨A3, c3, rfl, _⟩ := hC.open_
  obtain ⟨n1, hn1⟩ : ∃ n, xs.length = n := ⟨_, rfl⟩
  obtain ⟨n2, hn2⟩ : ∃ n, ys.length = n := ⟨_, rfl⟩
  obtain ⟨n3, hn3⟩ : ∃ n, zs.length = n := ⟨_, rfl⟩
  rw [hn1, hn2, hn3] at hn
  rw [hn1] at hb1
  rw [hn2] at hb2
  rw [hn3] at hb3
  rw [hn1] at hA
  rw [hn2] at hB
  rw [hn3] at hC
  rw [hn1, hn2, hn3] at hG ⊢
  rw [hn1] at hM1
  rw [hn2] at hM2
  rw [hn3] at hM3
  have HG := Lib.hid hG
  have HM1 := Lib.hid hM1
  have HM2 := Lib.hid hM2
  have HM3 := Lib.hid hM3
  have HA := Lib.hid fun W (hW : Ext w W) => hA.ext hW
  have HB := Lib.hid fun W (hW : Ext w W) => hB.ext hW
  have HC := Lib.hid fun W (hW : Ext w W) => hC.ext hW
  have N1 := Lib.hid hn1
  have N2 := Lib.hid hn2
  have N3 := Lib.hid hn3
  have Z1 := Lib.hid hz1
  have Z2 := Lib.hid hz2
  have Z3 := Lib.hid hz3
  clear hz1 hz2 hz3
  clear hA hB hC hg hm g1 g2 g3 m1 m2 m3 hG hM1 hM2 hM3 hn1 hn2 hn3
  have hs1 : IntKind.i64.wrap ((n2 : Int) + (n3 : Int)) = (n2 : Int) + (n3 : Int) := IntWalk.i64_in _ (by omega)
  have hs2 : IntKind.i64.wrap ((n2 : Int) + (n3 : Int) + (n1 : Int)) = (n2 : Int) + (n3 : Int) + (n1 : Int) := IntWalk.i64_in _ (by omega)
  have hs3 : decide ((12 : Int) < (n2 : Int) + (n3 : Int) + (n1 : Int)) = true := decide_eq_true (by omega)
  go_enter Tryz.func8, Tryz.ntmps8
  go_wp2_with fail
  refine HG.out.mono ?_
  rintro e w0 ⟨rfl, hw0⟩
  subst hw0
  clear HG
  go_wp2_with fail
  refine (HM1.out _ (Kp.refl _ _)).mono ?_
  rintro e w1 ⟨rfl, hx1⟩
  go_wp2_with fail
  refine (HM2.out _ hx1).mono ?_
  rintro e w2 ⟨rfl, hx2⟩
  have hx02 := hx1.trans hx2
  clear hx1 hx2
  go_wp2_with fail
  refine (HM3.out _ hx02).mono ?_
  rintro e w3 ⟨rfl, hx3⟩
  have hx03 := hx02.trans hx3
  clear hx02 hx3 HM1 HM2 HM3
  go_wp2_with fail
  refine (awake9_calls _).mono ?_
  rintro e kz ⟨rfl, hz⟩
  go_wp2_with fail
  go_ret
  exact ⟨rfl, hx03.trans hz⟩

set_option maxHeartbeats 1000000 in
set_option maxRecDepth 100000 in
theorem apart9_calls (v0 v1 v2 : Value) (xs ys zs : List File) (w : World) (hA : RdF w v0 xs) (hB : RdF w v1 ys) (hC : RdF w v2 zs) :
    Calls Tryz.prog 8 #[v0, v1, v2] w fun e w' => e = .returned (.bool true) ∧ Ext w w' := by
  have hG := great9_calls v0 v1 v2 xs ys zs w hA hB hC
  have HA := Lib.hid awake9_calls
  cases hg : great9 xs ys zs with
  | true =>
    rw [hg] at hG
    have HG := Lib.hid hG
    clear hG hA hB hC hg
    go_enter Tryz.func8, Tryz.ntmps8
    go_wp2_with fail
    refine HG.out.mono ?_
    rintro e w0 ⟨rfl, hw0⟩
    subst hw0
    clear HG
    go_wp2_with fail
    refine (HA.out _).mono ?_
    rintro e w1 ⟨rfl, hx1⟩
    go_wp2_with fail
    go_ret
    exact ⟨rfl, hx1⟩
  | false =>
    by_cases hm : may3 xs ys zs = true
    · by_cases hn : ys.length + zs.length + xs.length ≤ 12
      · exact apart9_main v0 v1 v2 xs ys zs w hA hB hC hg hm hn
      · exact apart9_many v0 v1 v2 xs ys zs w hA hB hC hg hm hn
    · obtain ⟨g1, g2, g3⟩ := great9_false hg
      rw [hg] at hG
      have hM1 := fun W (hW : Ext w W) => may_calls v0 xs _ W (hA.ext hW) (Nat.le_trans (small_len g1) (by omega)) (small_path g1)
      have hM2 := fun W (hW : Ext w W) => may_calls v1 ys _ W (hB.ext hW) (Nat.le_trans (small_len g2) (by omega)) (small_path g2)
      have hM3 := fun W (hW : Ext w W) => may_calls v2 zs _ W (hC.ext hW) (Nat.le_trans (small_len g3) (by omega)) (small_path g3)
      rw [may3_iff] at hm
      have HG := Lib.hid hG
      have HM1 := Lib.hid hM1
      have HM2 := Lib.hid hM2
      have HM3 := Lib.hid hM3
      have HN := Lib.hid hm
      clear hG hM1 hM2 hM3 hm hg g1 g2 g3 hA hB hC
      generalize mayB xs = q1 at *
      generalize mayB ys = q2 at *
      generalize mayB zs = q3 at *
      go_enter Tryz.func8, Tryz.ntmps8
      go_wp2_with fail
      refine HG.out.mono ?_
      rintro e w0 ⟨rfl, hw0⟩
      subst hw0
      clear HG
      go_wp2_with fail
      refine (HM1.out _ (Kp.refl _ _)).mono ?_
      rintro e w1 ⟨rfl, hx1⟩
      cases q1 with
      | false =>
        clear HM1 HM2 HM3
        go_wp2_with fail
        refine (HA.out _).mono ?_
        rintro e wz ⟨rfl, hxz⟩
        go_wp2_with fail
        go_ret
        exact ⟨rfl, hx1.trans hxz⟩
      | true =>
        go_wp2_with fail
        refine (HM2.out _ hx1).mono ?_
        rintro e w2 ⟨rfl, hx2⟩
        have hx02 := hx1.trans hx2
        clear hx1 hx2
        cases q2 with
        | false =>
          clear HM1 HM2 HM3
          go_wp2_with fail
          refine (HA.out _).mono ?_
          rintro e wz ⟨rfl, hxz⟩
          go_wp2_with fail
          go_ret
          exact ⟨rfl, hx02.trans hxz⟩
        | true =>
          go_wp2_with fail
          refine (HM3.out _ hx02).mono ?_
          rintro e w3 ⟨rfl, hx3⟩
          have hx03 := hx02.trans hx3
          clear hx02 hx3 HM1 HM2 HM3
          cases q3 with
          | false =>
            go_wp2_with fail
            refine (HA.out _).mono ?_
            rintro e wz ⟨rfl, hxz⟩
            go_wp2_with fail
            go_ret
            exact ⟨rfl, hx03.trans hxz⟩
          | true => exact absurd (by simp) HN.out

end Go.Proofs.YtddooggkcdloeaaGreatDoor
