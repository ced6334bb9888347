/-
  cortegelaw9: alone, JoinEach.
-/
import Derived.Test.YtddooggkcdloeaaGreatDoorEachP
import Derived.Test.YtddooggkcdloeaaGreatDoorPaths9
namespace Go.Proofs.YtddooggkcdloeaaGreatDoor
open Go.RowKit
set_option linter.unusedVariables false
set_option linter.unusedSimpArgs false
attribute [local go_sem] Oper.semAt_some

/-- alone. -/
theorem alone_calls (v : Value) (p : ByteArray) (xs : List File) (S : Fp) (w : World) (hR : Rd EF S w v xs) (hb : xs.length ≤ 1000000) :
    Calls Tryz.prog 26 #[v, .string p] w fun e w' => ∃ r, e = .returned r ∧ New EF 40 w.heap.size w' r (aloneF xs p) ∧ Ext w w' := by
  have hG := Lib.hid (get_calls v p xs S w hR hb)
  have hA : aloneF xs p = if (getF xs p).isSome = true then [⟨p, getD xs p⟩] else [] := rfl
  rw [hA]
  clear hR hb hA
  generalize getD xs p = d at hG ⊢
  generalize (getF xs p).isSome = q at hG ⊢
  go_enter Tryz.func26, Tryz.ntmps26
  go_wp2_with fail
  refine hG.out.mono ?_
  rintro e w1 ⟨rfl, hx1⟩
  clear hG
  cases q with
  | false =>
    go_wp2_with fail
    go_returns
    exact ⟨_, rfl, New.nil _ _ _, hx1⟩
  | true =>
    go_wp2_with fail
    go_returns
    exact ⟨_, rfl, ((New.made (E := EF) w1 40 [⟨p, d⟩] (by simp [maxLen])).less hx1.size), hx1.alloc _⟩

/-- join.Of at one path. -/
theorem ofAlone_calls (v1 v2 v3 : Value) (xs ys zs : List File) (p : ByteArray) (w : World) (hA : RdF w v1 (aloneF xs p)) (hB : RdF w v2 (aloneF ys p)) (hC : RdF w v3 (aloneF zs p)) (hp : p.size ≤ 1000000) :
    Calls Tryz.prog 12 #[v1, v2, v3] w (JoinPost w (joinOf textM (aloneF xs p) (aloneF ys p) (aloneF zs p)).1 (joinOf textM (aloneF xs p) (aloneF ys p) (aloneF zs p)).2) := by
  have hs : ∀ t : List File, ∀ y ∈ aloneF t p, y.path.size ≤ 1000000 := fun t y hy => by
    rw [((aloneF_paths t p y.path).1 (List.mem_map_of_mem hy)).1]; exact hp
  have hl : ∀ t : List File, (aloneF t p).length ≤ 1000 := fun t => Nat.le_trans (aloneF_small t p) (by omega)
  exact joinOf_calls textM v1 v2 v3 _ _ _ _ w hA hB hC (hl _) (hl _) (hl _) (hs _) (hs _) (hs _) (fun _ => gathF_size _ _ (hs _) (hs _) (hs _)) fun h q _ => may3_merge h q

theorem each_size {xs ys zs : List File} (g1 : greatB xs 14 = false) (g2 : greatB ys 14 = false) (g3 : greatB zs 14 = false) : ∀ p ∈ riseT (flatP [xs, ys, zs]), p.size ≤ 1000000 := by
  intro p hp
  have key : ∀ t : List File, greatB t 14 = false → p ∈ t.map File.path → p.size ≤ 1000000 := fun t ht h => by
    obtain ⟨f, hf, e⟩ := List.mem_map.1 h
    rw [← e]
    exact small_path ht f hf
  rcases (mem_flatP3 _ _ _ _).1 hp with h | h | h
  · exact key _ g1 h
  · exact key _ g2 h
  · exact key _ g3 h

set_option maxHeartbeats 2000000 in
set_option maxRecDepth 100000 in
theorem each9_main (v0 v1 v2 : Value) (xs ys zs : List File) (w : World) (hA : RdF w v0 xs) (hB : RdF w v1 ys) (hC : RdF w v2 zs) (hg : great9 xs ys zs = false) (hm : may3 xs ys zs = true) :
    Calls Tryz.prog 7 #[v0, v1, v2] w fun e w' => e = .returned (.bool true) ∧ Ext w w' := by
  obtain ⟨g1, g2, g3⟩ := great9_false hg
  obtain ⟨m1, m2, m3⟩ := (may3_iff _ _ _).1 hm
  have hG := great9_calls v0 v1 v2 xs ys zs w hA hB hC
  rw [hg] at hG
  have hM1 := fun W (hW : Ext w W) => may_calls v0 xs _ W (hA.ext hW) (Nat.le_trans (small_len g1) (by omega)) (small_path g1)
  have hM2 := fun W (hW : Ext w W) => may_calls v1 ys _ W (hB.ext hW) (Nat.le_trans (small_len g2) (by omega)) (small_path g2)
  have hM3 := fun W (hW : Ext w W) => may_calls v2 zs _ W (hC.ext hW) (Nat.le_trans (small_len g3) (by omega)) (small_path g3)
  rw [m1] at hM1
  rw [m2] at hM2
  rw [m3] at hM3
  have hO := fun W (hW : Ext w W) => of9_calls v0 v1 v2 xs ys zs W (hA.ext hW) (hB.ext hW) (hC.ext hW) g1 g2 g3
  have hA1 := fun p W (hW : Ext w W) => alone_calls v0 p xs _ W (hA.ext hW) (Nat.le_trans (small_len g1) (by omega))
  have hA2 := fun p W (hW : Ext w W) => alone_calls v1 p ys _ W (hB.ext hW) (Nat.le_trans (small_len g2) (by omega))
  have hA3 := fun p W (hW : Ext w W) => alone_calls v2 p zs _ W (hC.ext hW) (Nat.le_trans (small_len g3) (by omega))
  have hsum := files9_sum g1 g2 g3
  have hsz := each_size g1 g2 g3
  have hend := each_end hm
  obtain ⟨ps, hps⟩ : ∃ p, riseT (flatP [xs, ys, zs]) = p := ⟨_, rfl⟩
  have hst := fun k hk => cameK_step hm hps (k := k) hk
  have hcl := fun k => cameK_len xs ys zs k (small_len g1) (small_len g2) (small_len g3)
  have hall := fun n (h : ps.length = n) => cameK_all (o := xs) (a := ys) (b := zs) hps h
  have hMC := fun v W (hR : RdF W v (gathF textM (fun _ => noFl) xs ys zs).1) => may_calls v (gathF textM (fun _ => noFl) xs ys zs).1 _ W hR (by have := (gathF_len textM (fun _ => noFl) xs ys zs (small_len g1) (small_len g2) (small_len g3)).1; omega) (gathF_size _ _ (small_path g1) (small_path g2) (small_path g3))
  have hz := cameK_zero xs ys zs
  obtain ⟨A1, c1, rfl, _⟩ := hA.open_
  obtain ⟨A2, c2, rfl, _⟩ := hB.open_
  obtain ⟨A3, c3, rfl, _⟩ := hC.open_
  obtain ⟨n1, hn1⟩ : ∃ n, xs.length = n := ⟨_, rfl⟩
  obtain ⟨n2, hn2⟩ : ∃ n, ys.length = n := ⟨_, rfl⟩
  obtain ⟨n3, hn3⟩ : ∃ n, zs.length = n := ⟨_, rfl⟩
  rw [hn1] at hA
  rw [hn2] at hB
  rw [hn3] at hC
  rw [hn1, hn2, hn3] at hG hO ⊢
  rw [hn1] at hM1 hA1
  rw [hn2] at hM2 hA2
  rw [hn3] at hM3 hA3
  have HP := Lib.hid fun W (hW : Ext w W) => (paths_calls _ _ _ _ _ ((built3 W 22 ⟨A1, n1, c1⟩ ⟨A2, n2, c2⟩ ⟨A3, n3, c3⟩).wide fun _ _ => trivial)
    (.cons (hA.ext (hW.alloc _)) (.cons (hB.ext (hW.alloc _)) (.cons (hC.ext (hW.alloc _)) .nil)) : RdAll (fun _ => True) (W.alloc (.cells #[.slice A1 n1 c1, .slice A2 n2 c2, .slice A3 n3 c3] 22)) [⟨A1, n1, c1⟩, ⟨A2, n2, c2⟩, ⟨A3, n3, c3⟩] [xs, ys, zs]) hsum)
  obtain ⟨jt, hjt⟩ : ∃ t, (joinOf textM xs ys zs).1 = t := ⟨_, rfl⟩
  obtain ⟨jb, hjb⟩ : ∃ t, (joinOf textM xs ys zs).2 = t := ⟨_, rfl⟩
  rw [hjt, hjb] at hO hend
  rw [hjb] at hst
  have hJ := fun v v' v'' p W h1 h2 h3 h4 => ofAlone_calls v v' v'' xs ys zs p W h1 h2 h3 h4
  rw [hps] at hsz
  obtain ⟨cm, hcm⟩ : ∃ c, cameK xs ys zs = c := ⟨_, rfl⟩
  rw [hcm] at hcl hz
  simp only [hcm] at hst hall
  obtain ⟨gf, hgf⟩ : ∃ c, gathF textM (fun _ => noFl) xs ys zs = c := ⟨_, rfl⟩
  rw [hgf] at hend hMC
  simp only [hgf] at hall
  have HG := Lib.hid hG
  have HM1 := Lib.hid hM1
  have HM2 := Lib.hid hM2
  have HM3 := Lib.hid hM3
  have HO := Lib.hid hO
  have HE := Lib.hid hend
  have HST := Lib.hid hst
  have HCL := Lib.hid hcl
  have HAL := Lib.hid hall
  have HMC := Lib.hid hMC
  have HZ := Lib.hid hz
  have HA1 := Lib.hid hA1
  have HA2 := Lib.hid hA2
  have HA3 := Lib.hid hA3
  have HJ := Lib.hid hJ
  have HSZ := Lib.hid hsz
  have HPS := Lib.hid hps
  clear hA hB hC hg hm g1 g2 g3 m1 m2 m3 hG hM1 hM2 hM3 hO hend hst hcl hall hMC hz hA1 hA2 hA3 hJ hsz hsum hn1 hn2 hn3 hjt hjb hps hcm hgf
  go_enter Tryz.func7, Tryz.ntmps7
  go_wp2_with fail
  refine HG.out.mono ?_
  rintro e w0 ⟨rfl, hw0⟩
  subst hw0
  clear HG
  go_wp2_with fail
  refine (HM1.out _ (Kp.refl _ _)).mono ?_
  rintro e w1 ⟨rfl, hx1⟩
  go_wp2_with fail
  refine (HM2.out _ hx1).mono ?_
  rintro e w2 ⟨rfl, hx2⟩
  have hx02 := hx1.trans hx2
  clear hx1 hx2
  go_wp2_with fail
  refine (HM3.out _ hx02).mono ?_
  rintro e w3 ⟨rfl, hx3⟩
  have hx03 := hx02.trans hx3
  clear hx02 hx3 HM1 HM2 HM3
  go_wp2_with fail
  refine (HO.out _ hx03).mono ?_
  rintro e w4 ⟨r, s, rfl, hNr, hNs, hx4⟩
  have hx04 := hx03.trans hx4
  have HR := Lib.hid fun W (hW : Ext w4 W) => (hNr.ext hW).rdF
  have HS := Lib.hid fun W (hW : Ext w4 W) => (hNs.ext hW).rd
  obtain ⟨At, ct, hr⟩ := hNr.sl
  subst hr
  obtain ⟨Ab, cb, hs⟩ := hNs.sl
  subst hs
  clear hNr hNs HO hx03 hx4
  go_wp2_with (go_at_call 22; refine stop ?_)
  refine (HP.out w4 hx04).mono ?_
  clear HP
  rintro e w5 ⟨u, rfl, hN5, hx5'⟩
  have hx45 := ((Kp.refl All w4).alloc (.cells #[.slice A1 n1 c1, .slice A2 n2 c2, .slice A3 n3 c3] 22)).trans hx5'
  have hx05 := hx04.trans hx45
  rw [pathsF_rise, HPS.out] at hN5
  obtain ⟨Ap, cp, hu⟩ := hN5.sl
  subst hu
  obtain ⟨Ap', cp', hup, hOp⟩ := hN5.rd.open_
  injection hup with e1 _ e2
  subst e1 e2
  have hple := hOp.le
  have hpmx := hOp.max
  obtain ⟨np, hnp⟩ : ∃ p, ps.length = p := ⟨_, rfl⟩
  have HOP := Lib.hid fun W (hW : Ext w5 W) => hOp.kp (hW.mono fun _ _ _ => trivial)
  obtain ⟨nb, hnb⟩ : ∃ p, jb.length = p := ⟨_, rfl⟩
  obtain ⟨nt, hnt⟩ : ∃ p, jt.length = p := ⟨_, rfl⟩
  rw [hnp] at hple ⊢
  have HNP := Lib.hid hnp
  have HNB := Lib.hid hnb
  have HNT := Lib.hid hnt
  rw [hnb] at HS ⊢
  rw [hnt] at HR ⊢
  have HH := Lib.hid fun p W (hW : Ext w5 W) => has_calls _ p _ _ W (HS.out W (hx45.trans hW))
  clear hN5 hx5' hnp hnb hnt hOp
  go_wp2_with fail
  go_loopw [10, 11, 12] (fun o q i wr => ∃ k : Nat, k ≤ np ∧ i = .int .i64 k ∧ New EF 40 w5.heap.size wr o (cm k).1 ∧ q = .bool (!(cm k).2.isEmpty) ∧ Ext w5 wr) (fun _ _ i _ => np - (intOf i).toNat)
  case atStart => exact ⟨0, Nat.zero_le _, rfl, by rw [HZ.out]; exact New.nil _ _ _, by rw [HZ.out]; rfl, Kp.refl _ _⟩
  case round =>
    obtain ⟨k, hk, rfl, hNo, rfl, hx⟩ := hrel
    rename World => wo
    by_cases hlk : k < np
    · have hd : decide ((k : Int) < (np : Int)) = true := decide_eq_true (by omega)
      have hkp : k < ps.length := by have := HNP.out; omega
      obtain ⟨b, off, hAp, _, _, c0⟩ := (HOP.out wo hx).rd.text hkp
      subst hAp
      have hstep := HST.out k hkp
      have hpsz := HSZ.out ps[k] (List.getElem_mem hkp)
      have HCELL : Hid (∀ W, Ext wo W → W.cell? ⟨b, off + k, none⟩ = some (.string ps[k])) := Lib.hid fun W hW => by
        obtain ⟨b', off', hA, _, _, d0⟩ := (HOP.out W (hx.trans hW)).rd.text hkp
        injection hA with hA
        injection hA with e1 e2
        subst e1 e2
        exact d0
      have HSUB : Hid (∀ W, Ext wo W → Rd ES (fun _ => True) W (sliced (some ⟨b, off, none⟩) k (k + 1) cp 1) [ps[k]]) := Lib.hid fun W hW => by
        have h := (HOP.out W (hx.trans hW)).midRd (i := k) (j := k + 1) (by omega) (by have := HNP.out; omega)
        have e : sub ps k (k + 1) = [ps[k]] := by
          unfold sub
          rw [List.drop_eq_getElem_cons hkp, show k + 1 - k = 1 by omega]
          rfl
        rw [e] at h
        exact h.wide fun _ _ => trivial
      obtain ⟨p, hp⟩ : ∃ p, ps[k] = p := ⟨_, rfl⟩
      rw [hp] at c0 hpsz HCELL HSUB
      simp only [hp] at hstep
      obtain ⟨Ao, no, co, hvo⟩ := hNo.1.slice
      subst hvo
      have hcl := HCL.out k
      obtain ⟨ck, hck⟩ : ∃ c, cm k = c := ⟨_, rfl⟩
      rw [hck] at hNo hcl hstep ⊢
      have HCK := Lib.hid hcl
      have hlt' : (k : Int) < (np : Int) := by omega
      have h0 : (0 : Int) ≤ (k : Int) := by omega
      have hw : IntKind.i64.wrap ((k : Int) + 1) = (k : Int) + 1 := IntWalk.i64_in _ (by omega)
      have hesz : Tryz.prog.elem 26 = 9 := by kernel_rfl
      have SL : ∀ W, (Instr.slice 26 (.slice (some ⟨b, off, none⟩) np cp) (some (.int .i64 k)) (some (.int .i64 ((k : Int) + 1))) none).run Tryz.prog W = .ok (sliced (some ⟨b, off, none⟩) k (k + 1) cp 1) W := fun W => by
        rw [run_slice_lh _ _ _ _ _ (by kernel_rfl) .i64 .i64 _ _ (by omega) (by omega) (by omega), hesz, Tryz.sizeOf9]; rfl
      obtain ⟨sl, hsl⟩ : ∃ q, sliced (some ⟨b, off, none⟩) k (k + 1) cp 1 = q := ⟨_, rfl⟩
      rw [hsl] at SL HSUB
      have hxo := hx05.trans hx
      have B1 := Lib.hid fun W (hW : Ext wo W) => (HA1.out p W (hxo.trans hW)).mono fun e W' h => show (∃ r, e = .returned r ∧ RdF W' r (aloneF xs p)) ∧ Ext wo W' ∧ Ext W W' from by obtain ⟨r, he, hN, hz⟩ := h; exact ⟨⟨r, he, hN.rdF⟩, hW.trans hz, hz⟩
      have B2 := Lib.hid fun W (hW : Ext wo W) => (HA2.out p W (hxo.trans hW)).mono fun e W' h => show (∃ r, e = .returned r ∧ RdF W' r (aloneF ys p)) ∧ Ext wo W' ∧ Ext W W' from by obtain ⟨r, he, hN, hz⟩ := h; exact ⟨⟨r, he, hN.rdF⟩, hW.trans hz, hz⟩
      have B3 := Lib.hid fun W (hW : Ext wo W) => (HA3.out p W (hxo.trans hW)).mono fun e W' h => show (∃ r, e = .returned r ∧ RdF W' r (aloneF zs p)) ∧ Ext wo W' ∧ Ext W W' from by obtain ⟨r, he, hN, hz⟩ := h; exact ⟨⟨r, he, hN.rdF⟩, hW.trans hz, hz⟩
      obtain ⟨jr, hjr⟩ : ∃ c, joinOf textM (aloneF xs p) (aloneF ys p) (aloneF zs p) = c := ⟨_, rfl⟩
      have hJp := fun v v' v'' W h1 h2 h3 => HJ.out v v' v'' p W h1 h2 h3 hpsz
      rw [hjr] at hstep hJp
      have BJ := Lib.hid fun v v' v'' W (hW : Ext wo W) h1 h2 h3 => (hJp v v' v'' W h1 h2 h3).mono fun e W' h => show (∃ r s, e = .returned (.tuple #[r, s]) ∧ New EF 40 W.heap.size W' r jr.1 ∧ New ES 9 W.heap.size W' s jr.2) ∧ Ext wo W' from by obtain ⟨r, s, he, hN, hN', hz⟩ := h; exact ⟨⟨r, s, he, hN, hN'⟩, hW.trans hz⟩
      have BH := Lib.hid fun W (hW : Ext wo W) => HH.out p W (hx.trans hW)
      have hN0 := Lib.hid fun W (hW : Ext wo W) => hNo.ext hW
      have hbp : Hid (wo.heap.size = wo.heap.size) := Lib.hid rfl
      have HSTEP := Lib.hid hstep
      clear hstep hJp hjr hesz
      clear HST HSZ HA1 HA2 HA3 HJ HH HAL HMC HE HR HS hcl hsl hck hNo hpsz hple hpmx
      go_wp2_with fail
      go_region_held3 (fun w' => w'.cell? ⟨b, off + k, none⟩ = some (.string p))
        (first | exact HCELL.out _ hxJ | exact HCELL.out _ hzC | exact HCELL.out _ hzB | exact HCELL.out _ hzA | exact HCELL.out _ ((Kp.refl _ wo).drew) | fail)
        (first
          | (go_at_call 26; ((with_reducible refine Calls.mono (B1.out _ ?_) ?_)); (exact (Kp.refl _ wo).drew); rintro e wA ⟨⟨rA, rfl, hRA⟩, hzA, hyA⟩)
          | (go_at_call 26; ((with_reducible refine Calls.mono (B2.out _ ?_) ?_)); (exact hzA); rintro e wB ⟨⟨rB, rfl, hRB⟩, hzB, hyB⟩)
          | (go_at_call 26; ((with_reducible refine Calls.mono (B3.out _ ?_) ?_)); (exact hzB); rintro e wC ⟨⟨rC, rfl, hRC⟩, hzC, hyC⟩)
          | (go_at_call 12; ((with_reducible refine Calls.mono (BJ.out _ _ _ _ ?_ ?_ ?_ ?_) ?_)); (exact hzC); (exact (hRA.ext hyB).ext hyC); (exact hRB.ext hyC); (exact hRC); rintro e wJ ⟨⟨rJ, sJ, rfl, hNJ, hMJ⟩, hxJ⟩)
          | fail)
      have hx5J := hx.trans hxJ
      have hNo2 := hN0.out wJ hxJ
      obtain ⟨AJ, cJ, hrJ⟩ := hNJ.sl
      subst hrJ
      obtain ⟨BJ2, dJ, hsJ⟩ := hMJ.sl
      subst hsJ
      clear B1 B2 B3 BJ hN0 hRA hRB hRC hyB hyC hyA hzA hzB hzC
      rcases HSTEP.out with ⟨hj, hc1, hc2, hhas⟩ | ⟨x, hj, hxl, hc1, hc2⟩
      · subst hj
        have hc2' : (!(cm (k + 1)).2.isEmpty) = true := by
          cases h : (cm (k + 1)).2 with
          | nil => exact absurd h hc2
          | cons _ _ => rfl
        have HC1 := Lib.hid hc1
        have HC2 := Lib.hid hc2'
        have hRx : RdF wJ (.slice AJ 0 cJ) ([] : List File) := hNJ.rdF
        have hMx : Rd ES (fun k => wC.heap.size ≤ k) wJ (.slice BJ2 1 dJ) [p] := hMJ.rd
        replace hMx := Lib.hid hMx
        replace hRx := Lib.hid hRx
        rw [hhas] at BH
        clear hc1 hc2 hc2' hNJ hMJ HSTEP hhas
        dsimp only [List.length_nil, List.length_cons, Nat.zero_add]
        go_wp2_with fail
        refine (sameTexts_calls _ _ [p] _ _ _ hMx.out (HSUB.out wJ hxJ)).mono ?_
        rintro e wK ⟨rfl, hzK⟩
        have cK := HCELL.out wK (hxJ.trans hzK)
        go_wp2_with fail
        refine (BH.out wK (hxJ.trans hzK)).mono ?_
        rintro e wL ⟨rfl, hwL⟩
        subst hwL
        have hx5K := hx5J.trans hzK
        have hNo3 := hNo2.ext hzK
        have hRx3 := Lib.hid (hRx.out.ext hzK)
        clear hMx hRx hNo2 hx5J
        go_wp2_with (at_builtin; refine stop ?_)
        refine list_appendNk (w0 := w5) tiF rfl rfl hNo3 hx5K hRx3.out rfl rfl (by have := HCK.out; simp; omega) (by have := HCK.out; unfold maxLen; simp; omega) ?_
        intro v4 w4' hN4 hx4 hk4 hg4
        rw [List.append_nil, ← HC1.out] at hN4
        go_wp2_with fail
        go_roundw
        case rel => exact ⟨k + 1, by omega, by go_num, hN4, by rw [HC2.out], hx4⟩
        case measure => simp [intOf]; omega
      · subst hj
        have HC1 := Lib.hid hc1
        have HC2 := Lib.hid hc2
        have HXL := Lib.hid hxl
        have hRx := Lib.hid hNJ.rdF
        clear hc1 hc2 hNJ hMJ HSTEP hxl BH HSUB
        dsimp only [List.length_nil]
        go_wp2_with (at_builtin; refine stop ?_)
        refine list_appendNk (w0 := w5) tiF rfl rfl hNo2 hx5J hRx.out rfl rfl (by have := HCK.out; have := HXL.out; omega) (by have := HCK.out; have := HXL.out; unfold maxLen; omega) ?_
        intro v4 w4' hN4 hx4 hk4 hg4
        have hN5 : New EF 40 w5.heap.size w4' v4 (cm (k + 1)).1 := by rw [HC1.out]; exact hN4
        go_wp2_with fail
        go_roundw
        case rel => exact ⟨k + 1, by omega, by go_num, hN5, by rw [HC2.out], hx4⟩
        case measure => simp [intOf]; omega
    · have hd : decide ((k : Int) < (np : Int)) = false := decide_eq_false (by omega)
      have hdn : decide (k < np) = false := decide_eq_false (by omega)
      obtain ⟨Ao, no, co, hvo⟩ := hNo.1.slice
      subst hvo
      have hkn : ps.length = k := by have := HNP.out; omega
      have hal := HAL.out k hkn
      rw [hal] at hNo ⊢
      have hxo := hx05.trans hx
      have hRt := Lib.hid (HR.out wo (hx45.trans hx))
      have hRc := Lib.hid hNo.rdF
      have HEE := HE.out
      clear HST HSZ HA1 HA2 HA3 HJ HH HAL HCL HZ HR HS hkn hal hx45 hx05 hx HE hple hpmx HOP HNP hk hlk hNo
      rcases HEE with ⟨e1, e2, e3⟩ | ⟨e1, e2, e3⟩
      · have hn0 : nb = 0 := by rw [← HNB.out, e1]; rfl
        subst hn0
        have hRc2 : Hid (RdF wo (.slice Ao no co) jt) := Lib.hid (by rw [← e3]; exact hRc.out)
        have hq : (!gf.2.isEmpty) = false := by rw [e2]; rfl
        rw [hq]
        clear e1 e2 e3 hq hRc HNB HMC
        go_wp2_with fail
        refine (sameFiles_calls _ _ jt jt _ _ _ hRc2.out (by have := hRt.out; exact this)).mono ?_
        rintro e wa ⟨rfl, hza⟩
        rw [sameB_refl]
        go_wp2_with fail
        refine (awake9_calls _).mono ?_
        rintro e wz ⟨rfl, hzz⟩
        go_wp2_with fail
        go_ret
        exact ⟨rfl, (hxo.trans hza).trans hzz⟩
      · have hnb0 : 0 < nb := by
          rw [← HNB.out]
          exact List.length_pos_iff.2 e1
        have hn0 : nt = 0 := by rw [← HNT.out, e2]; rfl
        subst hn0
        have hz1 : ¬ nb = 0 := by omega
        have hz4 : (nb == 0) = false := by rw [beq_eq_false_iff_ne]; omega
        have hz2 : decide ((nb : Int) = 0) = false := decide_eq_false (by omega)
        have hz3 : ((nb : Int) == 0) = false := by rw [beq_eq_false_iff_ne]; omega
        cases hq : gf.2.isEmpty with
        | false =>
          clear e1 e2 e3 HMC hRc hRt HNB HNT hq
          go_wp2_with fail
          refine (awake9_calls _).mono ?_
          rintro e wz ⟨rfl, hzz⟩
          go_wp2_with fail
          go_ret
          exact ⟨rfl, hxo.trans hzz⟩
        | true =>
          have hmay := e3 (List.isEmpty_iff.1 hq)
          rw [hmay] at HMC
          clear e1 e2 e3 HNB HNT hq hRt
          go_wp2_with fail
          refine (HMC.out _ _ hRc.out).mono ?_
          rintro e wa ⟨rfl, hza⟩
          go_wp2_with fail
          refine (awake9_calls _).mono ?_
          rintro e wz ⟨rfl, hzz⟩
          go_wp2_with fail
          go_ret
          exact ⟨rfl, (hxo.trans hza).trans hzz⟩

set_option maxHeartbeats 1000000 in
set_option maxRecDepth 100000 in
theorem each9_calls (v0 v1 v2 : Value) (xs ys zs : List File) (w : World) (hA : RdF w v0 xs) (hB : RdF w v1 ys) (hC : RdF w v2 zs) :
    Calls Tryz.prog 7 #[v0, v1, v2] w fun e w' => e = .returned (.bool true) ∧ Ext w w' := by
  have hG := great9_calls v0 v1 v2 xs ys zs w hA hB hC
  have HA := Lib.hid awake9_calls
  cases hg : great9 xs ys zs with
  | true =>
    rw [hg] at hG
    have HG := Lib.hid hG
    clear hG hA hB hC hg
    go_enter Tryz.func7, Tryz.ntmps7
    go_wp2_with fail
    refine HG.out.mono ?_
    rintro e w0 ⟨rfl, hw0⟩
    subst hw0
    clear HG
    go_wp2_with fail
    refine (HA.out _).mono ?_
    rintro e w1 ⟨rfl, hx1⟩
    go_wp2_with fail
    go_ret
    exact ⟨rfl, hx1⟩
  | false =>
    by_cases hm : may3 xs ys zs = true
    · exact each9_main v0 v1 v2 xs ys zs w hA hB hC hg hm
    · obtain ⟨g1, g2, g3⟩ := great9_false hg
      rw [hg] at hG
      have hM1 := fun W (hW : Ext w W) => may_calls v0 xs _ W (hA.ext hW) (Nat.le_trans (small_len g1) (by omega)) (small_path g1)
      have hM2 := fun W (hW : Ext w W) => may_calls v1 ys _ W (hB.ext hW) (Nat.le_trans (small_len g2) (by omega)) (small_path g2)
      have hM3 := fun W (hW : Ext w W) => may_calls v2 zs _ W (hC.ext hW) (Nat.le_trans (small_len g3) (by omega)) (small_path g3)
      rw [may3_iff] at hm
      have HG := Lib.hid hG
      have HM1 := Lib.hid hM1
      have HM2 := Lib.hid hM2
      have HM3 := Lib.hid hM3
      have HN := Lib.hid hm
      clear hG hM1 hM2 hM3 hm hg g1 g2 g3 hA hB hC
      generalize mayB xs = q1 at *
      generalize mayB ys = q2 at *
      generalize mayB zs = q3 at *
      go_enter Tryz.func7, Tryz.ntmps7
      go_wp2_with fail
      refine HG.out.mono ?_
      rintro e w0 ⟨rfl, hw0⟩
      subst hw0
      clear HG
      go_wp2_with fail
      refine (HM1.out _ (Kp.refl _ _)).mono ?_
      rintro e w1 ⟨rfl, hx1⟩
      cases q1 with
      | false =>
        clear HM1 HM2 HM3
        go_wp2_with fail
        refine (HA.out _).mono ?_
        rintro e wz ⟨rfl, hxz⟩
        go_wp2_with fail
        go_ret
        exact ⟨rfl, hx1.trans hxz⟩
      | true =>
        go_wp2_with fail
        refine (HM2.out _ hx1).mono ?_
        rintro e w2 ⟨rfl, hx2⟩
        have hx02 := hx1.trans hx2
        clear hx1 hx2
        cases q2 with
        | false =>
          clear HM1 HM2 HM3
          go_wp2_with fail
          refine (HA.out _).mono ?_
          rintro e wz ⟨rfl, hxz⟩
          go_wp2_with fail
          go_ret
          exact ⟨rfl, hx02.trans hxz⟩
        | true =>
          go_wp2_with fail
          refine (HM3.out _ hx02).mono ?_
          rintro e w3 ⟨rfl, hx3⟩
          have hx03 := hx02.trans hx3
          clear hx02 hx3 HM1 HM2 HM3
          cases q3 with
          | false =>
            go_wp2_with fail
            refine (HA.out _).mono ?_
            rintro e wz ⟨rfl, hxz⟩
            go_wp2_with fail
            go_ret
            exact ⟨rfl, hx03.trans hxz⟩
          | true => exact absurd (by simp) HN.out

end Go.Proofs.YtddooggkcdloeaaGreatDoor
