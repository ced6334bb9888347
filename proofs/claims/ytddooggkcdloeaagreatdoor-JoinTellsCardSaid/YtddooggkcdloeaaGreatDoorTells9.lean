/-
  cortegelaw9.JoinTells.
-/
import Derived.Test.YtddooggkcdloeaaGreatDoorR9d
import Derived.Test.YtddooggkcdloeaaGreatDoorLend
import Derived.Test.YtddooggkcdloeaaGreatDoorSameX
namespace Go.Proofs.YtddooggkcdloeaaGreatDoor
open Go.RowKit
set_option linter.unusedVariables false
set_option linter.unusedSimpArgs false
attribute [local go_sem] Oper.semAt_some

theorem own_apart {α β : Type} {E : El α} {F : El β} {t u : TypeId} {w : World} {v v' : Value} {xs : List α} {ys : List β} (h : Own E t w v xs) (h' : Own F u w v' ys) (htu : t ≠ u) : ∀ g, v.ownBlock = some g → v'.ownBlock ≠ some g := by
  intro g hg hg'
  rcases h.2 with ⟨rfl, _⟩ | ⟨g1, c1, r1, rfl, _, e1, _⟩
  · cases hg
  · rcases h'.2 with ⟨rfl, _⟩ | ⟨g2, c2, r2, rfl, _, e2, _⟩
    · cases hg'
    · injection hg with hg
      injection hg' with hg'
      dsimp only at hg hg'
      subst hg
      subst hg'
      rw [e1] at e2
      injection e2 with e2
      injection e2 with _ e2
      exact htu e2
theorem gathF_len14 (m : Mrg) (oth : Fl → Fl) (o a b : List File) (h1 : o.length ≤ 14) (h2 : a.length ≤ 14) (h3 : b.length ≤ 14) : (gathF m oth o a b).1.length ≤ 42 ∧ (gathF m oth o a b).2.length ≤ 42 := by
  have h := gathL_len m oth o a b (riseT (flatP [o, a, b]))
  have hr := riseT_length (flatP [o, a, b])
  have hf : (flatP [o, a, b]).length = o.length + (a.length + b.length) := by unfold flatP; simp
  unfold gathF
  omega
theorem joinOf_len (o a b : List File) (h1 : o.length ≤ 14) (h2 : a.length ≤ 14) (h3 : b.length ≤ 14) : (joinOf textM o a b).1.length ≤ 100 ∧ (joinOf textM o a b).2.length ≤ 100 := by
  cases hm : may3 o a b with
  | false => rw [joinOf_false hm]; exact ⟨Nat.zero_le _, by decide⟩
  | true =>
    have hg := gathF_len14 textM (fun _ => noFl) o a b h1 h2 h3
    have hu := underF_len (gathF textM (fun _ => noFl) o a b).1
    have hb : (badF' (gathF textM (fun _ => noFl) o a b)).length ≤ 100 := by
      unfold badF'
      rw [List.length_append, List.length_append]
      have := if_one (12 < (gathF textM (fun _ => noFl) o a b).1.length) bStar
      omega
    have hr := riseT_length (badF' (gathF textM (fun _ => noFl) o a b))
    rw [joinOf_true hm]
    split
    · exact ⟨Nat.zero_le _, Nat.le_trans hr hb⟩
    · exact ⟨by dsimp only; omega, Nat.zero_le _⟩

set_option maxHeartbeats 4000000 in
set_option maxRecDepth 100000 in
theorem tells9_main (v0 v1 v2 : Value) (xs ys zs : List File) (w : World) (hA : RdF w v0 xs) (hB : RdF w v1 ys) (hC : RdF w v2 zs) (hg : great9 xs ys zs = false) :
    Calls Tryz.prog 3 #[v0, v1, v2] w fun e w' => e = .returned (.bool true) ∧ Ext w w' := by
  obtain ⟨g1, g2, g3⟩ := great9_false hg
  have hG := great9_calls v0 v1 v2 xs ys zs w hA hB hC
  rw [hg] at hG
  have b1 := (greatB_false g1).1
  have b2 := (greatB_false g2).1
  have b3 := (greatB_false g3).1
  have hLn1 := fun W (hW : Ext w W) => lendFiles_calls v0 xs _ W (hA.ext hW) (by omega)
  have hLn2 := fun W (hW : Ext w W) => lendFiles_calls v1 ys _ W (hB.ext hW) (by omega)
  have hLn3 := fun W (hW : Ext w W) => lendFiles_calls v2 zs _ W (hC.ext hW) (by omega)
  have hO := fun u0 u1 u2 W h0 h1 h2 => of9_calls u0 u1 u2 xs ys zs W h0 h1 h2 g1 g2 g3
  have hV := fun u0 u1 u2 W h0 h1 h2 => virt9_calls u0 u1 u2 xs ys zs W h0 h1 h2 g1 g2 g3
  have hRO := fun W (hW : Ext w W) => refOf_calls v0 v1 v2 xs ys zs _ W (hA.ext hW) (hB.ext hW) (hC.ext hW) (small_len g1) (small_len g2) (small_len g3) (small_path g1) (small_path g2) (small_path g3)
  have hRV := fun W (hW : Ext w W) => refVirt_calls v0 v1 v2 xs ys zs _ W (hA.ext hW) (hB.ext hW) (hC.ext hW) (small_len g1) (small_len g2) (small_len g3) (small_path g1) (small_path g2) (small_path g3)
  have hjl := joinOf_len xs ys zs b1 b2 b3
  have hvl : (virtOf textM xs ys zs).length ≤ 12 := ((mayB_iff _).1 (virtOf_tree xs ys zs)).few
  have hK1 := fun g W (hL : LentF W g xs) (hW : Ext w W) => keptFiles_calls g v0 xs xs _ W hL (hA.ext hW)
  have hK2 := fun g W (hL : LentF W g ys) (hW : Ext w W) => keptFiles_calls g v1 ys ys _ W hL (hB.ext hW)
  have hK3 := fun g W (hL : LentF W g zs) (hW : Ext w W) => keptFiles_calls g v2 zs zs _ W hL (hC.ext hW)
  simp only [sameB_refl] at hK1 hK2 hK3
  have c1' : xs.length ≤ 1000 := by omega
  have c2' : ys.length ≤ 1000 := by omega
  have c3' : zs.length ≤ 1000 := by omega
  obtain ⟨A1, c1, rfl, _⟩ := hA.open_
  obtain ⟨A2, c2, rfl, _⟩ := hB.open_
  obtain ⟨A3, c3, rfl, _⟩ := hC.open_
  have hr1 := fun W g (hL : LentF W g xs) => hL.rd.wide (T := fun _ => True) fun _ _ => trivial
  have hr2 := fun W g (hL : LentF W g ys) => hL.rd.wide (T := fun _ => True) fun _ _ => trivial
  have hr3 := fun W g (hL : LentF W g zs) => hL.rd.wide (T := fun _ => True) fun _ _ => trivial
  have hO2 := fun l0 l1 l2 W (h0 : LentF W l0 xs) (h1 : LentF W l1 ys) (h2 : LentF W l2 zs) => hO _ _ _ W (hr1 W l0 h0) (hr2 W l1 h1) (hr3 W l2 h2)
  have hV2 := fun l0 l1 l2 W (h0 : LentF W l0 xs) (h1 : LentF W l1 ys) (h2 : LentF W l2 zs) => hV _ _ _ W (hr1 W l0 h0) (hr2 W l1 h1) (hr3 W l2 h2)
  have hLm1 := fun W g (hb : Blk W g 40 (EF.flat (xs ++ marksF)).toArray) => show LentF W g xs from ⟨hb, c1'⟩
  have hLm2 := fun W g (hb : Blk W g 40 (EF.flat (ys ++ marksF)).toArray) => show LentF W g ys from ⟨hb, c2'⟩
  have hLm3 := fun W g (hb : Blk W g 40 (EF.flat (zs ++ marksF)).toArray) => show LentF W g zs from ⟨hb, c3'⟩
  obtain ⟨n1, hn1⟩ : ∃ n, xs.length = n := ⟨_, rfl⟩
  obtain ⟨n2, hn2⟩ : ∃ n, ys.length = n := ⟨_, rfl⟩
  obtain ⟨n3, hn3⟩ : ∃ n, zs.length = n := ⟨_, rfl⟩
  rw [hn1] at hLn1 hK1
  rw [hn2] at hLn2 hK2
  rw [hn3] at hLn3 hK3
  rw [hn1, hn2, hn3] at hG hRO hRV hO2 hV2 ⊢
  obtain ⟨jt, hjt⟩ : ∃ t, (joinOf textM xs ys zs).1 = t := ⟨_, rfl⟩
  obtain ⟨jb, hjb⟩ : ∃ t, (joinOf textM xs ys zs).2 = t := ⟨_, rfl⟩
  obtain ⟨jv, hjv⟩ : ∃ t, virtOf textM xs ys zs = t := ⟨_, rfl⟩
  rw [hjt, hjb] at hO2 hRO hjl
  rw [hjv] at hV2 hRV hvl
  have HG := Lib.hid hG
  have L1 := Lib.hid hLn1
  have L2 := Lib.hid hLn2
  have L3 := Lib.hid hLn3
  have HO := Lib.hid hO2
  have HV := Lib.hid hV2
  have HRO := Lib.hid hRO
  have HRV := Lib.hid hRV
  have HJL := Lib.hid hjl
  have HVL := Lib.hid hvl
  have K1 := Lib.hid hK1
  have K2 := Lib.hid hK2
  have K3 := Lib.hid hK3
  have LM1 := Lib.hid hLm1
  have LM2 := Lib.hid hLm2
  have LM3 := Lib.hid hLm3
  clear hA hB hC hg g1 g2 g3 hG b1 b2 b3 hLn1 hLn2 hLn3 hO hV hRO hRV hjl hvl hK1 hK2 hK3 c1' c2' c3' hr1 hr2 hr3 hO2 hV2 hLm1 hLm2 hLm3 hn1 hn2 hn3 hjt hjb hjv
  go_enter Tryz.func3, Tryz.ntmps3
  go_wp2_with fail
  refine HG.out.mono ?_
  rintro e w0 ⟨rfl, hw0⟩
  subst hw0
  clear HG
  go_wp2_with fail
  refine (L1.out w (Kp.refl _ _)).mono ?_
  rintro e w1 ⟨l1, rfl, hl1, hB1, hx1⟩
  have hm1 := LM1.out _ _ hB1
  clear hB1 L1
  go_wp2_with fail
  refine (L2.out w1 hx1).mono ?_
  rintro e w2 ⟨l2, rfl, hl2, hB2, hy⟩
  have hm2 := LM2.out _ _ hB2
  replace hm1 := hm1.kp hy trivial
  replace hx1 := hx1.trans hy
  clear hB2 L2 hy
  go_wp2_with fail
  refine (L3.out w2 hx1).mono ?_
  rintro e w3 ⟨l3, rfl, hl3, hB3, hy⟩
  have hm3 := LM3.out _ _ hB3
  replace hm1 := hm1.kp hy trivial
  replace hm2 := hm2.kp hy trivial
  have hx3 := hx1.trans hy
  clear hB3 L3 hy hx1 LM1 LM2 LM3 hl1 hl2 hl3
  have M1 := Lib.hid fun W (hW : Ext w3 W) => hm1.kp hW trivial
  have M2 := Lib.hid fun W (hW : Ext w3 W) => hm2.kp hW trivial
  have M3 := Lib.hid fun W (hW : Ext w3 W) => hm3.kp hW trivial
  clear hm1 hm2 hm3
  go_wp2_with fail
  refine (HO.out l1 l2 l3 w3 (M1.out _ (Kp.refl _ _)) (M2.out _ (Kp.refl _ _)) (M3.out _ (Kp.refl _ _))).mono ?_
  rintro e w4 ⟨r, s, rfl, hNr, hNs, hy⟩
  have hTA := own_apart hNr.1 hNs.1 (by decide)
  obtain ⟨At, ct, hr⟩ := hNr.sl
  subst hr
  obtain ⟨Ab, cb, hs⟩ := hNs.sl
  subst hs
  have hk := Lib.hid hy
  clear hy HO
  go_wp2_with fail
  refine (HRO.out w4 (hx3.trans hk.out)).mono ?_
  rintro e w5 ⟨u, s2, rfl, hNu, hNw, hy⟩
  replace hNr := hNr.ext hy
  replace hNs := hNs.ext hy
  replace hk := Lib.hid (hk.out.trans hy)
  have RU := Lib.hid fun W (hW : Ext w5 W) => (hNu.ext hW).rdF
  have RW := Lib.hid fun W (hW : Ext w5 W) => (hNw.ext hW).rd
  obtain ⟨Au, cu, hu⟩ := hNu.sl
  subst hu
  obtain ⟨Aw, cw, hw⟩ := hNw.sl
  subst hw
  clear hy HRO hNu hNw
  go_wp2_with fail
  refine (HV.out l1 l2 l3 w5 (M1.out _ hk.out) (M2.out _ hk.out) (M3.out _ hk.out)).mono ?_
  rintro e w6 ⟨v, rfl, hNv, hy⟩
  have hTV : ∀ g, Value.ownBlock (.slice At jt.length ct) = some g → v.ownBlock ≠ some g := fun g h1 h2 => by have := hNr.1.lt h1; have := hNv.2 g h2; omega
  have hBV : ∀ g, Value.ownBlock (.slice Ab jb.length cb) = some g → v.ownBlock ≠ some g := fun g h1 h2 => by have := hNs.1.lt h1; have := hNv.2 g h2; omega
  have hv3 : ∀ g, v.ownBlock = some g → w3.heap.size ≤ g := fun g h => Nat.le_trans hk.out.size (hNv.2 g h)
  replace hNr := hNr.ext hy
  replace hNs := hNs.ext hy
  replace hk := Lib.hid (hk.out.trans hy)
  have h56 := Lib.hid hy
  obtain ⟨Av, cv, hv⟩ := hNv.sl
  subst hv
  clear hy HV
  go_wp2_with fail
  refine (sameFiles_calls _ _ jt jt _ _ _ hNr.rdF (RU.out _ h56.out)).mono ?_
  rintro e w7 ⟨rfl, hy⟩
  rw [sameB_refl]
  replace hNr := hNr.ext hy
  replace hNs := hNs.ext hy
  replace hNv := hNv.ext hy
  replace hk := Lib.hid (hk.out.trans hy)
  replace h56 := Lib.hid (h56.out.trans hy)
  clear hy RU
  go_wp2_with fail
  refine (sameTexts_calls _ _ jb _ _ _ hNs.rd (RW.out _ h56.out)).mono ?_
  rintro e w8 ⟨rfl, hy⟩
  replace hNr := hNr.ext hy
  replace hNs := hNs.ext hy
  replace hNv := hNv.ext hy
  replace hk := Lib.hid (hk.out.trans hy)
  clear hy RW h56
  go_wp2_with fail
  refine (HRV.out w8 (hx3.trans hk.out)).mono ?_
  rintro e w9 ⟨x, rfl, hNx, hy⟩
  replace hNr := hNr.ext hy
  replace hNs := hNs.ext hy
  replace hNv := hNv.ext hy
  replace hk := Lib.hid (hk.out.trans hy)
  have hRx := Lib.hid hNx.rdF
  obtain ⟨Ax, cx, hxx⟩ := hNx.sl
  subst hxx
  clear hy HRV hNx
  go_wp2_with fail
  refine (sameFiles_calls _ _ jv jv _ _ _ hNv.rdF hRx.out).mono ?_
  rintro e w10 ⟨rfl, hy⟩
  rw [sameB_refl]
  replace hNr := hNr.ext hy
  replace hNs := hNs.ext hy
  replace hNv := hNv.ext hy
  replace hk := Lib.hid (hk.out.trans hy)
  clear hy hRx
  go_wp2_with fail
  refine (overFiles_calls _ jt w10 hNr.1 (by have := HJL.out.1; omega)).mono ?_
  rintro e w11 ⟨⟨x1, rfl⟩, hko⟩
  replace hNs := hNs.kp hko fun g hg e => hTA g e hg
  replace hNv := hNv.kp hko fun g hg e => hTV g e hg
  replace hk := Lib.hid (hk.out.trans' hko fun k hk _ e => by have := hNr.2 k e; omega)
  clear hko hTA hTV
  go_wp2_with fail
  refine (overTexts_calls _ jb w11 hNs.1 (by have := HJL.out.2; omega)).mono ?_
  rintro e w12 ⟨⟨x2, rfl⟩, hko⟩
  replace hNv := hNv.kp hko fun g hg e => hBV g e hg
  replace hk := Lib.hid (hk.out.trans' hko fun k hk _ e => by have := hNs.2 k e; omega)
  clear hko hBV
  go_wp2_with fail
  refine (overFiles_calls _ jv w12 hNv.1 (by have := HVL.out; omega)).mono ?_
  rintro e w13 ⟨⟨x3, rfl⟩, hko⟩
  replace hk := Lib.hid (hk.out.trans' hko fun k hk _ e => by have := hv3 k e; omega)
  clear hko hv3 hNr hNs hNv HJL HVL
  go_wp2_with fail
  refine (K1.out l1 w13 (M1.out _ hk.out) (hx3.trans hk.out)).mono ?_
  rintro e w14 ⟨rfl, hy⟩
  replace hk := Lib.hid (hk.out.trans hy)
  clear hy K1
  go_wp2_with fail
  refine (K2.out l2 w14 (M2.out _ hk.out) (hx3.trans hk.out)).mono ?_
  rintro e w15 ⟨rfl, hy⟩
  replace hk := Lib.hid (hk.out.trans hy)
  clear hy K2
  go_wp2_with fail
  refine (K3.out l3 w15 (M3.out _ hk.out) (hx3.trans hk.out)).mono ?_
  rintro e w16 ⟨rfl, hy⟩
  replace hk := Lib.hid (hk.out.trans hy)
  clear hy K3
  go_wp2_with fail
  refine (awake9_calls _).mono ?_
  rintro e w17 ⟨rfl, hy⟩
  go_wp2_with fail
  go_ret
  exact ⟨rfl, (hx3.trans hk.out).trans hy⟩

set_option maxHeartbeats 1000000 in
set_option maxRecDepth 100000 in
theorem tells9_calls (v0 v1 v2 : Value) (xs ys zs : List File) (w : World) (hA : RdF w v0 xs) (hB : RdF w v1 ys) (hC : RdF w v2 zs) :
    Calls Tryz.prog 3 #[v0, v1, v2] w fun e w' => e = .returned (.bool true) ∧ Ext w w' := by
  have hG := great9_calls v0 v1 v2 xs ys zs w hA hB hC
  have HA := Lib.hid awake9_calls
  cases hg : great9 xs ys zs with
  | true =>
    rw [hg] at hG
    have HG := Lib.hid hG
    clear hG hA hB hC hg
    go_enter Tryz.func3, Tryz.ntmps3
    go_wp2_with fail
    refine HG.out.mono ?_
    rintro e w0 ⟨rfl, hw0⟩
    subst hw0
    clear HG
    go_wp2_with fail
    refine (HA.out _).mono ?_
    rintro e w1 ⟨rfl, hx1⟩
    go_wp2_with fail
    go_ret
    exact ⟨rfl, hx1⟩
  | false => exact tells9_main v0 v1 v2 xs ys zs w hA hB hC hg

end Go.Proofs.YtddooggkcdloeaaGreatDoor
