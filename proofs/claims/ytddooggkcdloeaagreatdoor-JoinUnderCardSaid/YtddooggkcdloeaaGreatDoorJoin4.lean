/-
  join.Virtual.
-/
import Derived.Test.YtddooggkcdloeaaGreatDoorJoin3
namespace Go.Proofs.YtddooggkcdloeaaGreatDoor
open Go.RowKit
set_option linter.unusedVariables false
set_option linter.unusedSimpArgs false
attribute [local go_sem] Oper.semAt_some

theorem virtOf_false {m : Mrg} {o a b : List File} (h : may3 o a b = false) : virtOf m o a b = [] := by unfold virtOf; rw [h]; rfl
theorem virtOf_true {m : Mrg} {o a b : List File} (h : may3 o a b = true) : virtOf m o a b = ((underF (gathF m id o a b).1).foldl dropF (gathF m id o a b).1).take 12 := by unfold virtOf; rw [if_pos h]
theorem foldl_drop_len (us : List ByteArray) : ∀ t : List File, (us.foldl dropF t).length ≤ t.length := by
  induction us with
  | nil => exact fun t => Nat.le_refl _
  | cons u us ih =>
    intro t
    exact Nat.le_trans (ih _) (by unfold dropF; exact List.length_filter_le _ _)
def VirtPost (w : World) (t : List File) (e : Ending) (w' : World) : Prop := ∃ r, e = .returned r ∧ New EF 40 w.heap.size w' r t ∧ Ext w w'

set_option maxHeartbeats 2000000 in
/-- join.Virtual. -/
theorem virtOf_calls (m : Mrg) (v1 v2 v3 : Value) (xs ys zs : List File) (S : Fp) (w : World) (hA : Rd EF S w v1 xs) (hB : Rd EF S w v2 ys) (hC : Rd EF S w v3 zs) (h1 : xs.length ≤ 1000) (h2 : ys.length ≤ 1000) (h3 : zs.length ≤ 1000)
    (p1 : ∀ y ∈ xs, y.path.size ≤ 1000000) (p2 : ∀ y ∈ ys, y.path.size ≤ 1000000) (p3 : ∀ y ∈ zs, y.path.size ≤ 1000000) (pg : may3 xs ys zs = true → ∀ y ∈ (gathF m id xs ys zs).1, y.path.size ≤ 1000000)
    (HM : may3 xs ys zs = true → ∀ p, reachB (atF xs p) (atF ys p) (atF zs p) = true → MrgAt m (atF xs p).data (atF ys p).data (atF zs p).data) :
    Calls Tryz.prog 14 #[v1, v2, v3] w (VirtPost w (virtOf m xs ys zs)) := by
  have hMay := mayJ_calls v1 v2 v3 xs ys zs S w hA hB hC h1 h2 h3 p1 p2 p3
  have hG := fun W (hW : Ext w W) (hm : may3 xs ys zs = true) => gathVirt_calls m v1 v2 v3 xs ys zs S W (hA.kp (hW.mono fun _ _ _ => trivial)) (hB.kp (hW.mono fun _ _ _ => trivial)) (hC.kp (hW.mono fun _ _ _ => trivial)) h1 h2 h3 (HM hm)
  have hgl := gathF_len m id xs ys zs h1 h2 h3
  have hJt := @virtOf_true m xs ys zs
  have hJf := @virtOf_false m xs ys zs
  obtain ⟨A1, c1, rfl, _⟩ := hA.open_
  obtain ⟨A2, c2, rfl, _⟩ := hB.open_
  obtain ⟨A3, c3, rfl, _⟩ := hC.open_
  generalize xs.length = n1 at *
  generalize ys.length = n2 at *
  generalize zs.length = n3 at *
  generalize gathF m id xs ys zs = g at *
  generalize virtOf m xs ys zs = jr at *
  generalize may3 xs ys zs = q at *
  have HMay := Lib.hid hMay
  have HG := Lib.hid hG
  have HJt := Lib.hid hJt
  have HJf := Lib.hid hJf
  have HGL := Lib.hid hgl
  have HPG := Lib.hid pg
  clear hMay hG hJt hJf hgl pg HM hA hB hC p1 p2 p3
  go_enter Tryz.func14, Tryz.ntmps14
  go_wp2_with fail
  refine HMay.out.mono ?_
  rintro e w1 ⟨rfl, hx1⟩
  clear HMay
  cases q with
  | false =>
    go_wp2_with fail
    go_returns
    rw [HJf.out (by trivial)]
    exact ⟨_, rfl, New.nil _ _ _, hx1⟩
  | true =>
    go_wp2_with fail
    refine (HG.out w1 hx1 (by trivial)).mono ?_
    rintro e w2 ⟨r, s, rfl, hNr, hNs, hap, hx2⟩
    obtain ⟨Ar, cr, hr⟩ := hNr.sl
    obtain ⟨As, cs, hs⟩ := hNs.sl
    subst hr hs
    have hG2 := HJt.out (by trivial)
    have HJ := Lib.hid hG2
    have hpg := Lib.hid (HPG.out (by trivial))
    clear HG HJt HJf hNs hap hG2 HPG
    go_wp2_with fail
    refine (underL_calls _ g.1 _ w2 hNr.rd (by have := HGL.out; omega) hpg.out).mono ?_
    rintro e w3 ⟨u, rfl, hNu, hx3⟩
    have hN3 := hNr.ext hx3
    have hx13 := hx2.trans hx3
    have hul := underF_len g.1
    obtain ⟨us, hus⟩ : ∃ us, underF g.1 = us := ⟨_, rfl⟩
    rw [hus] at hNu hul
    have HJ2 : Hid (jr = (us.foldl dropF g.1).take 12) := Lib.hid (by rw [HJ.out, hus])
    obtain ⟨Au, cu, hu, hO⟩ := hNu.rd.open_
    subst hu
    obtain ⟨n, hn⟩ : ∃ n, us.length = n := ⟨_, rfl⟩
    have hn3 : n ≤ 3000 := by have := HGL.out; omega
    rw [hn]
    have HN := Lib.hid hn
    have HO := Lib.hid fun W (hW : Ext w3 W) => hO.kp (hW.mono fun _ _ _ => trivial)
    have HL : Hid (g.1.length ≤ 3000) := Lib.hid (by have := HGL.out; omega)
    have hst : New EF 40 w1.heap.size w3 (.slice Ar g.1.length cr) ((us.take 0).foldl dropF g.1) := hN3
    clear hNr hx2 hx3 hNu hul hus HJ hn hO hpg HGL hN3
    go_wp2_with fail
    go_loopw [7, 26] (fun o i wr => ∃ k : Nat, k ≤ n ∧ i = .int .i64 k ∧ New EF 40 w1.heap.size wr o ((us.take k).foldl dropF g.1) ∧ Ext w3 wr) (fun _ i _ => n - (intOf i).toNat)
    case atStart => exact ⟨0, Nat.zero_le _, rfl, hst, Kp.refl _ _⟩
    case round =>
      obtain ⟨k, hk, rfl, hNo, hx⟩ := hrel
      rename World => wo
      clear hst
      by_cases hlt : k < n
      · have hd : decide ((k : Int) < (n : Int)) = true := decide_eq_true (by omega)
        have hkp : k < us.length := by have := HN.out; omega
        obtain ⟨b, off, rfl, _, hb, c0⟩ := (HO.out wo hx).rd.text hkp
        have HS : Hid ((us.take (k + 1)).foldl dropF g.1 = dropF ((us.take k).foldl dropF g.1) us[k]) := Lib.hid (by rw [take_snoc us hkp, List.foldl_append]; rfl)
        obtain ⟨p, hp⟩ : ∃ p, us[k] = p := ⟨_, rfl⟩
        rw [hp] at c0 HS
        obtain ⟨t, ht⟩ : ∃ t, (us.take k).foldl dropF g.1 = t := ⟨_, rfl⟩
        have htl := Lib.hid (foldl_drop_len (us.take k) g.1)
        rw [ht] at HS hNo htl
        obtain ⟨Ao, co, ho⟩ := hNo.sl
        subst ho
        have hlt' : (k : Int) < (n : Int) := by omega
        have h0 : (0 : Int) ≤ (k : Int) := by omega
        have hw : IntKind.i64.wrap ((k : Int) + 1) = (k : Int) + 1 := IntWalk.i64_in _ (by omega)
        clear hkp hp ht
        go_wp2_with fail
        refine (drop_calls _ p t _ wo hNo.rd (by have := htl.out; have := HL.out; omega)).mono ?_
        rintro e w4 ⟨u, rfl, hN4, hx4⟩
        have hN5 := Lib.hid (hN4.less (show w1.heap.size ≤ wo.heap.size by have := hx13.size; have := hx.size; omega))
        have hx5 := hx.trans hx4
        obtain ⟨A4, c4, hu⟩ := hN4.sl
        subst hu
        clear hNo hN4 hx4 hx c0
        go_wp2_with fail
        go_roundw
        case rel => exact ⟨k + 1, by omega, by go_num, by rw [HS.out]; exact hN5.out, hx5⟩
        case measure => simp [intOf]; omega
      · have hd : decide ((k : Int) < (n : Int)) = false := decide_eq_false (by omega)
        have hall : us.take k = us := List.take_of_length_le (by have := HN.out; omega)
        rw [hall] at hNo
        have htl := foldl_drop_len us g.1
        have HJ3 := HJ2
        obtain ⟨t, ht⟩ : ∃ t, us.foldl dropF g.1 = t := ⟨_, rfl⟩
        rw [ht] at hNo htl HJ3
        obtain ⟨Ao, co, ho⟩ := hNo.sl
        subst ho
        have htl' : t.length ≤ 3000 := by have := HL.out; omega
        obtain ⟨A', c', hv', hO'⟩ := hNo.rd.open_
        injection hv' with hA' _ hc'
        subst hA' hc'
        have hle := hO'.le
        have hmx := hO'.max
        clear hall ht HJ2 htl HL HN HO
        by_cases h12 : t.length ≤ 12
        · have hm : min (t.length : Int) 12 = (t.length : Int) := by omega
          go_wp2_with fail
          refine (clone_calls _ _ _ wo hNo.rd (by omega)).mono ?_
          rintro e w5 ⟨u, rfl, hN5, hx5⟩
          obtain ⟨A5, n5, c5, hu⟩ := hN5.1.slice
          subst hu
          have hsz : w.heap.size ≤ wo.heap.size := by have := hx1.size; have := hx13.size; have := hx.size; omega
          clear hNo hO'
          go_wp2_with fail
          go_ret
          exact ⟨_, by rfl, by rw [HJ3.out, List.take_of_length_le h12]; exact hN5.less hsz, hx1.trans ((hx13.trans hx).trans hx5)⟩
        · have hm : min (t.length : Int) 12 = 12 := by omega
          have h12' : (12 : Int) ≤ t.length := by omega
          go_wp2_with fail
          refine (clone_calls _ _ _ wo (hO'.takeRd (j := 12) (by omega)) (by rw [List.length_take]; omega)).mono ?_
          rintro e w5 ⟨u, rfl, hN5, hx5⟩
          obtain ⟨A5, n5, c5, hu⟩ := hN5.1.slice
          subst hu
          have hsz : w.heap.size ≤ wo.heap.size := by have := hx1.size; have := hx13.size; have := hx.size; omega
          clear hNo hO'
          go_wp2_with fail
          go_ret
          exact ⟨_, by rfl, by rw [HJ3.out]; exact hN5.less hsz, hx1.trans ((hx13.trans hx).trans hx5)⟩

end Go.Proofs.YtddooggkcdloeaaGreatDoor
