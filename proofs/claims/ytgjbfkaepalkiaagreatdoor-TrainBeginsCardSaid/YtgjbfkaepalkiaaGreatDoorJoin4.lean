/-
  join.may, join.Of, join.Virtual. join.Virtual.
-/
import Derived.Test.YtgjbfkaepalkiaaGreatDoorJoin2
namespace Go.Proofs.YtgjbfkaepalkiaaGreatDoor
open Go.RowKit
set_option linter.unusedVariables false
set_option linter.unusedSimpArgs false
attribute [local go_sem] Oper.semAt_some

/-- The walk's step at an append of a slice onto a row that was made here, telling where the row lies. -/
theorem list_appendNk {α : Type} {E : El α} {P : Program} {T e : TypeId} {bytes : Nat} (ti : TI E P T e bytes) {ops : Array Oper} {rest : List Oper} {o : Oper} {a : Act} {w0 w : World} {Q : Exit → Act → World → Prop} {s x : Operand} (hgd : o.guard = none)
    (ho : o.op = .call { callee := .builtin .append, args := #[s, x], argTypes := #[T, T] }) {v u : Value} {xs ys : List α} {S : Fp} (hN : New E e w0.heap.size w v xs) (hx0 : Ext w0 w) (hrd : Rd E S w u ys) (hs : a.eval s = v) (hx : a.eval x = u)
    (hb : (xs.length + ys.length) * bytes ≤ 140737488355328) (hm : xs.length + ys.length ≤ maxLen)
    (h : ∀ v' w', New E e w0.heap.size w' v' (xs ++ ys) → Ext w0 w' → Kp (fun k => v.ownBlock ≠ some k) w w' → (∀ g, v'.ownBlock = some g → v.ownBlock = some g ∨ w.heap.size ≤ g) → wpList P ops Q rest (a.put o.dst v') w') : wpList P ops Q (o :: rest) a w := by
  refine list_append (v := v) ti hgd ho hs hx hN.1 hrd hb hm ?_
  intro v' w' hO hK hB
  obtain ⟨h1, h2⟩ := hN.grow hx0 (Kp.refl _ w) hO hK hB
  refine h v' w' h1 h2 hK fun g hg => ?_
  rcases hB with hB | hB
  · exact .inl (by rw [← hB]; exact hg)
  · rw [hB] at hg
    injection hg with hg
    exact .inr (by omega)

/-- join.may. -/
theorem mayJ_calls (v1 v2 v3 : Value) (xs ys zs : List File) (S : Fp) (w : World) (hA : Rd EF S w v1 xs) (hB : Rd EF S w v2 ys) (hC : Rd EF S w v3 zs) (h1 : xs.length ≤ 1000) (h2 : ys.length ≤ 1000) (h3 : zs.length ≤ 1000)
    (p1 : ∀ y ∈ xs, y.path.size ≤ 1000000) (p2 : ∀ y ∈ ys, y.path.size ≤ 1000000) (p3 : ∀ y ∈ zs, y.path.size ≤ 1000000) :
    Calls Tryz.prog 87 #[v1, v2, v3] w fun e w' => e = .returned (.bool (may3 xs ys zs)) ∧ Ext w w' := by
  have c1 := Lib.hid fun W (hW : Ext w W) => may_calls v1 xs S W (hA.kp (hW.mono fun _ _ _ => trivial)) (by omega) p1
  have c2 := Lib.hid fun W (hW : Ext w W) => may_calls v2 ys S W (hB.kp (hW.mono fun _ _ _ => trivial)) (by omega) p2
  have c3 := Lib.hid fun W (hW : Ext w W) => may_calls v3 zs S W (hC.kp (hW.mono fun _ _ _ => trivial)) (by omega) p3
  unfold may3
  clear hA hB hC p1 p2 p3 h1 h2 h3
  generalize mayB xs = q1 at c1 ⊢
  generalize mayB ys = q2 at c2 ⊢
  generalize mayB zs = q3 at c3 ⊢
  go_enter Tryz.func87, Tryz.ntmps87
  go_wp2_with fail
  refine (c1.out w (Kp.refl _ w)).mono ?_
  rintro e w1 ⟨rfl, hx1⟩
  cases q1 with
  | false =>
    go_wp2_with fail
    go_ret
    exact ⟨rfl, hx1⟩
  | true =>
    go_wp2_with fail
    refine (c2.out w1 hx1).mono ?_
    rintro e w2 ⟨rfl, hx2⟩
    cases q2 with
    | false =>
      go_wp2_with fail
      go_ret
      exact ⟨rfl, hx1.trans hx2⟩
    | true =>
      go_wp2_with fail
      refine (c3.out w2 (hx1.trans hx2)).mono ?_
      rintro e w3 ⟨rfl, hx3⟩
      go_wp2_with fail
      go_ret
      exact ⟨rfl, (hx1.trans hx2).trans hx3⟩

theorem gathF_len (m : Mrg) (oth : Fl → Fl) (o a b : List File) (h1 : o.length ≤ 1000) (h2 : a.length ≤ 1000) (h3 : b.length ≤ 1000) : (gathF m oth o a b).1.length ≤ 3000 ∧ (gathF m oth o a b).2.length ≤ 3000 := by
  have h := gathL_len m oth o a b (riseT (flatP [o, a, b]))
  have hr := riseT_length (flatP [o, a, b])
  have hf : (flatP [o, a, b]).length = o.length + (a.length + b.length) := by unfold flatP; simp
  unfold gathF
  omega
theorem underF_len (t : List File) : (underF t).length ≤ t.length := by
  unfold underF
  rw [List.length_map]
  exact List.length_filter_le _ _

theorem joinOf_false {m : Mrg} {o a b : List File} (h : may3 o a b = false) : joinOf m o a b = ([], [bQ]) := by unfold joinOf; rw [h]; rfl
theorem joinOf_true {m : Mrg} {o a b : List File} (h : may3 o a b = true) : joinOf m o a b = if 0 < (badF' (gathF m (fun _ => noFl) o a b)).length then ([], riseT (badF' (gathF m (fun _ => noFl) o a b))) else ((gathF m (fun _ => noFl) o a b).1, []) := by unfold joinOf; rw [if_pos h]

theorem New.sl {α : Type} {E : El α} {t : TypeId} {n : Nat} {w : World} {v : Value} {xs : List α} (h : New E t n w v xs) : ∃ A c, v = .slice A xs.length c := by
  obtain ⟨A, c, hv, _⟩ := h.1.rd
  exact ⟨A, c, hv⟩

/-- What join.Of answers. -/
def JoinPost (w : World) (t : List File) (b : List ByteArray) (e : Ending) (w' : World) : Prop := ∃ r s, e = .returned (.tuple #[r, s]) ∧ New EF 39 w.heap.size w' r t ∧ New ES 9 w.heap.size w' s b ∧ Ext w w'

set_option maxHeartbeats 2000000 in
/-- join.Of. -/
theorem joinOf_calls (m : Mrg) (v1 v2 v3 : Value) (xs ys zs : List File) (S : Fp) (w : World) (hA : Rd EF S w v1 xs) (hB : Rd EF S w v2 ys) (hC : Rd EF S w v3 zs) (h1 : xs.length ≤ 1000) (h2 : ys.length ≤ 1000) (h3 : zs.length ≤ 1000)
    (p1 : ∀ y ∈ xs, y.path.size ≤ 1000000) (p2 : ∀ y ∈ ys, y.path.size ≤ 1000000) (p3 : ∀ y ∈ zs, y.path.size ≤ 1000000) (pg : may3 xs ys zs = true → ∀ y ∈ (gathF m (fun _ => noFl) xs ys zs).1, y.path.size ≤ 1000000)
    (HM : may3 xs ys zs = true → ∀ p, reachB (atF xs p) (atF ys p) (atF zs p) = true → MrgAt m (atF xs p).data (atF ys p).data (atF zs p).data) :
    Calls Tryz.prog 71 #[v1, v2, v3] w (JoinPost w (joinOf m xs ys zs).1 (joinOf m xs ys zs).2) := by
  have hMay := mayJ_calls v1 v2 v3 xs ys zs S w hA hB hC h1 h2 h3 p1 p2 p3
  have hG := fun W (hW : Ext w W) (hm : may3 xs ys zs = true) => gathOf_calls m v1 v2 v3 xs ys zs S W (hA.kp (hW.mono fun _ _ _ => trivial)) (hB.kp (hW.mono fun _ _ _ => trivial)) (hC.kp (hW.mono fun _ _ _ => trivial)) h1 h2 h3 (HM hm)
  have hgl := gathF_len m (fun _ => noFl) xs ys zs h1 h2 h3
  have hJt := @joinOf_true m xs ys zs
  have hJf := @joinOf_false m xs ys zs
  obtain ⟨A1, c1, rfl, _⟩ := hA.open_
  obtain ⟨A2, c2, rfl, _⟩ := hB.open_
  obtain ⟨A3, c3, rfl, _⟩ := hC.open_
  generalize xs.length = n1 at *
  generalize ys.length = n2 at *
  generalize zs.length = n3 at *
  generalize gathF m (fun _ => noFl) xs ys zs = g at *
  generalize joinOf m xs ys zs = jr at *
  generalize may3 xs ys zs = q at *
  have HMay := Lib.hid hMay
  have HG := Lib.hid hG
  have HJt := Lib.hid hJt
  have HJf := Lib.hid hJf
  have HGL := Lib.hid hgl
  have HPG := Lib.hid pg
  clear hMay hG hJt hJf hgl pg HM hA hB hC p1 p2 p3
  go_enter Tryz.func71, Tryz.ntmps71
  go_wp2_with fail
  refine HMay.out.mono ?_
  rintro e w1 ⟨rfl, hx1⟩
  clear HMay
  cases q with
  | false =>
    go_wp2_with fail
    go_returns
    rw [HJf.out (by trivial)]
    exact ⟨_, _, rfl, New.nil _ _ _, ((New.made (E := ES) w1 9 [bQ] (by simp [maxLen])).less hx1.size), hx1.alloc _⟩
  | true =>
    go_wp2_with fail
    refine (HG.out w1 hx1 (by trivial)).mono ?_
    rintro e w2 ⟨r, s, rfl, hNr, hNs, hap, hx2⟩
    have hT : Two EF 39 ES 9 w1.heap.size w2 r g.1 s g.2 := ⟨hNr, hNs, hap⟩
    obtain ⟨Ar, nr, cr, hr⟩ := hNr.1.slice
    obtain ⟨As, ns, cs, hs⟩ := hNs.1.slice
    subst hr hs
    have hnr : nr = g.1.length := by obtain ⟨_, _, h, _⟩ := hNr.1.rd; injection h
    subst hnr
    have hG2 := HJt.out (by trivial)
    have HJ := Lib.hid hG2
    have hpg := Lib.hid (HPG.out (by trivial))
    clear HG HJt HJf hNr hNs hap hG2 HPG
    go_wp2_with fail
    refine (underL_calls _ g.1 _ w2 hT.a.rd (by have := HGL.out; omega) hpg.out).mono ?_
    rintro e w3 ⟨u, rfl, hNu, hx3⟩
    have hT3 := hT.ext hx3
    have hx13 := hx2.trans hx3
    have hul := underF_len g.1
    have HUL : Hid ((underF g.1).length ≤ 3000) := Lib.hid (by have := HGL.out; omega)
    obtain ⟨Au, nu, cu, hu⟩ := hNu.1.slice
    subst hu
    have hRu := Lib.hid hNu.rd
    clear hT hx2 hx3 hNu hul hpg
    go_wp2_with (at_builtin; refine stop ?_)
    refine list_appendNk (w0 := w1) tiS rfl rfl hT3.b hx13 hRu.out rfl rfl (by have := HGL.out; have := HUL.out; omega) (by have := HGL.out; have := HUL.out; unfold maxLen; omega) ?_
    intro v4 w4 hN4 hx4 hk4 hg4
    have hT4 := hT3.snd hN4 hk4 hg4
    obtain ⟨A4, n4, c4, hv4⟩ := hN4.1.slice
    subst hv4
    clear hT3 hx13 hRu hk4 hg4 hN4
    have hbl : Hid ((g.2 ++ underF g.1).length ≤ 6000) := Lib.hid (by have := HGL.out; have := HUL.out; rw [List.length_append]; omega)
    clear HUL
    obtain ⟨bd, hbd⟩ : ∃ l, g.2 ++ underF g.1 = l := ⟨_, rfl⟩
    have HBD : Hid (badF' g = bd ++ (if 12 < g.1.length then [bStar] else [])) := Lib.hid (by unfold badF'; rw [hbd])
    rw [hbd] at hT4 hbl
    clear hbd
    by_cases h12 : 12 < g.1.length
    · have hd12 : decide ((12 : Int) < (g.1.length : Int)) = true := decide_eq_true (by omega)
      have HB2 : Hid (badF' g = bd ++ [bStar]) := Lib.hid (by rw [HBD.out, if_pos h12])
      clear HBD
      go_wp2_with (at_builtin; refine stop ?_)
      refine list_append1k (u := .slice (some ⟨w4.heap.size, 0, none⟩) 1 1) tiS bStar rfl rfl rfl hT4.b hx4 rfl rfl rfl (by have := hbl.out; omega) (by have := hbl.out; unfold maxLen; omega) ?_
      intro v5 w5 hN5 hx5 hk5 hg5
      have hT5 := hT4.snd hN5 hk5 hg5
      have HLB' : Hid ((bd ++ [bStar]).length ≤ 6001) := Lib.hid (by have := hbl.out; rw [List.length_append]; simp; omega)
      clear hT4 hx4 hN5 hk5 hg5 hd12 h12
      obtain ⟨bb, hbb⟩ : ∃ l, bd ++ [bStar] = l := ⟨_, rfl⟩
      rw [hbb] at hT5 HLB' HB2
      have HLB := HLB'
      have HBB := HB2
      clear hbb HLB' HB2
      obtain ⟨A5, c5, hv5⟩ := hT5.b.sl
      subst hv5
      by_cases h0 : 0 < bb.length
      · have hd0 : decide ((0 : Int) < (bb.length : Int)) = true := decide_eq_true (by omega)
        go_wp2_with fail
        refine (sortS_calls _ bb w5 hT5.b.1 (by have := HLB.out; omega)).mono ?_
        rintro e w6 ⟨⟨r, rfl⟩, hO6, hk6⟩
        go_wp2_with fail
        refine (compactS_calls _ _ w1.heap.size w6 ⟨hO6, hT5.b.2⟩ (by have := HLB.out; rw [sortT_length]; omega)).mono ?_
        rintro e w7 ⟨u7, rfl, hN7, hk7⟩
        obtain ⟨A7, n7, c7, hv7⟩ := hN7.1.slice
        subst hv7
        go_wp2_with fail
        go_returns
        rw [paths_rise] at hN7
        rw [HJ.out, HBB.out, if_pos h0]
        exact ⟨_, _, rfl, New.nil _ _ _, hN7.less hx1.size, hx1.trans ((hx5.trans' hk6 fun i hi _ e => by have := hT5.b.2 i e; omega).trans' hk7 fun i hi _ e => by have := hT5.b.2 i e; omega)⟩
      · have hd0 : decide ((0 : Int) < (bb.length : Int)) = false := decide_eq_false (by omega)
        go_wp2_with fail
        go_returns
        rw [HJ.out, HBB.out, if_neg h0]
        exact ⟨_, _, rfl, hT5.a.less hx1.size, New.nil _ _ _, hx1.trans hx5⟩
    · have hd12 : decide ((12 : Int) < (g.1.length : Int)) = false := decide_eq_false (by omega)
      have HBB : Hid (badF' g = bd) := Lib.hid (by rw [HBD.out, if_neg h12, List.append_nil])
      have HLB : Hid (bd.length ≤ 6001) := Lib.hid (by have := hbl.out; omega)
      clear HBD hbl
      have hs4 : n4 = bd.length := by obtain ⟨_, _, h⟩ := hT4.b.sl; injection h
      subst hs4
      by_cases h0 : 0 < bd.length
      · have hd0 : decide ((0 : Int) < (bd.length : Int)) = true := decide_eq_true (by omega)
        go_wp2_with fail
        refine (sortS_calls _ bd w4 hT4.b.1 (by have := HLB.out; omega)).mono ?_
        rintro e w6 ⟨⟨r, rfl⟩, hO6, hk6⟩
        go_wp2_with fail
        refine (compactS_calls _ _ w1.heap.size w6 ⟨hO6, hT4.b.2⟩ (by have := HLB.out; rw [sortT_length]; omega)).mono ?_
        rintro e w7 ⟨u7, rfl, hN7, hk7⟩
        obtain ⟨A7, n7, c7, hv7⟩ := hN7.1.slice
        subst hv7
        go_wp2_with fail
        go_returns
        rw [paths_rise] at hN7
        rw [HJ.out, HBB.out, if_pos h0]
        exact ⟨_, _, rfl, New.nil _ _ _, hN7.less hx1.size, hx1.trans ((hx4.trans' hk6 fun i hi _ e => by have := hT4.b.2 i e; omega).trans' hk7 fun i hi _ e => by have := hT4.b.2 i e; omega)⟩
      · have hd0 : decide ((0 : Int) < (bd.length : Int)) = false := decide_eq_false (by omega)
        go_wp2_with fail
        go_returns
        rw [HJ.out, HBB.out, if_neg h0]
        exact ⟨_, _, rfl, hT4.a.less hx1.size, New.nil _ _ _, hx1.trans hx4⟩

end Go.Proofs.YtgjbfkaepalkiaaGreatDoor

namespace Go.Proofs.YtgjbfkaepalkiaaGreatDoor
open Go.RowKit
set_option linter.unusedVariables false
set_option linter.unusedSimpArgs false
attribute [local go_sem] Oper.semAt_some

theorem virtOf_false {m : Mrg} {o a b : List File} (h : may3 o a b = false) : virtOf m o a b = [] := by unfold virtOf; rw [h]; rfl
theorem virtOf_true {m : Mrg} {o a b : List File} (h : may3 o a b = true) : virtOf m o a b = ((underF (gathF m id o a b).1).foldl dropF (gathF m id o a b).1).take 12 := by unfold virtOf; rw [if_pos h]
theorem foldl_drop_len (us : List ByteArray) : ∀ t : List File, (us.foldl dropF t).length ≤ t.length := by
  induction us with
  | nil => exact fun t => Nat.le_refl _
  | cons u us ih =>
    intro t
    exact Nat.le_trans (ih _) (by unfold dropF; exact List.length_filter_le _ _)
def VirtPost (w : World) (t : List File) (e : Ending) (w' : World) : Prop := ∃ r, e = .returned r ∧ New EF 39 w.heap.size w' r t ∧ Ext w w'

set_option maxHeartbeats 2000000 in
/-- join.Virtual. -/
theorem virtOf_calls (m : Mrg) (v1 v2 v3 : Value) (xs ys zs : List File) (S : Fp) (w : World) (hA : Rd EF S w v1 xs) (hB : Rd EF S w v2 ys) (hC : Rd EF S w v3 zs) (h1 : xs.length ≤ 1000) (h2 : ys.length ≤ 1000) (h3 : zs.length ≤ 1000)
    (p1 : ∀ y ∈ xs, y.path.size ≤ 1000000) (p2 : ∀ y ∈ ys, y.path.size ≤ 1000000) (p3 : ∀ y ∈ zs, y.path.size ≤ 1000000) (pg : may3 xs ys zs = true → ∀ y ∈ (gathF m id xs ys zs).1, y.path.size ≤ 1000000)
    (HM : may3 xs ys zs = true → ∀ p, reachB (atF xs p) (atF ys p) (atF zs p) = true → MrgAt m (atF xs p).data (atF ys p).data (atF zs p).data) :
    Calls Tryz.prog 59 #[v1, v2, v3] w (VirtPost w (virtOf m xs ys zs)) := by
  have hMay := mayJ_calls v1 v2 v3 xs ys zs S w hA hB hC h1 h2 h3 p1 p2 p3
  have hG := fun W (hW : Ext w W) (hm : may3 xs ys zs = true) => gathVirt_calls m v1 v2 v3 xs ys zs S W (hA.kp (hW.mono fun _ _ _ => trivial)) (hB.kp (hW.mono fun _ _ _ => trivial)) (hC.kp (hW.mono fun _ _ _ => trivial)) h1 h2 h3 (HM hm)
  have hgl := gathF_len m id xs ys zs h1 h2 h3
  have hJt := @virtOf_true m xs ys zs
  have hJf := @virtOf_false m xs ys zs
  obtain ⟨A1, c1, rfl, _⟩ := hA.open_
  obtain ⟨A2, c2, rfl, _⟩ := hB.open_
  obtain ⟨A3, c3, rfl, _⟩ := hC.open_
  generalize xs.length = n1 at *
  generalize ys.length = n2 at *
  generalize zs.length = n3 at *
  generalize gathF m id xs ys zs = g at *
  generalize virtOf m xs ys zs = jr at *
  generalize may3 xs ys zs = q at *
  have HMay := Lib.hid hMay
  have HG := Lib.hid hG
  have HJt := Lib.hid hJt
  have HJf := Lib.hid hJf
  have HGL := Lib.hid hgl
  have HPG := Lib.hid pg
  clear hMay hG hJt hJf hgl pg HM hA hB hC p1 p2 p3
  go_enter Tryz.func59, Tryz.ntmps59
  go_wp2_with fail
  refine HMay.out.mono ?_
  rintro e w1 ⟨rfl, hx1⟩
  clear HMay
  cases q with
  | false =>
    go_wp2_with fail
    go_returns
    rw [HJf.out (by trivial)]
    exact ⟨_, rfl, New.nil _ _ _, hx1⟩
  | true =>
    go_wp2_with fail
    refine (HG.out w1 hx1 (by trivial)).mono ?_
    rintro e w2 ⟨r, s, rfl, hNr, hNs, hap, hx2⟩
    obtain ⟨Ar, cr, hr⟩ := hNr.sl
    obtain ⟨As, cs, hs⟩ := hNs.sl
    subst hr hs
    have hG2 := HJt.out (by trivial)
    have HJ := Lib.hid hG2
    have hpg := Lib.hid (HPG.out (by trivial))
    clear HG HJt HJf hNs hap hG2 HPG
    go_wp2_with fail
    refine (underL_calls _ g.1 _ w2 hNr.rd (by have := HGL.out; omega) hpg.out).mono ?_
    rintro e w3 ⟨u, rfl, hNu, hx3⟩
    have hN3 := hNr.ext hx3
    have hx13 := hx2.trans hx3
    have hul := underF_len g.1
    obtain ⟨us, hus⟩ : ∃ us, underF g.1 = us := ⟨_, rfl⟩
    rw [hus] at hNu hul
    have HJ2 : Hid (jr = (us.foldl dropF g.1).take 12) := Lib.hid (by rw [HJ.out, hus])
    obtain ⟨Au, cu, hu, hO⟩ := hNu.rd.open_
    subst hu
    obtain ⟨n, hn⟩ : ∃ n, us.length = n := ⟨_, rfl⟩
    have hn3 : n ≤ 3000 := by have := HGL.out; omega
    rw [hn]
    have HN := Lib.hid hn
    have HO := Lib.hid fun W (hW : Ext w3 W) => hO.kp (hW.mono fun _ _ _ => trivial)
    have HL : Hid (g.1.length ≤ 3000) := Lib.hid (by have := HGL.out; omega)
    have hst : New EF 39 w1.heap.size w3 (.slice Ar g.1.length cr) ((us.take 0).foldl dropF g.1) := hN3
    clear hNr hx2 hx3 hNu hul hus HJ hn hO hpg HGL hN3
    go_wp2_with fail
    go_loopw [7, 26] (fun o i wr => ∃ k : Nat, k ≤ n ∧ i = .int .i64 k ∧ New EF 39 w1.heap.size wr o ((us.take k).foldl dropF g.1) ∧ Ext w3 wr) (fun _ i _ => n - (intOf i).toNat)
    case atStart => exact ⟨0, Nat.zero_le _, rfl, hst, Kp.refl _ _⟩
    case round =>
      obtain ⟨k, hk, rfl, hNo, hx⟩ := hrel
      rename World => wo
      clear hst
      by_cases hlt : k < n
      · have hd : decide ((k : Int) < (n : Int)) = true := decide_eq_true (by omega)
        have hkp : k < us.length := by have := HN.out; omega
        obtain ⟨b, off, rfl, _, hb, c0⟩ := (HO.out wo hx).rd.text hkp
        have HS : Hid ((us.take (k + 1)).foldl dropF g.1 = dropF ((us.take k).foldl dropF g.1) us[k]) := Lib.hid (by rw [take_snoc us hkp, List.foldl_append]; rfl)
        obtain ⟨p, hp⟩ : ∃ p, us[k] = p := ⟨_, rfl⟩
        rw [hp] at c0 HS
        obtain ⟨t, ht⟩ : ∃ t, (us.take k).foldl dropF g.1 = t := ⟨_, rfl⟩
        have htl := Lib.hid (foldl_drop_len (us.take k) g.1)
        rw [ht] at HS hNo htl
        obtain ⟨Ao, co, ho⟩ := hNo.sl
        subst ho
        have hlt' : (k : Int) < (n : Int) := by omega
        have h0 : (0 : Int) ≤ (k : Int) := by omega
        have hw : IntKind.i64.wrap ((k : Int) + 1) = (k : Int) + 1 := IntWalk.i64_in _ (by omega)
        clear hkp hp ht
        go_wp2_with fail
        refine (drop_calls _ p t _ wo hNo.rd (by have := htl.out; have := HL.out; omega)).mono ?_
        rintro e w4 ⟨u, rfl, hN4, hx4⟩
        have hN5 := Lib.hid (hN4.less (show w1.heap.size ≤ wo.heap.size by have := hx13.size; have := hx.size; omega))
        have hx5 := hx.trans hx4
        obtain ⟨A4, c4, hu⟩ := hN4.sl
        subst hu
        clear hNo hN4 hx4 hx c0
        go_wp2_with fail
        go_roundw
        case rel => exact ⟨k + 1, by omega, by go_num, by rw [HS.out]; exact hN5.out, hx5⟩
        case measure => simp [intOf]; omega
      · have hd : decide ((k : Int) < (n : Int)) = false := decide_eq_false (by omega)
        have hall : us.take k = us := List.take_of_length_le (by have := HN.out; omega)
        rw [hall] at hNo
        have htl := foldl_drop_len us g.1
        have HJ3 := HJ2
        obtain ⟨t, ht⟩ : ∃ t, us.foldl dropF g.1 = t := ⟨_, rfl⟩
        rw [ht] at hNo htl HJ3
        obtain ⟨Ao, co, ho⟩ := hNo.sl
        subst ho
        have htl' : t.length ≤ 3000 := by have := HL.out; omega
        obtain ⟨A', c', hv', hO'⟩ := hNo.rd.open_
        injection hv' with hA' _ hc'
        subst hA' hc'
        have hle := hO'.le
        have hmx := hO'.max
        clear hall ht HJ2 htl HL HN HO
        by_cases h12 : t.length ≤ 12
        · have hm : min (t.length : Int) 12 = (t.length : Int) := by omega
          go_wp2_with fail
          refine (clone_calls _ _ _ wo hNo.rd (by omega)).mono ?_
          rintro e w5 ⟨u, rfl, hN5, hx5⟩
          obtain ⟨A5, n5, c5, hu⟩ := hN5.1.slice
          subst hu
          have hsz : w.heap.size ≤ wo.heap.size := by have := hx1.size; have := hx13.size; have := hx.size; omega
          clear hNo hO'
          go_wp2_with fail
          go_ret
          exact ⟨_, by rfl, by rw [HJ3.out, List.take_of_length_le h12]; exact hN5.less hsz, hx1.trans ((hx13.trans hx).trans hx5)⟩
        · have hm : min (t.length : Int) 12 = 12 := by omega
          have h12' : (12 : Int) ≤ t.length := by omega
          go_wp2_with fail
          refine (clone_calls _ _ _ wo (hO'.takeRd (j := 12) (by omega)) (by rw [List.length_take]; omega)).mono ?_
          rintro e w5 ⟨u, rfl, hN5, hx5⟩
          obtain ⟨A5, n5, c5, hu⟩ := hN5.1.slice
          subst hu
          have hsz : w.heap.size ≤ wo.heap.size := by have := hx1.size; have := hx13.size; have := hx.size; omega
          clear hNo hO'
          go_wp2_with fail
          go_ret
          exact ⟨_, by rfl, by rw [HJ3.out]; exact hN5.less hsz, hx1.trans ((hx13.trans hx).trans hx5)⟩

end Go.Proofs.YtgjbfkaepalkiaaGreatDoor
