/-
  cortegeref13: Deep, Base. dag.Is. cortegelaw0.Low. OverFiles. What the merge laws share. merge.Of, merge.Clean. merge.Clean; SameCommit, OverInts, OverCommit. made, of the law package 14. cortegelaw14: awake. OverInts, OverCommit, of a merge's value. cortegeref14: Of, Clean. MergeTells: the walk.
-/
import Derived.Test.YtgjbfkaepalkiaaGreatDoorRef12
import Derived.Test.YtgjbfkaepalkiaaGreatDoorAwake13
import Derived.Test.YtgjbfkaepalkiaaGreatDoorR9d
import Derived.Deep.RegionHeld3
import Derived.Test.YtgjbfkaepalkiaaGreatDoorDag
import Derived.Test.YtgjbfkaepalkiaaGreatDoorLaw0
import Derived.Test.YtgjbfkaepalkiaaGreatDoorConcat
import Derived.Test.YtgjbfkaepalkiaaGreatDoorMade
import Derived.Handy
import Derived.Test.YtgjbfkaepalkiaaGreatDoorGreat
namespace Go.Proofs.YtgjbfkaepalkiaaGreatDoor
open Go.RowKit
set_option linter.unusedVariables false
set_option linter.unusedSimpArgs false
attribute [local go_sem] Oper.semAt_some

/-- Files that are read only. -/
def SeenPost (w : World) (xs : List File) (e : Ending) (w' : World) : Prop := ∃ u, e = .returned u ∧ RdF w' u xs ∧ Ext w w'
theorem RdF.sl {w : World} {v : Value} {xs : List File} (h : RdF w v xs) : ∃ A c, v = .slice A xs.length c := by
  obtain ⟨A, c, hv, _⟩ := Rd.open_ h
  exact ⟨A, c, hv⟩
theorem refVirtM_calls (v1 v2 v3 : Value) (xs ys zs : List File) (w : World) (hA : RdF w v1 xs) (hB : RdF w v2 ys) (hC : RdF w v3 zs) (g1 : mayB xs = true) (g2 : mayB ys = true) (g3 : mayB zs = true) :
    Calls Tryz.prog 61 #[v1, v2, v3] w (VirtPost w (virtOf textM xs ys zs)) :=
  refVirt_calls v1 v2 v3 xs ys zs _ w hA hB hC (may_len g1) (may_len g2) (may_len g3) (may_size g1) (may_size g2) (may_size g3)

section
variable {I D : Fp} {rb : Nat} {cs : List Cm} {room : Nat} {w : World}
def RefDeepSt (cs : List Cm) (rb : Nat) (w : World) (d : Nat) : Prop := ∀ (deep : Int), (min deep 4).toNat = d → ∀ (a b : Int) (W : World), Ext w W →
  Calls Tryz.prog 23 #[.pointer (some ⟨rb, 0, none⟩), .int .i64 a, .int .i64 b, .int .i64 deep] W (SeenPost W (deepF cs d a b))

theorem refDeep0_calls (h : RepoX refT I D w rb cs room) (hG : GoodR cs) (hn : cs.length ≤ 300) : RefDeepSt cs rb w 0 := by
  intro deep hd a b W hW
  have HB := Lib.hid (refBest_calls (h.ext hW) hG hn a b)
  obtain ⟨m, hm⟩ : ∃ m, min deep 4 = m := ⟨_, rfl⟩
  rw [hm] at hd
  have hd1 : decide (m < 1) = true := decide_eq_true (by omega)
  clear h hG
  show Calls _ _ _ W (SeenPost W [])
  go_enter Tryz.func23, Tryz.ntmps23
  go_wp2_with fail
  refine HB.out.mono ?_
  rintro e w1 ⟨u, rfl, hN, hx1⟩
  obtain ⟨A, n, c, rfl⟩ := hN.1.slice
  clear HB hN
  go_wp2_with fail
  go_ret
  exact ⟨_, rfl, Rd.nil _ _, hx1⟩

set_option maxHeartbeats 4000000 in
theorem refDeepS_calls (h : RepoX refT I D w rb cs room) (hG : GoodR cs) (hn : cs.length ≤ 300) (d : Nat) (hd3 : d ≤ 3) (IH : RefDeepSt cs rb w d) : RefDeepSt cs rb w (d + 1) := by
  intro deep hd a b W hW
  have HB := Lib.hid (refBest_calls (h.ext hW) hG hn a b)
  have hm : min deep 4 = (d : Int) + 1 := by omega
  have hd1 : decide ((d : Int) + 1 < 1) = false := decide_eq_false (by omega)
  have hl := bestF_len cs a b
  have hbm := fun n (h : n ∈ bestF cs a b) => bestF_mem h
  have HIH := Lib.hid IH
  obtain ⟨L, cp, rows, hBk, hO, hR, hlr⟩ := h.rd
  have c0 : w.cell? ⟨rb, 0, none⟩ = some (.slice L cs.length cp) := hBk.cell 0
  have hrb := hBk.lt
  have hle0 := hO.le
  rw [hlr] at hle0
  have HC0 := Lib.hid fun W (hW : Ext w W) => show W.cell? ⟨rb, 0, none⟩ = some (.slice L cs.length cp) from (hW.cell (p := ⟨rb, 0, none⟩) hrb trivial).trans c0
  have HRows : Hid (∀ (j : Nat), j < cs.length → ∀ W, Ext w W → ∃ (b off : Nat) (x : SliceV), L = some ⟨b, off, none⟩ ∧ b < w.heap.size ∧ W.cell? ⟨b, off + j * 3 + 1, none⟩ = some (.slice x.a x.n x.c) ∧ RdF W x.val (treeC cs ((j : Int) + 1))) := Lib.hid fun j hj W hW => by
    obtain ⟨b, off, hA, _, hb, _, e1, _⟩ := (hO.kp (hW.mono fun _ _ _ => trivial)).rd.kom (i := j) (by omega)
    obtain ⟨b', off', hA', _, hb', _⟩ := hO.rd.kom (i := j) (by omega)
    rw [hA] at hA'
    injection hA' with hA'
    injection hA' with h1 h2
    have hp : treeC cs ((j : Int) + 1) = cs[j].tree := by unfold treeC; rw [getC_nat hj]; rfl
    refine ⟨b, off, rows[j].t, hA, by omega, e1, ?_⟩
    rw [hp]; exact ((hR.ext hW).get j (by omega) hj).t.wide fun _ _ => trivial
  have HMT := Lib.hid fun n => treeC_may hG n
  have HMD := Lib.hid fun a b => deepF_may hG d a b
  have hv : deepF cs (d + 1) a b = match bestF cs a b with
    | [] => []
    | m :: rest => (rest.take 2).foldl (fun out n => virtOf textM (deepF cs d m n) out (treeC cs n)) (treeC cs m) := rfl
  clear h IH hBk hO hR hlr c0
  generalize bestF cs a b = bs at HB hl hv hbm
  generalize deepF cs (d + 1) a b = res at hv ⊢
  have hw1 : IntKind.i64.wrap (d : Int) = (d : Int) := IntWalk.i64_in _ (by omega)
  obtain ⟨lm, hlm⟩ : ∃ m, cs.length = m := ⟨_, rfl⟩
  rw [hlm] at hl hle0 HC0 HRows hbm hn
  clear hlm
  cases bs with
  | nil =>
    subst hv
    go_enter Tryz.func23, Tryz.ntmps23
    go_wp2_with fail
    refine HB.out.mono ?_
    rintro e w1 ⟨u, rfl, hN, hx1⟩
    obtain ⟨A, c, rfl, hO⟩ := hN.1.rd.open_
    clear HB hN hO
    go_wp2_with fail
    go_ret
    exact ⟨_, rfl, Rd.nil _ _, hx1⟩
  | cons mm rest =>
    dsimp only at hv
    have HV := Lib.hid hv
    obtain ⟨mj, hmj⟩ : ∃ mj : Nat, mm = (mj : Int) + 1 := ⟨(mm - 1).toNat, by have := hbm mm (List.mem_cons_self ..); omega⟩
    have hmjl : mj < lm := by have := hbm mm (List.mem_cons_self ..); omega
    subst hmj
    have HBM := Lib.hid hbm
    clear hv hbm
    go_enter Tryz.func23, Tryz.ntmps23
    go_wp2_with fail
    refine HB.out.mono ?_
    rintro e w1 ⟨u, rfl, hN, hx1⟩
    obtain ⟨A, c, rfl, hO⟩ := hN.1.rd.open_
    have hle := hO.le
    have hmx := hO.max
    obtain ⟨bb, off, rfl, _, hbl, e0⟩ := hO.rd.num (i := 0) (by simp)
    have e0' : w1.cell? ⟨bb, off, none⟩ = some (.int .i64 ((mj : Int) + 1)) := e0
    have HO := Lib.hid fun W' (hW : Ext w1 W') => hO.rd.kp (hW.mono fun _ _ _ => trivial)
    obtain ⟨n, hln⟩ : ∃ n, (((mj : Int) + 1) :: rest).length = n := ⟨_, rfl⟩
    have hn0 : 0 < n := by rw [← hln]; simp
    rw [hln] at hle hl ⊢
    have HLN := Lib.hid hln
    have h0n : (0 : Int) < (n : Int) := by omega
    have hnz : ((n : Int) == 0) = false := by rw [beq_eq_false_iff_ne]; omega
    have HX1 := Lib.hid (hW.trans hx1)
    have HXW := Lib.hid hx1
    obtain ⟨lb, lo, x, hLA, hlb, t0, ht0⟩ := HRows.out mj hmjl w1 (hW.trans hx1)
    have hwm : IntKind.i64.wrap (mj : Int) = (mj : Int) := IntWalk.i64_in _ (by omega)
    have hmj0 : (0 : Int) ≤ (mj : Int) := by omega
    have hmj1 : (mj : Int) < (lm : Int) := by omega
    subst hLA
    have c01 := HC0.out w1 (hW.trans hx1)
    have HT0 := Lib.hid ht0
    clear HB hN hO e0 hln hx1 ht0
    go_wp2_with fail
    go_quiet (fail)
    have hxd := HX1.out.drewN nq
    have HT0' := Lib.hid (HT0.out.ext ((Kp.refl _ w1).drewN nq))
    have HOd := Lib.hid fun W' (hW : Ext (w1.drewN nq) W') => HO.out W' (((Kp.refl _ w1).drewN nq).trans hW)
    have e0d : (w1.drewN nq).cell? ⟨bb, off, none⟩ = some (.int .i64 ((mj : Int) + 1)) := e0'
    have hbld : bb < (w1.drewN nq).heap.size := hbl
    have HXWd := Lib.hid (HXW.out.drewN nq)
    clear e0' t0 c01 HO HT0 hwm hmj0 hmj1
    generalize w1.drewN nq = w2 at hxd HT0' HOd e0d hbld HXWd ⊢
    obtain ⟨q, hq⟩ : ∃ q, min n 3 = q := ⟨_, rfl⟩
    have HQ := Lib.hid hq
    have hq1 : 1 ≤ q := by omega
    have hqn : q ≤ 3 := by omega
    clear hq hm hd
    go_wp2_with fail
    go_loopw [10, 11] (fun o i wr => ∃ k : Nat, k + 1 ≤ q ∧ i = .int .i64 ((k : Int) + 1) ∧ RdF wr o (((rest.take 2).take k).foldl (fun out n => virtOf textM (deepF cs d ((mj : Int) + 1) n) out (treeC cs n)) (treeC cs ((mj : Int) + 1))) ∧ Ext w2 wr) (fun _ i _ => 4 - (intOf i).toNat)
    case atStart => exact ⟨0, hq1, rfl, HT0'.out, Kp.refl _ _⟩
    case round =>
      obtain ⟨k, hk, rfl, hN, hx⟩ := hrel
      rename World => wo
      obtain ⟨Ao, co, ho⟩ := hN.sl
      generalize hfo : ((rest.take 2).take k).foldl (fun out n => virtOf textM (deepF cs d ((mj : Int) + 1) n) out (treeC cs n)) (treeC cs ((mj : Int) + 1)) = fo at hN ho
      have hmay : Hid (mayB fo = true) := Lib.hid (by rw [← hfo]; exact foldV_may (HMT.out _))
      obtain ⟨no, hno⟩ : ∃ no, fo.length = no := ⟨_, rfl⟩
      rw [hno] at ho
      subst ho
      have HFO := Lib.hid hfo
      clear hfo hno
      by_cases hlt : k + 1 < q
      · have hkn : (k : Int) + 1 < (n : Int) := by have := HQ.out; omega
        have hd5 : decide ((k : Int) + 1 < (n : Int)) = true := decide_eq_true hkn
        have hd6 : decide ((k : Int) + 1 < 3) = true := decide_eq_true (by omega)
        have hkr : k < rest.length := by have := HLN.out; have := HQ.out; rw [List.length_cons] at *; omega
        have hk2 : k < 2 := by omega
        have hkt : k < (rest.take 2).length := by rw [List.length_take]; omega
        obtain ⟨bb', off', hA', _, _, hc'⟩ := (HOd.out wo hx).num (i := k + 1) (by rw [List.length_cons]; omega)
        injection hA' with hA'
        injection hA' with e1 e2
        subst e1 e2
        rw [List.getElem_cons_succ] at hc'
        have hgt : (rest.take 2)[k] = rest[k] := List.getElem_take
        have HS : Hid ((rest.take 2).take (k + 1) = (rest.take 2).take k ++ [rest[k]]) := Lib.hid (by rw [List.take_succ_eq_append_getElem hkt, hgt])
        have hyb := HBM.out rest[k] (List.mem_cons_of_mem _ (List.getElem_mem hkr))
        generalize rest[k] = y at hc' HS hgt hyb
        obtain ⟨yj, hyj⟩ : ∃ yj : Nat, y = (yj : Int) + 1 := ⟨(y - 1).toNat, by omega⟩
        subst hyj
        obtain ⟨lb', lo', ty, hLA', hlb', ty0, hty⟩ := HRows.out yj (by omega) wo (hxd.trans hx)
        injection hLA' with hLA'
        injection hLA' with e3 e4
        subst e3 e4
        obtain ⟨ta, tn, tc⟩ := ty
        dsimp only [SliceV.val] at ty0 hty
        have e0o : wo.cell? ⟨bb, off, none⟩ = some (.int .i64 ((mj : Int) + 1)) := (hx.cell (p := ⟨bb, off, none⟩) hbld trivial).trans e0d
        have r0o := HC0.out wo (hxd.trans hx)
        have h0k : (0 : Int) ≤ (k : Int) + 1 := by omega
        have hyj0 : (0 : Int) ≤ (yj : Int) := by omega
        have hyj1 : (yj : Int) < (lm : Int) := by omega
        have hwy : IntKind.i64.wrap (yj : Int) = (yj : Int) := IntWalk.i64_in _ (by omega)
        have hwk : IntKind.i64.wrap ((k : Int) + 1 + 1) = (k : Int) + 1 + 1 := IntWalk.i64_in _ (by omega)
        have hbbo : bb < wo.heap.size := hx.lt hbld
        have hlbo : lb < wo.heap.size := by have := (hxd.trans hx).size; omega
        have hrbo : rb < wo.heap.size := by have := (hxd.trans hx).size; omega
        have HS5 : Hid (∀ W, Ext wo W → W.cell? ⟨bb, off, none⟩ = some (.int .i64 ((mj : Int) + 1)) ∧ W.cell? ⟨bb, off + (k + 1), none⟩ = some (.int .i64 ((yj : Int) + 1)) ∧ W.cell? ⟨rb, 0, none⟩ = some (.slice (some ⟨lb, lo, none⟩) lm cp) ∧ W.cell? ⟨lb, lo + yj * 3 + 1, none⟩ = some (.slice ta tn tc)) := Lib.hid fun W hW =>
          ⟨(hW.cell (p := ⟨bb, off, none⟩) hbbo trivial).trans e0o, (hW.cell (p := ⟨bb, off + (k + 1), none⟩) hbbo trivial).trans hc', (hW.cell (p := ⟨rb, 0, none⟩) hrbo trivial).trans r0o, (hW.cell (p := ⟨lb, lo + yj * 3 + 1, none⟩) hlbo trivial).trans ty0⟩
        have hI := Lib.hid fun W (hW : Ext wo W) => (HIH.out (d : Int) (by omega) ((mj : Int) + 1) ((yj : Int) + 1) W ((hxd.trans hx).trans hW))
        have HN := Lib.hid hN
        have HX := Lib.hid hx
        have HTY := Lib.hid hty
        clear hN hx hgt hkr hkt hty hyb e0d
        go_wp2_with fail
        go_region_held3 (fun W => W.cell? ⟨bb, off, none⟩ = some (.int .i64 ((mj : Int) + 1)) ∧ W.cell? ⟨bb, off + (k + 1), none⟩ = some (.int .i64 ((yj : Int) + 1)) ∧ W.cell? ⟨rb, 0, none⟩ = some (.slice (some ⟨lb, lo, none⟩) lm cp) ∧ W.cell? ⟨lb, lo + yj * 3 + 1, none⟩ = some (.slice ta tn tc))
          (first | exact HS5.out _ hx5 | exact HS5.out _ hx4 | exact HS5.out _ ((Kp.refl _ wo).drew) | fail)
          (first
            | (go_at_call 23; ((with_reducible refine Calls.mono (hI.out _ ?_) ?_)); (exact (Kp.refl _ wo).drew); rintro e w4 ⟨u4, rfl, hN4, hx4'⟩; have hx4 : Ext wo w4 := ((Kp.refl _ wo).drew).trans hx4')
            | (go_at_call 61; have hVc := refVirtM_calls _ _ _ _ _ _ w4 hN4 (HN.out.ext hx4) (HTY.out.ext hx4) (HMD.out _ _) hmay.out (HMT.out _); ((with_reducible refine Calls.mono hVc ?_)); rintro e w5 ⟨u5, rfl, hN5, hx5'⟩; have hx5 : Ext wo w5 := hx4.trans hx5')
            | fail)
        obtain ⟨A6, n6, c6, rfl⟩ := hN5.1.slice
        have HN5 := Lib.hid hN5
        have HX5 := Lib.hid hx5
        clear hI HS5 hN4 hN5 hx5 hx5' hx4 hx4' hc' e0o r0o ty0
        go_wp2_with fail
        go_roundw
        case rel =>
          refine ⟨k + 1, by omega, by go_num, ?_, HX.out.trans HX5.out⟩
          rw [HS.out, List.foldl_append, HFO.out]
          exact HN5.out.rdF
        case measure => simp [intOf]; omega
      · have hfin : fo = res := by
          rw [HV.out, ← HFO.out, List.take_of_length_le (by
            rw [List.length_take]
            have := HLN.out; have := HQ.out
            rw [List.length_cons] at *
            omega)]
        rw [hfin] at hN
        have HN := Lib.hid hN
        clear hfin hN
        by_cases hkn : k + 1 < n
        · have hd5 : decide ((k : Int) + 1 < (n : Int)) = true := decide_eq_true (by omega)
          have hd6 : decide ((k : Int) + 1 < 3) = false := decide_eq_false (by have := HQ.out; omega)
          go_wp2_with fail
          go_ret
          exact ⟨_, rfl, HN.out, HXWd.out.trans hx⟩
        · have hd5 : decide ((k : Int) + 1 < (n : Int)) = false := decide_eq_false (by omega)
          go_wp2_with fail
          go_ret
          exact ⟨_, rfl, HN.out, HXWd.out.trans hx⟩

theorem refDeep_calls (h : RepoX refT I D w rb cs room) (hG : GoodR cs) (hn : cs.length ≤ 300) : ∀ d : Nat, d ≤ 4 → RefDeepSt cs rb w d
  | 0, _ => refDeep0_calls h hG hn
  | d + 1, hd => refDeepS_calls h hG hn d (by omega) (refDeep_calls h hG hn d (by omega))
theorem refDeepR_calls (h : RepoX refT I D w rb cs room) (hG : GoodR cs) (hn : cs.length ≤ 300) (a b deep : Int) : Calls Tryz.prog 23 #[.pointer (some ⟨rb, 0, none⟩), .int .i64 a, .int .i64 b, .int .i64 deep] w (SeenPost w (deepF cs (min deep 4).toNat a b)) :=
  refDeep_calls h hG hn _ (by omega) deep rfl a b w (Kp.refl _ _)
theorem refBase_calls (h : RepoX refT I D w rb cs room) (hG : GoodR cs) (hn : cs.length ≤ 300) (a b : Int) : Calls Tryz.prog 22 #[.pointer (some ⟨rb, 0, none⟩), .int .i64 a, .int .i64 b] w (SeenPost w (deepF cs 4 a b)) := by
  have HD := Lib.hid (refDeepR_calls h hG hn a b 4)
  clear h hG
  go_enter Tryz.func22, Tryz.ntmps22
  go_wp2_with fail
  refine HD.out.mono ?_
  rintro e w1 ⟨u, rfl, hN, hx1⟩
  obtain ⟨A, c, rfl⟩ := hN.sl
  have HN := Lib.hid hN
  clear HD hN
  go_wp2_with fail
  go_ret
  exact ⟨_, rfl, HN.out, hx1⟩
end

end Go.Proofs.YtgjbfkaepalkiaaGreatDoor

namespace Go.Proofs.YtgjbfkaepalkiaaGreatDoor
open Go.RowKit
set_option linter.unusedVariables false
set_option linter.unusedSimpArgs false
attribute [local go_sem] Oper.semAt_some

/-- One result that lies in a variable. -/
theorem results_cell1 {fn : Func} {t : Tmp} {ty : TypeId} (h : fn.results = #[.cell t ty]) {tmps : Array Value} {P : Program} {w : World} (ha : ∀ w, (isAgg ty).run P w = .ok false w)
    {p : Addr} {v : Value} (ht : tmps.getD t undef = .pointer (some p)) (hv : w.cell? p = some v) : (results fn tmps).run P w = .ok v w := by
  have ht' : tmps[t]?.getD undef = .pointer (some p) := by simpa using ht
  simp only [results, h]
  simp [Sem.run_bind, Result.andThen, ht', loadVar, ha, asAddr, load, Sem.run, hv]

section
variable {I D : Fp} {rb : Nat} {cs : List Cm} {room : Nat} {w : World}
set_option maxHeartbeats 1000000 in
theorem isR_calls (h : RepoX repoT I D w rb cs room) (hG : GoodR cs) (hn : cs.length ≤ 300) (a b : Int) : Calls Tryz.prog 30 #[.pointer (some ⟨rb, 0, none⟩), .int .i64 a, .int .i64 b] w fun e w' => e = .returned (.bool ((aheadF cs b).contains a)) ∧ Ext w w' := by
  have HA := Lib.hid fun W (hW : Ext w W) => ahead_calls (h.ext hW) hG hn b
  have hDI : ∀ k, (D k ∨ I k) → k < w.heap.size := fun k hk => hk.elim (h.ld k) (h.li k)
  clear h hG
  refine calls_of_body Tryz.func30 rfl ?_
  simp only [Tryz.ntmps30, List.size_toArray, List.length_cons, List.length_nil, Nat.reduceAdd, Nat.reduceSub, Array.replicate_succ, Array.replicate_zero, List.push_toArray, List.append_toArray, List.nil_append, List.cons_append]
  gi_wp2_with fail
  have hx0 : Ext w ((w.alloc (.cells #[.int .i64 a] 3)).alloc (.cells #[.bool false] 4)) := ((Kp.refl _ w).alloc _).alloc _
  have hB1 := (Blk.new w 3 #[.int .i64 a]).ext ((Kp.refl _ _).alloc (.cells #[.bool false] 4))
  have hB2 := Blk.new (w.alloc (.cells #[.int .i64 a] 3)) 4 #[.bool false]
  rw [World.size_alloc] at hB2
  generalize ((w.alloc (.cells #[.int .i64 a] 3)).alloc (.cells #[.bool false] 4)) = w0 at hx0 hB1 hB2 ⊢
  refine wide_call ((HA.out _ hx0).mono ?_)
  rintro e w1 ⟨u, rfl, hs, hx1⟩
  obtain ⟨sf, sa, sb, rfl⟩ := hs.isf
  have hb2l := hB2.lt
  have hz1 := hx1.size
  have hx01 := hx0.trans hx1
  have hC1 := hB1.ext hx1
  have hC2 := hB2.ext hx1
  clear HA hB1 hB2
  gi_wp2_with fail
  refine range_wp (fv := .func sf sa sb) rfl hs (fun k hk => by
    rcases hk with hk | hk
    · have := hDI k hk; have := hx01.size; omega
    · omega) (fun _ => rfl)
    (fun pre E W => Blk W w.heap.size 3 #[.int .i64 a] ∧ Blk W (w.heap.size + 1) 4 #[.bool false] ∧ a ∉ pre ∧ E w.heap.size ∧ E (w.heap.size + 1))
    (fun c pre E W => c = .ret ∧ Blk W (w.heap.size + 1) 4 #[.bool true] ∧ a ∈ pre ∧ E (w.heap.size + 1))
    (fun pre E W W' ⟨h1, h2, h3, h4, h5⟩ _ hk => ⟨h1.kp hk h4, h2.kp hk h5, h3, h4, h5⟩) (fun c pre E W W' ⟨h1, h2, h3, h5⟩ _ hk => ⟨h1, h2.kp hk h5, h3, h5⟩)
    (fun k => k = w.heap.size ∨ k = w.heap.size + 1) ⟨hC1, hC2, by simp, .inl rfl, .inr rfl⟩ (fun k hk => ⟨by omega, fun h => by
      rcases h with h | h
      · have := hDI k h; omega
      · omega⟩) ?round ?done ?stop
  case round =>
    intro l pre x E W hI hE hpre hsub hkp hl hlt hnl K hK
    gi_wp2_with fail
    refine hK _ _ (Kp.refl _ W) ?_
    intro W₂ hk2 hsz hrec
    obtain ⟨h1, h2, h3, h4, h5⟩ := hI
    have g1 := h1.kp hk2 (fun e => hnl (e ▸ h4))
    have g2 := h2.kp hk2 (fun e => hnl (e ▸ h5))
    have c1 := g1.cell0
    have c2 := g2.cell0
    have f2 := g2.frozen 0
    have HE := Lib.hid (show ∀ k, E k → k < W₂.heap.size from fun k hk => hk2.lt (hE k hk))
    clear hK hE hpre hsub hkp hrec hs h1 h2 hk2
    by_cases he : x = a
    · subst he
      have hde : (x == x) = true := by simp
      gi_wp2_with fail
      exact ⟨E, fun k hk => .inl (.inl hk), (Kp.refl _ _).setCell (.inr fun h => h (.inl h5)) _, fun k hk => by have := HE.out k hk; simpa using this, rfl, g2.set_ 0 _, by simp, h5⟩
    · have hde : (x == a) = false := by rw [beq_eq_false_iff_ne]; exact he
      gi_wp2_with fail
      refine ⟨E, fun k hk => .inl (.inl hk), Kp.refl _ _, HE.out, g1, g2, ?_, h4, h5⟩
      intro hm
      rcases List.mem_append.1 hm with hm | hm
      · exact h3 hm
      · exact he (List.mem_singleton.1 hm).symm
  case done =>
    intro q E W' hI hsub hkp hlt hq hnq hblk
    obtain ⟨h1, h2, h3, h4, h5⟩ := hI
    have c2 := h2.cell0
    have f2 := h2.frozen 0
    have hr : (aheadF cs b).contains a = false := by simpa using h3
    have HR := Lib.hid hr
    have hqb : w.heap.size + 1 ≠ q := fun e => hnq (e ▸ h5)
    have hblk' : (W'.setCell ⟨w.heap.size + 1, 0, none⟩ (.bool false)).heap[q]? = some (.deferred (some [])) := (Below.heap_setCell W' ⟨w.heap.size + 1, 0, none⟩ (.bool false) q (fun e => hqb e.symm)).trans hblk
    clear hs hr
    gi_wp2_with fail
    refine leaves1 (by first | exact hblk | exact hblk') fun W3 hk3 _ => ⟨_, results_cell1 rfl (fun w => Tryz.isAgg4 w) (p := ⟨w.heap.size + 1, 0, none⟩) (v := .bool false) (by rfl) ?_, by rw [HR.out], ?_⟩
    · exact (((h2.set_ 0 (.bool false)).kp hk3 hqb)).cell0
    · exact ((hx01.trans' hkp fun k hk _ h => by omega).setCell (.inl (by show w.heap.size ≤ w.heap.size + 1; omega)) _).trans' hk3 fun k hk _ => by omega
  case stop =>
    rintro q c pre E W' hpre ⟨rfl, h2, h3, h5⟩ hsub hkp hlt hq hnq hblk
    have hr : (aheadF cs b).contains a = true := by simpa using hpre.subset h3
    have HR := Lib.hid hr
    have hqb : w.heap.size + 1 ≠ q := fun e => hnq (e ▸ h5)
    clear hs hr
    gi_wp2_with fail
    refine leaves1 hblk fun W3 hk3 _ => ⟨_, results_cell1 rfl (fun w => Tryz.isAgg4 w) (p := ⟨w.heap.size + 1, 0, none⟩) (v := .bool true) (by rfl) (h2.kp hk3 hqb).cell0, by rw [HR.out], ?_⟩
    exact (hx01.trans' hkp fun k hk _ h => by omega).trans' hk3 fun k hk _ => by omega
end

end Go.Proofs.YtgjbfkaepalkiaaGreatDoor

namespace Go.Proofs.YtgjbfkaepalkiaaGreatDoor
open Go.RowKit
set_option linter.unusedVariables false
set_option linter.unusedSimpArgs false

theorem low_calls (x : Int) (n : Nat) (w : World) (hn : 0 < n) (hm : n ≤ 1000000) :
    Calls Tryz.prog 18 #[.int .i64 x, .int .i64 n] w fun e w' => (∃ k : Nat, k < n ∧ e = .returned (.int .i64 k)) ∧ w = w' := by
  obtain ⟨r, hr⟩ : ∃ r : Nat, IntKind.u64.wrap x = r := ⟨(IntKind.u64.wrap x).toNat, by
    have := IntKind.wrap_u64 x
    omega⟩
  have hlt : r % n < n := Nat.mod_lt _ hn
  have hmod : ((r : Int)).tmod (n : Int) = ((r % n : Nat) : Int) := rfl
  have hw : wrap64 ((r % n : Nat) : Int) = ((r % n : Nat) : Int) := IntWalk.wrap64_in _ (by omega)
  go_enter Tryz.func18, Tryz.ntmps18
  go_wp2_with fail
  go_ret
  refine ⟨⟨r % n, hlt, ?_⟩, rfl⟩
  first | rfl | (show Ending.returned (.int .i64 _) = _; rw [hw]) | (show Ending.returned (.int .i64 _) = _; rw [hmod, hw])

end Go.Proofs.YtgjbfkaepalkiaaGreatDoor

namespace Go.Proofs.YtgjbfkaepalkiaaGreatDoor
open Go.RowKit
set_option linter.unusedVariables false
set_option linter.unusedSimpArgs false
attribute [local go_sem] Oper.semAt_some

def overF : File := ⟨⟨#[111, 118, 101, 114]⟩, ⟨#[]⟩⟩
set_option maxHeartbeats 400000 in
/-- cortegelaw0.OverFiles. -/
theorem overFiles_calls (v : Value) (xs : List File) (w : World) (hO : Own EF 39 w v xs) (hb : xs.length ≤ 1000) :
    Calls Tryz.prog 24 #[v] w fun e w' => (∃ r, e = .returned r) ∧ Kp (fun k => v.ownBlock ≠ some k) w w' := by
  have hslice : (v = .slice none 0 0 ∧ xs = []) ∨ ∃ g n c, v = .slice (some ⟨g, 0, none⟩) n c ∧ xs.length = n := by
    rcases hO.2 with ⟨h, h0⟩ | ⟨g, cap, cur, h, _⟩
    · exact .inl ⟨h, List.eq_nil_of_length_eq_zero h0⟩
    · exact .inr ⟨g, _, cap, h, rfl⟩
  rcases hslice with ⟨rfl, rfl⟩ | ⟨g, n, c, rfl, hn⟩
  · go_enter Tryz.func24, Tryz.ntmps24
    go_wp2_with fail
    refine wp_loop_once ?_
    go_wp2_with (at_builtin; refine stop ?_)
    refine list_append (xs := []) (ys := [overF]) tiF rfl rfl rfl rfl (hO.kp ((Kp.refl _ w).alloc _) (fun _ _ => trivial)) (Own.made w 39 [overF] (by simp [maxLen])).rd (by simp) (by simp [maxLen]) ?_
    intro v' w' hO' hK' hB'
    go_wp2_with fail
    exact bodyPost_end (results_none rfl _ _ _) rfl ⟨⟨_, rfl⟩, ((Kp.refl _ w).alloc _).trans' hK' (fun _ _ h => h)⟩
  · rw [hn] at hb
    have HN := Lib.hid hn
    clear hn
    go_enter Tryz.func24, Tryz.ntmps24
    go_wp2_with fail
    go_loopw [2] (fun i wr => ∃ (k : Nat) (zs : List File), k ≤ n ∧ i = .int .i64 k ∧ zs.length = n ∧ Own EF 39 wr (.slice (some ⟨g, 0, none⟩) n c) zs ∧ Kp (fun k => k ≠ g) w wr) (fun i _ => n - (intOf i).toNat)
    case atStart => exact ⟨0, xs, Nat.zero_le _, rfl, HN.out, hO, Kp.refl _ _⟩
    case round =>
      obtain ⟨k, zs, hk, rfl, hz, hOr, hKr⟩ := hrel
      rename World => wo
      have HZ := Lib.hid hz
      by_cases hlt : k < n
      · have hd3 : decide ((k : Int) < (n : Int)) = true := decide_eq_true (by omega)
        have hlt' : (k : Int) < (n : Int) := by omega
        have h0 : (0 : Int) ≤ (k : Int) := by omega
        have hw : IntKind.i64.wrap ((k : Int) + 1) = (k : Int) + 1 := IntWalk.i64_in _ (by omega)
        obtain ⟨x, hx⟩ : ∃ x, zs[k]? = some x := ⟨_, List.getElem?_eq_getElem (by omega)⟩
        obtain ⟨c0, c1⟩ := hOr.file hx
        have f0 := hOr.free (k * 2)
        have f1 := hOr.free (k * 2 + 1)
        have HX := Lib.hid hx
        clear hz hx
        go_wp2_with fail
        go_roundw
        case rel => exact ⟨k + 1, zs.set k overF, by omega, by go_num, by rw [List.length_set]; exact HZ.out, hOr.setF (List.getElem?_eq_some_iff.1 HX.out).1 overF, (hKr.setCell (.inr (by simp)) _).setCell (.inr (by simp)) _⟩
        case measure => simp [intOf]; omega
      · have hd3 : decide ((k : Int) < (n : Int)) = false := decide_eq_false (by omega)
        clear hz
        go_wp2_with (at_builtin; refine stop ?_)
        refine list_append (v := .slice (some ⟨g, 0, none⟩) n c) (xs := zs) (ys := [overF]) tiF rfl rfl rfl rfl (hOr.kp ((Kp.refl _ wo).alloc _) (fun _ _ => trivial)) (Own.made wo 39 [overF] (by simp [maxLen])).rd (by rw [HZ.out]; simp; omega) (by rw [HZ.out]; simp [maxLen]; omega) ?_
        intro v' w' hO' hK' hB'
        go_wp2_with fail
        refine bodyPost_end (results_none rfl _ _ _) rfl ⟨⟨_, rfl⟩, ?_⟩
        refine ((hKr.alloc _).trans' hK' (fun k _ h e => h (by injection e with e; exact e.symm))).mono (fun k _ h e => h (by rw [e]; rfl))

end Go.Proofs.YtgjbfkaepalkiaaGreatDoor

namespace Go.Proofs.YtgjbfkaepalkiaaGreatDoor
open Go.RowKit
set_option linter.unusedVariables false
set_option linter.unusedSimpArgs false
attribute [local go_sem] Oper.semAt_some

theorem small_of_great {cs : List Cm} {m : Nat} (h : greatR cs m = false) : ∀ c ∈ cs, SmallC c := fun c hc => by
  obtain ⟨h1, h2, h3⟩ := (greatR_false h).2 c hc
  exact ⟨by omega, by omega, fun y hy => by have := (h3 y hy).1; omega⟩
theorem lowN_calls (x : Int) (n k : Nat) (w : World) (hk : 0 < n + k) (hn : n ≤ 1000) (hk2 : k ≤ 1000) :
    Calls Tryz.prog 18 #[.int .i64 x, .int .i64 ((n : Int) + (k : Int))] w fun e w' => (∃ j : Nat, j < n + k ∧ e = .returned (.int .i64 j)) ∧ w = w' := by
  have h := low_calls x (n + k) w hk (by omega)
  rw [Int.natCast_add] at h
  exact h

theorem best_empty (a b : Int) : bestF [] a b = [] := by
  have h : ∀ n, aheadF [] n = [] := fun n => by
    unfold aheadF getC
    rw [if_neg (by simp)]
  unfold bestF commonF
  rw [h a]
  rfl
theorem tree_of_get {cs : List Cm} {n : Int} {c : Cm} (h : getC cs n = some c) : treeC cs n = c.tree := by unfold treeC; rw [h]; rfl
theorem get_in {cs : List Cm} {n : Int} (h : 1 ≤ n ∧ n ≤ cs.length) : ∃ c, getC cs n = some c := Option.isSome_iff_exists.1 ((getC_isSome cs n).2 h)
theorem low1_calls (x : Int) (n : Nat) (w : World) (hn : 0 < n) (hm : n ≤ 1000) :
    Calls Tryz.prog 18 #[.int .i64 x, .int .i64 (n : Int)] w fun e w' => (∃ j : Nat, j < n ∧ e = .returned (.int .i64 j)) ∧ w = w' := low_calls x n w hn (by omega)
/-- Get, of one that is there. -/
theorem getOk_calls {I D : Fp} {rb : Nat} {cs : List Cm} {room : Nat} {w : World} (h : RepoX repoT I D w rb cs room) (n : Int) (hs : SmallR cs) (hn : 1 ≤ n ∧ n ≤ cs.length) : Calls Tryz.prog 29 #[.pointer (some ⟨rb, 0, none⟩), .int .i64 n] w fun e w' =>
    ∃ (pa ta : Option Addr) (pn pc tn tc : Nat) (nt : ByteArray), e = .returned (.tuple #[.agg #[.slice pa pn pc, .slice ta tn tc, .string nt], .bool true]) ∧ New EF 39 w.heap.size w' (.slice ta tn tc) (treeC cs n) ∧ Ext w w' := by
  obtain ⟨c0, hc0⟩ := get_in hn
  refine (getR_calls h n hs).mono ?_
  rintro e w' ⟨sv, ok, c, rfl, ⟨k, rfl, hN⟩, hx, hok⟩
  obtain ⟨⟨pa, pn, pc⟩, ⟨ta, tn, tc⟩, nt⟩ := k
  rcases hok with ⟨rfl, hc⟩ | ⟨_, hc, _⟩
  · exact ⟨pa, ta, pn, pc, tn, tc, nt, rfl, by rw [tree_of_get hc]; exact hN.t, hx⟩
  · rw [hc0] at hc; cases hc

theorem rd_of_blk {α : Type} {E : El α} {t : TypeId} {w : World} {g n : Nat} {ys : List α} (h : Blk w g t (E.flat ys).toArray) (hn : ys.length = n) (hm : n ≤ 1000) : Rd E (fun k => k < w.heap.size) w (.slice (some ⟨g, 0, none⟩) n n) ys := by
  subst hn
  have hO : Own E t w (.slice (some ⟨g, 0, none⟩) ys.length ys.length) ys := Own.of_blk (zs := []) (by rw [List.append_nil]; exact h) (by simp) (Nat.le_refl _) (by unfold maxLen; omega)
  exact hO.rd.wide fun k hk => hO.lt hk

end Go.Proofs.YtgjbfkaepalkiaaGreatDoor

namespace Go.Proofs.YtgjbfkaepalkiaaGreatDoor
open Go.RowKit
set_option linter.unusedVariables false
set_option linter.unusedSimpArgs false
attribute [local go_sem] Oper.semAt_some

/-- The parents of a merge. -/
def parF (t c : Int) : List Int := if t = c then [t] else [t, c]
/-- What two commits are merged to; where they conflict; whether they are there. -/
def ofF (cs : List Cm) (t c : Int) : Cm × List ByteArray × Bool :=
  if (getC cs t).isSome = true ∧ (getC cs c).isSome = true then
    if (joinOf textM (deepF cs 4 t c) (treeC cs t) (treeC cs c)).2 = [] then (⟨parF t c, (joinOf textM (deepF cs 4 t c) (treeC cs t) (treeC cs c)).1, ⟨#[]⟩⟩, [], true)
    else (noC, (joinOf textM (deepF cs 4 t c) (treeC cs t) (treeC cs c)).2, true)
  else (noC, [], false)
theorem ofF_not {cs : List Cm} {t c : Int} (h : ¬ ((getC cs t).isSome = true ∧ (getC cs c).isSome = true)) : ofF cs t c = (noC, [], false) := if_neg h
theorem ofF_bad {cs : List Cm} {t c : Int} (h : (getC cs t).isSome = true ∧ (getC cs c).isSome = true) (h2 : (joinOf textM (deepF cs 4 t c) (treeC cs t) (treeC cs c)).2 ≠ []) : ofF cs t c = (noC, (joinOf textM (deepF cs 4 t c) (treeC cs t) (treeC cs c)).2, true) := by
  unfold ofF; rw [if_pos h, if_neg h2]
theorem ofF_ok {cs : List Cm} {t c : Int} (h : (getC cs t).isSome = true ∧ (getC cs c).isSome = true) (h2 : (joinOf textM (deepF cs 4 t c) (treeC cs t) (treeC cs c)).2 = []) : ofF cs t c = (⟨parF t c, (joinOf textM (deepF cs 4 t c) (treeC cs t) (treeC cs c)).1, ⟨#[]⟩⟩, [], true) := by
  unfold ofF; rw [if_pos h, if_pos h2]

/-- A row of a merge's parents: in a block of its own, of two cells at most. -/
def ParW (n : Nat) (w : World) (v : SliceV) (ps : List Int) : Prop :=
  (v = ⟨none, 0, 0⟩ ∧ ps = []) ∨ ∃ (g : Nat) (xs : List Int), n ≤ g ∧ Blk w g 3 (EI.flat xs).toArray ∧ v = ⟨some ⟨g, 0, none⟩, ps.length, ps.length⟩ ∧ ps = xs.take ps.length ∧ ps.length ≤ xs.length ∧ xs.length ≤ 2
theorem ParW.less {n m : Nat} {w : World} {v : SliceV} {ps : List Int} (h : ParW n w v ps) (hm : m ≤ n) : ParW m w v ps := by
  rcases h with h | ⟨g, xs, h1, h2⟩
  · exact .inl h
  · exact .inr ⟨g, xs, by omega, h2⟩
theorem ParW.kp {n : Nat} {w w' : World} {v : SliceV} {ps : List Int} {S : Fp} (h : ParW n w v ps) (hk : Kp S w w') (hS : ∀ g, n ≤ g → S g) : ParW n w' v ps := by
  rcases h with h | ⟨g, xs, h1, h2, h3⟩
  · exact .inl h
  · exact .inr ⟨g, xs, h1, h2.kp hk (hS g h1), h3⟩
theorem ParW.ext {n : Nat} {w w' : World} {v : SliceV} {ps : List Int} (h : ParW n w v ps) (hk : Ext w w') : ParW n w' v ps := h.kp hk fun _ _ => trivial
theorem ParW.rd {n : Nat} {w : World} {v : SliceV} {ps : List Int} (h : ParW n w v ps) : Rd EI (fun k => n ≤ k ∧ k < w.heap.size) w v.val ps := by
  rcases h with ⟨rfl, rfl⟩ | ⟨g, xs, h1, h2, rfl, h4, h5, h6⟩
  · exact Rd.nil _ _
  · refine ⟨some ⟨g, 0, none⟩, ps.length, rfl, Nat.le_refl _, by unfold maxLen; omega, (fun h => by cases h), fun _ => ⟨g, 0, rfl, ⟨h1, h2.lt⟩, h2.lt, fun j u hu => ?_⟩⟩
    rw [Nat.zero_add, h2.cell j]
    have hfl : EI.flat ps = (EI.flat xs).take ps.length := by
      have e1 : ∀ l : List Int, EI.flat l = l.map (fun x => Value.int .i64 x) := fun l => by
        induction l with
        | nil => rfl
        | cons a l ih => show _ :: EI.flat l = _; rw [ih]; rfl
      rw [e1, e1, ← List.map_take, ← h4]
    rw [hfl] at hu
    rw [List.getElem?_take] at hu
    split at hu
    · simpa using hu
    · cases hu
/-- A merge's value. -/
structure MergeV (n : Nat) (w : World) (s : KS) (c : Cm) : Prop where
  p : ParW n w s.p c.parents
  t : New EF 39 n w s.t.val c.tree
  note : s.note = c.note
theorem MergeV.rd {n : Nat} {w : World} {s : KS} {c : Cm} (h : MergeV n w s c) : RdC (fun k => n ≤ k ∧ k < w.heap.size) w s c :=
  ⟨h.p.rd, h.t.1.rd.wide fun k hk => ⟨h.t.2 k hk, h.t.1.lt hk⟩, h.note⟩
theorem MergeV.ext {n : Nat} {w w' : World} {s : KS} {c : Cm} (h : MergeV n w s c) (hk : Ext w w') : MergeV n w' s c := ⟨h.p.ext hk, h.t.ext hk, h.note⟩
theorem MergeV.less {n m : Nat} {w : World} {s : KS} {c : Cm} (h : MergeV n w s c) (hm : m ≤ n) : MergeV m w s c := ⟨h.p.less hm, h.t.less hm, h.note⟩
theorem MergeV.none_ (n : Nat) (w : World) : MergeV n w ⟨⟨none, 0, 0⟩, ⟨none, 0, 0⟩, ⟨#[]⟩⟩ noC := ⟨.inl ⟨rfl, rfl⟩, New.nil _ _ _, rfl⟩

def MrgPost (w : World) (r : Cm × List ByteArray × Bool) (e : Ending) (w' : World) : Prop := ∃ (s : KS) (u : Value), e = .returned (.tuple #[s.val, u, .bool r.2.2]) ∧ MergeV w.heap.size w' s r.1 ∧ New ES 9 w.heap.size w' u r.2.1 ∧ Ext w w'

theorem results_cell_tmp2 {fn : Func} {p u x : Tmp} {ty : TypeId} (h : fn.results = #[.cell p ty, .tmp u, .tmp x]) (tmps : Array Value) (P : Program) (w : World) :
    (results fn tmps).run P w =
      ((asAddr (tmps.getD p undef)).run P w).andThen fun a w₁ => ((loadVar ty a).run P w₁).andThen fun v w₂ => .ok (.tuple #[v, tmps.getD u undef, tmps.getD x undef]) w₂ := by
  simp only [results, h]
  simp [Sem.run_bind, Result.andThen]

section
variable {I D : Fp} {rb : Nat} {cs : List Cm} {room : Nat} {w : World}
set_option maxHeartbeats 4000000 in
theorem mergeOf_calls (h : RepoX repoT I D w rb cs room) (hG : GoodR cs) (hn : cs.length ≤ 300) (t c : Int) : Calls Tryz.prog 33 #[.pointer (some ⟨rb, 0, none⟩), .int .i64 t, .int .i64 c] w (MrgPost w (ofF cs t c)) := by
  have HG1 := Lib.hid fun W (hW : Ext w W) n => getR_calls (h.ext hW) n hG.small
  have HB := Lib.hid fun W (hW : Ext w W) => baseR_calls (h.ext hW) hG hn t c
  have HMT := Lib.hid fun n => treeC_may hG n
  have HMD := Lib.hid (deepF_may hG 4 t c)
  have HNot := Lib.hid (ofF_not (cs := cs) (t := t) (c := c))
  have HBad := Lib.hid (ofF_bad (cs := cs) (t := t) (c := c))
  have HOk := Lib.hid (ofF_ok (cs := cs) (t := t) (c := c))
  have HTr : Hid (∀ (n : Int) (ok : Bool) (x : Cm), ((ok = true ∧ getC cs n = some x) ∨ (ok = false ∧ getC cs n = none ∧ x = noC)) → (getC cs n).isSome = ok ∧ treeC cs n = x.tree) := Lib.hid fun n ok x hh => by
    unfold treeC
    rcases hh with ⟨rfl, h⟩ | ⟨rfl, h, rfl⟩
    · rw [h]; exact ⟨rfl, rfl⟩
    · rw [h]; exact ⟨rfl, rfl⟩
  clear h hG
  generalize ofF cs t c = r at HNot HBad HOk
  go_enter Tryz.func33, Tryz.ntmps33
  go_wp2_with fail
  have hx0 : Ext w (w.alloc (.cells #[.slice none 0 0, .slice none 0 0, .string ⟨#[]⟩] 42)) := (Kp.refl _ w).alloc _
  have hB0 := Blk.new w 42 #[.slice none 0 0, .slice none 0 0, .string ⟨#[]⟩]
  have hz0 : (w.alloc (.cells #[.slice none 0 0, .slice none 0 0, .string ⟨#[]⟩] 42)).heap.size = w.heap.size + 1 := by simp
  generalize (w.alloc (.cells #[.slice none 0 0, .slice none 0 0, .string ⟨#[]⟩] 42)) = w0 at hx0 hB0 hz0 ⊢
  refine (HG1.out w0 hx0 t).mono ?_
  rintro e w1 ⟨sv, ok1, x1, rfl, ⟨k, rfl, hN1⟩, hx1, hok1⟩
  obtain ⟨⟨pa, pn, pc⟩, ⟨ta, tn, tc⟩, nt⟩ := k
  have hT1 := HTr.out t ok1 x1 hok1
  have hNt := hN1.t
  dsimp only [KS.val, SliceV.val] at hNt ⊢
  clear hN1 hok1
  go_wp2_with fail
  have hx2 : Ext w1 (w1.alloc (.cells #[.slice pa pn pc, .slice ta tn tc, .string nt] 42)) := (Kp.refl _ w1).alloc _
  have hB1 := Blk.new w1 42 #[.slice pa pn pc, .slice ta tn tc, .string nt]
  have hNt2 := hNt.ext hx2
  have hxw2 := hx0.trans (hx1.trans hx2)
  have hB02 := hB0.ext (hx1.trans hx2)
  have hz1 := hx1.size
  obtain ⟨b1, hb1⟩ : ∃ b1, w1.heap.size = b1 := ⟨_, rfl⟩
  have hz2 : (w1.alloc (.cells #[.slice pa pn pc, .slice ta tn tc, .string nt] 42)).heap.size = b1 + 1 := by simp [hb1]
  generalize (w1.alloc (.cells #[.slice pa pn pc, .slice ta tn tc, .string nt] 42)) = w2 at hx2 hB1 hNt2 hxw2 hB02 hz2 ⊢
  rw [hb1] at hB1 hz1 ⊢
  clear hb1
  refine (HG1.out w2 hxw2 c).mono ?_
  rintro e w3 ⟨sv, ok2, x2, rfl, ⟨k, rfl, hN3⟩, hx3, hok2⟩
  obtain ⟨⟨pa2, pn2, pc2⟩, ⟨ta2, tn2, tc2⟩, nt2⟩ := k
  have hT2 := HTr.out c ok2 x2 hok2
  have hNc := hN3.t
  dsimp only [KS.val, SliceV.val] at hNc ⊢
  have hx4 : Ext w3 (w3.alloc (.cells #[.slice pa2 pn2 pc2, .slice ta2 tn2 tc2, .string nt2] 42)) := (Kp.refl _ w3).alloc _
  have hB3 := Blk.new w3 42 #[.slice pa2 pn2 pc2, .slice ta2 tn2 tc2, .string nt2]
  have HNc := Lib.hid (hNc.ext hx4)
  have HNt := Lib.hid (hNt2.ext (hx3.trans hx4))
  have hB03 := hB02.ext hx3
  have HB04 := Lib.hid (hB02.ext (hx3.trans hx4))
  have HB14 := Lib.hid (hB1.ext (hx3.trans hx4))
  have hxw4 := hxw2.trans (hx3.trans hx4)
  have hz3 := hx3.size
  have HT1 := Lib.hid hT1
  have HT2 := Lib.hid hT2
  clear hN3 hok2 HG1 HTr hNt hx1 hx2 hNt2 hB0 hB02 hB1 hNc hT1 hT2
  obtain ⟨b3, hb3⟩ : ∃ b3, w3.heap.size = b3 := ⟨_, rfl⟩
  have hz4 : (w3.alloc (.cells #[.slice pa2 pn2 pc2, .slice ta2 tn2 tc2, .string nt2] 42)).heap.size = b3 + 1 := by simp [hb3]
  rw [hb3] at hB3 hz3
  have HB34 := Lib.hid hB3
  have HX4 := Lib.hid hxw4
  have c30 : (w3.alloc (.cells #[.slice pa2 pn2 pc2, .slice ta2 tn2 tc2, .string nt2] 42)).cell? ⟨w.heap.size, 0, none⟩ = some (.slice none 0 0) := HB04.out.cell 0
  have c31 : (w3.alloc (.cells #[.slice pa2 pn2 pc2, .slice ta2 tn2 tc2, .string nt2] 42)).cell? ⟨w.heap.size, 1, none⟩ = some (.slice none 0 0) := HB04.out.cell 1
  have c32 : (w3.alloc (.cells #[.slice pa2 pn2 pc2, .slice ta2 tn2 tc2, .string nt2] 42)).cell? ⟨w.heap.size, 2, none⟩ = some (.string ⟨#[]⟩) := HB04.out.cell 2
  have f30 := HB04.out.frozen 0
  have f31 := HB04.out.frozen 1
  have f32 := HB04.out.frozen 2
  have hne3 : w.heap.size ≠ b3 := by have := hB03.lt; omega
  clear hB03
  clear hB3 hx3 hx4 hxw4 hxw2
  by_cases hok : ok1 = true ∧ ok2 = true
  · obtain ⟨rfl, rfl⟩ := hok
    have hboth : (getC cs t).isSome = true ∧ (getC cs c).isSome = true := ⟨HT1.out.1, HT2.out.1⟩
    have HBad' := Lib.hid (HBad.out hboth)
    have HOk' := Lib.hid (HOk.out hboth)
    clear HNot HBad HOk hboth
    have HNt' : Hid (RdF (w3.alloc (.cells #[.slice pa2 pn2 pc2, .slice ta2 tn2 tc2, .string nt2] 42)) (.slice ta tn tc) (treeC cs t)) := Lib.hid (by rw [HT1.out.2]; exact HNt.out.rdF)
    have HNc' : Hid (RdF (w3.alloc (.cells #[.slice pa2 pn2 pc2, .slice ta2 tn2 tc2, .string nt2] 42)) (.slice ta2 tn2 tc2) (treeC cs c)) := Lib.hid (by rw [HT2.out.2]; exact HNc.out.rdF)
    clear HT1 HT2 HNt HNc
    go_wp2_with fail
    try rw [hb3]
    clear c30 c31 c32 f30 f31 f32
    generalize (w3.alloc (.cells #[.slice pa2 pn2 pc2, .slice ta2 tn2 tc2, .string nt2] 42)) = w4 at HB04 HB14 HB34 HNc' HNt' HX4 hz4 ⊢
    have HS : Hid (∀ W, Ext w4 W → W.cell? ⟨b1, 1, none⟩ = some (.slice ta tn tc) ∧ W.cell? ⟨b3, 1, none⟩ = some (.slice ta2 tn2 tc2)) := Lib.hid fun W hW => ⟨(HB14.out.ext hW).cell 1, (HB34.out.ext hW).cell 1⟩
    have HBs := Lib.hid fun W (hW : Ext w4 W) => HB.out W (HX4.out.trans hW)
    clear HB
    go_region_held3 (fun W => W.cell? ⟨b1, 1, none⟩ = some (.slice ta tn tc) ∧ W.cell? ⟨b3, 1, none⟩ = some (.slice ta2 tn2 tc2))
      (first | exact HS.out _ hx6 | exact HS.out _ hx5 | exact HS.out _ ((Kp.refl _ w4).drew) | fail)
      (first
        | (go_at_call 19; ((with_reducible refine Calls.mono (HBs.out _ ?_) ?_)); (exact (Kp.refl _ w4).drew); rintro e w5 ⟨u5, rfl, hN5, hx5'⟩; have hx5 : Ext w4 w5 := ((Kp.refl _ w4).drew).trans hx5')
        | (go_at_call 71; have hJ := ofM_calls _ _ _ _ _ _ w5 hN5.rdF (HNt'.out.ext hx5) (HNc'.out.ext hx5) HMD.out (HMT.out t) (HMT.out c); ((with_reducible refine Calls.mono hJ ?_)); rintro e w6 ⟨u6, s6, rfl, hN6, hM6, hx6'⟩; have hx6 : Ext w4 w6 := hx5.trans hx6')
        | fail)
    have hB06 := HB04.out.ext hx6
    have c60 : w6.cell? ⟨w.heap.size, 0, none⟩ = some (.slice none 0 0) := hB06.cell 0
    have c61 : w6.cell? ⟨w.heap.size, 1, none⟩ = some (.slice none 0 0) := hB06.cell 1
    have c62 : w6.cell? ⟨w.heap.size, 2, none⟩ = some (.string ⟨#[]⟩) := hB06.cell 2
    have f60 := hB06.frozen 0
    have f61 := hB06.frozen 1
    have f62 := hB06.frozen 2
    have HB06 := Lib.hid hB06
    have HX6 := Lib.hid (HX4.out.trans hx6)
    have hz5 := hx5.size
    have hz46 := hx6.size
    have hN6' := Lib.hid hN6
    have hM6' := Lib.hid hM6
    obtain ⟨A6, n6, d6, rfl⟩ := hN6.1.slice
    obtain ⟨Z6, e6, rfl, _⟩ := hM6.1.rd.open_
    have hzw := HX4.out.size
    have hl0 := HB04.out.lt
    clear HS HBs hN5 hx5 hx5' hx6 hx6' hN6 hM6 hB06 HNt' HNc' HMD HMT
    obtain ⟨j, hj⟩ : ∃ j, joinOf textM (deepF cs 4 t c) (treeC cs t) (treeC cs c) = j := ⟨_, rfl⟩
    rw [hj] at HBad' HOk' hN6' hM6' ⊢
    clear hj
    obtain ⟨j1, j2⟩ := j
    dsimp only at HBad' HOk' hN6' hM6' ⊢
    cases j2 with
    | cons y ys =>
      have hr := HBad'.out (by simp)
      subst hr
      have hd0 : decide ((0 : Int) < ((y :: ys).length : Int)) = true := decide_eq_true (by rw [List.length_cons]; omega)
      have hd1 : decide ((0 : Int) < (ys.length : Int) + 1) = true := decide_eq_true (by omega)
      clear HBad' HOk'
      go_wp2_with fail
      have HB7 : Blk (((w6.setCell ⟨w.heap.size, 0, none⟩ (.slice none 0 0)).setCell ⟨w.heap.size, 1, none⟩ (.slice none 0 0)).setCell ⟨w.heap.size, 2, none⟩ (.string ⟨#[]⟩)) w.heap.size 42 #[.slice none 0 0, .slice none 0 0, .string ⟨#[]⟩] := ((HB06.out.set_ 0 _).set_ 1 _).set_ 2 _
      refine bodyPost_ret (by rw [results_cell_tmp2 rfl]; simp only [Array.getD_eq_getD_getElem?]; simp [asAddr]; rw [run_loadVar_row _ _ _ _ _ _ _ HB7 Tryz.underlying42 (by rfl) (by kernel_rfl)]; rfl) rfl ?_
      have hk7 : Kp (fun k => k ≠ w.heap.size) w6 (((w6.setCell ⟨w.heap.size, 0, none⟩ (.slice none 0 0)).setCell ⟨w.heap.size, 1, none⟩ (.slice none 0 0)).setCell ⟨w.heap.size, 2, none⟩ (.string ⟨#[]⟩)) := (((Kp.refl _ w6).setCell (.inr (by simp)) _).setCell (.inr (by simp)) _).setCell (.inr (by simp)) _
      refine ⟨_, _, rfl, MergeV.none_ _ _, (hM6'.out.kp hk7 fun g e => by have := hM6'.out.2 g e; omega).less (by omega), HX6.out.trans' hk7 fun k hk _ => by omega⟩
    | nil =>
      have hr := HOk'.out rfl
      subst hr
      clear HBad' HOk'
      by_cases htc : t = c
      · subst htc
        have hde : (t == t) = true := by simp
        have hB07 := HB06.out.ext ((Kp.refl All w6).alloc (.cells #[.int .i64 t, .int .i64 t] 3))
        have hC07 := Blk.new w6 3 #[.int .i64 t, .int .i64 t]
        have c70 := hB07.cell 0
        have c71 := hB07.cell 1
        have c72 := hB07.cell 2
        have f70 := hB07.frozen 0
        have f71 := hB07.frozen 1
        have f72 := hB07.frozen 2
        go_wp2_with fail
        have HB8 : Blk ((((w6.alloc (.cells #[.int .i64 t, .int .i64 t] 3)).setCell ⟨w.heap.size, 0, none⟩ (.slice (some ⟨w6.heap.size, 0, none⟩) 1 1)).setCell ⟨w.heap.size, 1, none⟩ (.slice A6 n6 d6)).setCell ⟨w.heap.size, 2, none⟩ (.string ⟨#[]⟩)) w.heap.size 42 #[.slice (some ⟨w6.heap.size, 0, none⟩) 1 1, .slice A6 n6 d6, .string ⟨#[]⟩] := ((hB07.set_ 0 _).set_ 1 _).set_ 2 _
        refine bodyPost_ret (by rw [results_cell_tmp2 rfl]; simp only [Array.getD_eq_getD_getElem?]; simp [asAddr]; rw [run_loadVar_row _ _ _ _ _ _ _ HB8 Tryz.underlying42 (by rfl) (by kernel_rfl)]; rfl) rfl ?_
        have hk8 : Kp (fun k => k ≠ w.heap.size) (w6.alloc (.cells #[.int .i64 t, .int .i64 t] 3)) ((((w6.alloc (.cells #[.int .i64 t, .int .i64 t] 3)).setCell ⟨w.heap.size, 0, none⟩ (.slice (some ⟨w6.heap.size, 0, none⟩) 1 1)).setCell ⟨w.heap.size, 1, none⟩ (.slice A6 n6 d6)).setCell ⟨w.heap.size, 2, none⟩ (.string ⟨#[]⟩)) := (((Kp.refl _ _).setCell (.inr (by simp)) _).setCell (.inr (by simp)) _).setCell (.inr (by simp)) _
        refine ⟨⟨⟨some ⟨w6.heap.size, 0, none⟩, 1, 1⟩, ⟨A6, n6, d6⟩, ⟨#[]⟩⟩, _, rfl, ⟨.inr ⟨w6.heap.size, [t, t], by omega, hC07.kp hk8 (by omega), by unfold parF; simp, by unfold parF; simp, by unfold parF; simp, by simp⟩, ?_, rfl⟩, New.nil _ _ _, (HX6.out.alloc _).trans' hk8 fun k hk _ => by omega⟩
        exact ((hN6'.out.ext ((Kp.refl _ _).alloc _)).kp hk8 fun g e => by have := hN6'.out.2 g e; omega).less (by omega)
      · have hde : (t == c) = false := by rw [beq_eq_false_iff_ne]; exact htc
        have hB07 := HB06.out.ext ((Kp.refl All w6).alloc (.cells #[.int .i64 t, .int .i64 c] 3))
        have hC07 := Blk.new w6 3 #[.int .i64 t, .int .i64 c]
        have c70 := hB07.cell 0
        have c71 := hB07.cell 1
        have c72 := hB07.cell 2
        have f70 := hB07.frozen 0
        have f71 := hB07.frozen 1
        have f72 := hB07.frozen 2
        go_wp2_with fail
        have HB8 : Blk ((((w6.alloc (.cells #[.int .i64 t, .int .i64 c] 3)).setCell ⟨w.heap.size, 0, none⟩ (.slice (some ⟨w6.heap.size, 0, none⟩) 2 2)).setCell ⟨w.heap.size, 1, none⟩ (.slice A6 n6 d6)).setCell ⟨w.heap.size, 2, none⟩ (.string ⟨#[]⟩)) w.heap.size 42 #[.slice (some ⟨w6.heap.size, 0, none⟩) 2 2, .slice A6 n6 d6, .string ⟨#[]⟩] := ((hB07.set_ 0 _).set_ 1 _).set_ 2 _
        refine bodyPost_ret (by rw [results_cell_tmp2 rfl]; simp only [Array.getD_eq_getD_getElem?]; simp [asAddr]; rw [run_loadVar_row _ _ _ _ _ _ _ HB8 Tryz.underlying42 (by rfl) (by kernel_rfl)]; rfl) rfl ?_
        have hk8 : Kp (fun k => k ≠ w.heap.size) (w6.alloc (.cells #[.int .i64 t, .int .i64 c] 3)) ((((w6.alloc (.cells #[.int .i64 t, .int .i64 c] 3)).setCell ⟨w.heap.size, 0, none⟩ (.slice (some ⟨w6.heap.size, 0, none⟩) 2 2)).setCell ⟨w.heap.size, 1, none⟩ (.slice A6 n6 d6)).setCell ⟨w.heap.size, 2, none⟩ (.string ⟨#[]⟩)) := (((Kp.refl _ _).setCell (.inr (by simp)) _).setCell (.inr (by simp)) _).setCell (.inr (by simp)) _
        refine ⟨⟨⟨some ⟨w6.heap.size, 0, none⟩, 2, 2⟩, ⟨A6, n6, d6⟩, ⟨#[]⟩⟩, _, rfl, ⟨.inr ⟨w6.heap.size, [t, c], by omega, hC07.kp hk8 (by omega), by unfold parF; rw [if_neg htc]; rfl, by unfold parF; rw [if_neg htc]; rfl, by unfold parF; rw [if_neg htc]; simp, by simp⟩, ?_, rfl⟩, New.nil _ _ _, (HX6.out.alloc _).trans' hk8 fun k hk _ => by omega⟩
        exact ((hN6'.out.ext ((Kp.refl _ _).alloc _)).kp hk8 fun g e => by have := hN6'.out.2 g e; omega).less (by omega)
  · have hr := HNot.out (fun hh => hok ⟨HT1.out.1.symm.trans hh.1, HT2.out.1.symm.trans hh.2⟩)
    subst hr
    clear HNot HBad HOk
    cases ok1 with
    | false =>
          go_wp2_with fail
          have HB5 : Blk ((((w3.alloc (.cells #[.slice pa2 pn2 pc2, .slice ta2 tn2 tc2, .string nt2] 42)).setCell ⟨w.heap.size, 0, none⟩ (.slice none 0 0)).setCell ⟨w.heap.size, 1, none⟩ (.slice none 0 0)).setCell ⟨w.heap.size, 2, none⟩ (.string ⟨#[]⟩)) w.heap.size 42 #[.slice none 0 0, .slice none 0 0, .string ⟨#[]⟩] := ((HB04.out.set_ 0 _).set_ 1 _).set_ 2 _
          refine bodyPost_ret (by rw [results_cell_tmp2 rfl]; simp only [Array.getD_eq_getD_getElem?]; simp [asAddr]; rw [run_loadVar_row _ _ _ _ _ _ _ HB5 Tryz.underlying42 (by rfl) (by kernel_rfl)]; rfl) rfl ?_
          exact ⟨_, _, rfl, MergeV.none_ _ _, New.nil _ _ _, ((HX4.out.setCell (.inl (Nat.le_refl _)) _).setCell (.inl (Nat.le_refl _)) _).setCell (.inl (Nat.le_refl _)) _⟩
    | true =>
      cases ok2 with
      | true => exact absurd ⟨rfl, rfl⟩ hok
      | false =>
          go_wp2_with fail
          have HB5 : Blk ((((w3.alloc (.cells #[.slice pa2 pn2 pc2, .slice ta2 tn2 tc2, .string nt2] 42)).setCell ⟨w.heap.size, 0, none⟩ (.slice none 0 0)).setCell ⟨w.heap.size, 1, none⟩ (.slice none 0 0)).setCell ⟨w.heap.size, 2, none⟩ (.string ⟨#[]⟩)) w.heap.size 42 #[.slice none 0 0, .slice none 0 0, .string ⟨#[]⟩] := ((HB04.out.set_ 0 _).set_ 1 _).set_ 2 _
          refine bodyPost_ret (by rw [results_cell_tmp2 rfl]; simp only [Array.getD_eq_getD_getElem?]; simp [asAddr]; rw [run_loadVar_row _ _ _ _ _ _ _ HB5 Tryz.underlying42 (by rfl) (by kernel_rfl)]; rfl) rfl ?_
          exact ⟨_, _, rfl, MergeV.none_ _ _, New.nil _ _ _, ((HX4.out.setCell (.inl (Nat.le_refl _)) _).setCell (.inl (Nat.le_refl _)) _).setCell (.inl (Nat.le_refl _)) _⟩
end

end Go.Proofs.YtgjbfkaepalkiaaGreatDoor

namespace Go.Proofs.YtgjbfkaepalkiaaGreatDoor
open Go.RowKit
set_option linter.unusedVariables false
set_option linter.unusedSimpArgs false
attribute [local go_sem] Oper.semAt_some

set_option maxHeartbeats 1000000 in
theorem sameCommit_calls (s s' : KS) (c d : Cm) (S T : Fp) (w : World) (hR : RdC S w s c) (hR' : RdC T w s' d) :
    Calls Tryz.prog 35 #[s.val, s'.val] w (SamePost w (sameC c d)) := by
  have hI := fun W (hW : Ext w W) => sameInts_calls s.p.val s'.p.val c.parents d.parents S T W (hR.ext hW).p (hR'.ext hW).p
  have hF := fun W (hW : Ext w W) => sameFiles_calls s.t.val s'.t.val c.tree d.tree S T W (hR.ext hW).t (hR'.ext hW).t
  have hv : sameC c d = (decide (c.parents = d.parents) && (sameB c.tree d.tree && (c.note.toList == d.note.toList))) := rfl
  obtain ⟨A, a, B, b, rfl, hA, hB⟩ := hR.open_
  obtain ⟨A', a', B', b', rfl, hA', hB'⟩ := hR'.open_
  dsimp only [SliceV.val] at hI hF
  show Calls _ _ #[.agg #[.slice A c.parents.length a, .slice B c.tree.length b, .string c.note], .agg #[.slice A' d.parents.length a', .slice B' d.tree.length b', .string d.note]] w _
  obtain ⟨n, hn⟩ : ∃ n, c.parents.length = n := ⟨_, rfl⟩
  obtain ⟨m, hm⟩ : ∃ m, c.tree.length = m := ⟨_, rfl⟩
  obtain ⟨nt, hnt⟩ : ∃ m, c.note = m := ⟨_, rfl⟩
  obtain ⟨n', hn'⟩ : ∃ n, d.parents.length = n := ⟨_, rfl⟩
  obtain ⟨m', hm'⟩ : ∃ m, d.tree.length = m := ⟨_, rfl⟩
  obtain ⟨nt', hnt'⟩ : ∃ m, d.note = m := ⟨_, rfl⟩
  obtain ⟨q, hq⟩ : ∃ q, sameC c d = q := ⟨_, rfl⟩
  rw [hq] at hv
  rw [hn, hn'] at hI
  rw [hm, hm'] at hF
  rw [hnt, hnt'] at hv
  rw [hn, hm, hnt, hn', hm', hnt', hq]
  generalize decide (c.parents = d.parents) = b1 at hI hv
  generalize sameB c.tree d.tree = b2 at hF hv
  have HI := Lib.hid hI
  have HF := Lib.hid hF
  have HV := Lib.hid hv
  clear hI hF hA hB hR hA' hB' hR' hn hm hnt hn' hm' hnt' hq hv
  cases h3 : (nt.toList == nt'.toList) with
  | false =>
    have hr : q = false := by rw [HV.out, h3]; simp
    clear HI HF HV
    go_enter Tryz.func35, Tryz.ntmps35
    go_wp2_with fail
    go_ret
    exact ⟨by rw [hr]; rfl, ((Kp.refl _ w).alloc _).alloc _⟩
  | true =>
    have HV' := Lib.hid (show q = (b1 && b2) by rw [HV.out, h3]; simp)
    clear HV
    go_enter Tryz.func35, Tryz.ntmps35
    go_wp2_with fail
    refine (HI.out _ (by first | exact ((Kp.refl _ w).alloc _).alloc _)).mono ?_
    rintro e w1 ⟨rfl, hx1⟩
    clear HI
    have hx : Ext w w1 := (((Kp.refl _ w).alloc _).alloc _).trans hx1
    have hb1 := ((Blk.new w 42 #[.slice A n a, .slice B m b, .string nt]).ext ((Kp.refl _ _).alloc (.cells #[.slice A' n' a', .slice B' m' b', .string nt'] 42))).ext hx1
    have hb2 := (Blk.new (w.alloc (.cells #[.slice A n a, .slice B m b, .string nt] 42)) 42 #[.slice A' n' a', .slice B' m' b', .string nt']).ext hx1
    rw [World.size_alloc] at hb2
    have c1 : w1.cell? ⟨w.heap.size, 1, none⟩ = some (.slice B m b) := hb1.cell 1
    have d1 : w1.cell? ⟨w.heap.size + 1, 1, none⟩ = some (.slice B' m' b') := hb2.cell 1
    clear hx1 hb1 hb2
    cases b1 with
    | false =>
      go_wp2_with fail
      go_ret
      exact ⟨by rw [HV'.out]; rfl, hx⟩
    | true =>
      go_wp2_with fail
      refine (HF.out _ hx).mono ?_
      rintro e w2 ⟨rfl, hx2⟩
      go_wp2_with fail
      go_ret
      exact ⟨by rw [HV'.out]; simp, hx.trans hx2⟩

def cleanB (r : Cm × List ByteArray × Bool) : Bool := r.2.2 && r.2.1.isEmpty
theorem clean_of {w : World} {P : Program} {f : FuncId} {args : Array Value} {r : Cm × List ByteArray × Bool} (h : Calls P f args w (MrgPost w r)) : Calls P f args w fun e w' => ∃ (pa ta A : Option Addr) (pn pc tn tc e' : Nat) (nt : ByteArray), e = .returned (.tuple #[.agg #[.slice pa pn pc, .slice ta tn tc, .string nt], .slice A r.2.1.length e', .bool r.2.2]) ∧ Ext w w' := by
  refine h.mono ?_
  rintro e w' ⟨s, u, rfl, hV, hU, hx⟩
  obtain ⟨⟨pa, pn, pc⟩, ⟨ta, tn, tc⟩, nt⟩ := s
  obtain ⟨A, c, rfl, _⟩ := hU.1.rd.open_
  exact ⟨pa, ta, A, pn, pc, tn, tc, c, nt, rfl, hx⟩
section
variable {I D : Fp} {rb : Nat} {cs : List Cm} {room : Nat} {w : World}
theorem mergeClean_calls (h : RepoX repoT I D w rb cs room) (hG : GoodR cs) (hn : cs.length ≤ 300) (t c : Int) : Calls Tryz.prog 37 #[.pointer (some ⟨rb, 0, none⟩), .int .i64 t, .int .i64 c] w (SamePost w (cleanB (ofF cs t c))) := by
  have HM := Lib.hid (clean_of (mergeOf_calls h hG hn t c))
  clear h hG
  unfold cleanB
  obtain ⟨⟨m, bad, ok⟩, hr⟩ : ∃ r, ofF cs t c = r := ⟨_, rfl⟩
  rw [hr] at HM ⊢
  clear hr
  dsimp only at HM ⊢
  go_enter Tryz.func37, Tryz.ntmps37
  go_wp2_with fail
  refine HM.out.mono ?_
  rintro e w1 ⟨pa, ta, A, pn, pc, tn, tc, e', nt, rfl, hx1⟩
  clear HM
  cases ok with
  | false =>
    go_wp2_with fail
    go_ret
    exact ⟨by first | rfl | simp, hx1.alloc _⟩
  | true =>
    cases bad with
    | nil =>
      go_wp2_with fail
      go_ret
      exact ⟨by first | rfl | simp, hx1.alloc _⟩
    | cons y ys =>
      have hd : (((y :: ys).length : Int) == 0) = false := by rw [beq_eq_false_iff_ne, List.length_cons]; omega
      have hd' : ((ys.length : Int) + 1 == 0) = false := by rw [beq_eq_false_iff_ne]; omega
      go_wp2_with fail
      go_ret
      exact ⟨by first | rfl | simp, hx1.alloc _⟩
end

end Go.Proofs.YtgjbfkaepalkiaaGreatDoor

namespace Go.Proofs.YtgjbfkaepalkiaaGreatDoor
open Go.RowKit
set_option linter.unusedVariables false
set_option linter.unusedSimpArgs false
attribute [local go_sem] Oper.semAt_some

set_option maxHeartbeats 2000000 in
theorem made14_calls (v : Value) (ss : List KS) (cs : List Cm) (S : Fp) (w : World) (hR : Rd EK S w v ss) (hK : RepK S w ss cs) (hS : ∀ k, S k → k < w.heap.size) (hs : ∀ c ∈ cs, SmallC c) (hn : cs.length ≤ 100) :
    Calls Tryz.prog 32 #[v] w (MadePost S w cs) := by
  obtain ⟨A, c, rfl, hO⟩ := hR.open_
  have hlen := hO.len
  have hl := hK.len
  have HO := Lib.hid fun W (hW : Ext w W) => hO.kp (hW.mono fun _ _ _ => trivial)
  have HK := Lib.hid fun W (hW : Ext w W) => hK.ext hW
  obtain ⟨n, hxn⟩ : ∃ n, cs.length = n := ⟨_, rfl⟩
  rw [hxn] at hl hn
  rw [hl] at hlen ⊢
  have HX := Lib.hid hxn
  have HL := Lib.hid hl
  have HS := Lib.hid hS
  have HSm := Lib.hid hs
  clear hR hO hK hxn hl hS hs
  go_enter Tryz.func32, Tryz.ntmps32
  go_wp2_with fail
  refine (newR_calls 60 w (by omega)).mono ?_
  rintro e w1 hP1
  have hP1' := hP1
  obtain ⟨rfl, -⟩ := hP1'
  have HP1 := Lib.hid hP1
  go_wp2_with fail
  refine (refNew_calls 60 w1 (by omega)).mono ?_
  rintro e w2 hP2
  have hP2' := hP2
  obtain ⟨rfl, -⟩ := hP2'
  have HT := Lib.hid (TwoR.start HS.out HP1.out hP2)
  clear hP1 hP2 HP1
  go_wp2_with fail
  go_loopw [6] (fun i wr => ∃ (k : Nat) (I D D' : Fp), k ≤ n ∧ i = .int .i64 k ∧ TwoR S w wr w.heap.size w1.heap.size (madeC (cs.take k)) (madeC (cs.take k)) I D D') (fun i _ => n - (intOf i).toNat)
  case atStart => exact ⟨0, _, _, _, Nat.zero_le _, rfl, HT.out⟩
  case round =>
    obtain ⟨k, I, D, D', hk, rfl, hT⟩ := hrel
    rename World => wo
    have HTo := Lib.hid hT
    have hx := hT.x
    clear hT HT
    by_cases hlt : k < n
    · have hd : decide ((k : Int) < (n : Int)) = true := decide_eq_true (by omega)
      have hkc : k < cs.length := by have := HX.out; omega
      have hkr : k < ss.length := by have := HL.out; omega
      obtain ⟨b, off, rfl, hSb, hb, c0, c1, c2⟩ := (HO.out wo hx).rd.kom hkr
      have hRx := (HK.out wo hx).get k hkr hkc
      have hsm := HSm.out cs[k] (List.getElem_mem hkc)
      have hgood : GoodR (madeC (cs.take k)) := madeC_good fun c hc => HSm.out c (List.take_subset _ _ hc)
      have hml : (madeC (cs.take k)).length ≤ 1000 := by have := madeC_len (cs.take k); rw [List.length_take] at this; omega
      have HT1 : Hid (madeC (cs.take (k + 1)) = (addC (madeC (cs.take k)) 60 cs[k]).1) := Lib.hid (by rw [take_snoc cs hkc, madeC_snoc])
      have hA1 := addR_calls HTo.out.r ss[k] cs[k] S hRx hsm hml (by omega)
      have hlt' : (k : Int) < (n : Int) := by omega
      have h0 : (0 : Int) ≤ (k : Int) := by omega
      have hw : IntKind.i64.wrap ((k : Int) + 1) = (k : Int) + 1 := IntWalk.i64_in _ (by omega)
      have hA2 : Hid (∀ w3 I1 D1 D2, TwoR S w w3 w.heap.size w1.heap.size I1 (madeC (cs.take k)) D1 D2 D' → Ext w w3 → Calls Tryz.prog 57 #[.pointer (some ⟨w1.heap.size, 0, none⟩), ss[k].val] w3 (RefAddPost refT S D' w3 w1.heap.size (madeC (cs.take k)) 60 cs[k])) := Lib.hid fun w3 I1 D1 D2 h hx3 => refAdd_calls h.q ss[k] cs[k] ((HK.out w3 hx3).get k hkr hkc) hsm hml (by omega)
      have hSb' := HS.out b hSb
      obtain ⟨xk, hrk⟩ : ∃ x, ss[k] = x := ⟨_, rfl⟩
      rw [hrk] at c0 c1 c2 hA1 hA2
      obtain ⟨⟨pa, pn, pc⟩, ⟨ta, tn, tc⟩, nt⟩ := xk
      dsimp only [KS.val, SliceV.val] at c0 c1 c2 hA1 hA2
      generalize cs[k] = ck at HT1 hA1 hA2 hRx hsm
      have HA1 := Lib.hid hA1
      clear hRx hrk hsm hgood hA1
      go_wp2_with fail
      refine HA1.out.mono ?_
      rintro e w3 hP3
      have hP3' := hP3
      obtain ⟨rfl, -⟩ := hP3'
      obtain ⟨I1, D1, hT3⟩ := HTo.out.add HS.out hP3
      have HT3 := Lib.hid hT3
      have hbk : ∀ (i : Nat) (v : Value), wo.cell? ⟨b, i, none⟩ = some v → w3.cell? ⟨b, i, none⟩ = some v := fun i v h => by
        obtain ⟨_, _, _, _, _, _, h4⟩ := hP3
        exact (h4.cell (p := ⟨b, i, none⟩) hb fun hd => by have := HTo.out.lowD _ hd; dsimp only at this; omega).trans h
      have d0 := hbk _ _ c0
      have d1 := hbk _ _ c1
      have d2 := hbk _ _ c2
      have hA2' := Lib.hid (hA2.out w3 _ _ _ hT3 hT3.x)
      clear hP3 hT3 hbk c0 c1 c2 hA2 HA1
      go_wp2_with fail
      refine hA2'.out.mono ?_
      rintro e w4 hP4
      have hP4' := hP4
      obtain ⟨rfl, -⟩ := hP4'
      obtain ⟨D2, hT4⟩ := HT3.out.radd hP4
      have HT4 := Lib.hid hT4
      clear hP4 hT4 hA2'
      go_wp2_with fail
      go_roundw
      case rel => exact ⟨k + 1, I1, D1, D2, by omega, by go_num, by rw [HT1.out]; exact HT4.out⟩
      case measure => simp [intOf]; omega
    · have hd : decide ((k : Int) < (n : Int)) = false := decide_eq_false (by omega)
      have hall : cs.take k = cs := List.take_of_length_le (by have := HX.out; omega)
      rw [hall] at HTo
      obtain ⟨A2, c2, rows, hB2, hO2, _, hl2⟩ := HTo.out.q.rd
      have q0 : wo.cell? ⟨w1.heap.size, 0, none⟩ = some (.slice A2 (madeC cs).length c2) := hB2.cell 0
      have hln := fun k => lenR_calls (HTo.out.r.ext ((Kp.refl _ wo).drewN k))
      obtain ⟨m, hm⟩ : ∃ m, (madeC cs).length = m := ⟨_, rfl⟩
      rw [hm] at q0 hln
      have HLn := Lib.hid hln
      clear hall hB2 hO2 hl2 hm hln
      go_wp2_with fail
      go_quiet ((go_at_call 25; exact Calls.quiet_of_same ((HLn.out _).mono fun _ _ h => ⟨h.1, h.2.symm⟩)))
      have hTn := Lib.hid (HTo.out.ext ((Kp.refl _ wo).drewN nq))
      clear HLn q0
      go_wp2_with fail
      go_returns
      exact ⟨_, _, _, _, _, rfl, hTn.out⟩


end Go.Proofs.YtgjbfkaepalkiaaGreatDoor

namespace Go.Proofs.YtgjbfkaepalkiaaGreatDoor
open Go.RowKit
set_option linter.unusedVariables false
set_option linter.unusedSimpArgs false
attribute [local go_sem] Oper.semAt_some

def a14 : List File := [⟨⟨#[97]⟩, ⟨#[]⟩⟩]
def b14 : List File := [⟨⟨#[98]⟩, ⟨#[]⟩⟩]
def ab14 : List File := [⟨⟨#[97]⟩, ⟨#[]⟩⟩, ⟨⟨#[98]⟩, ⟨#[]⟩⟩]
def cs14 : List Cm := [⟨[], [], ⟨#[]⟩⟩, ⟨[1], a14, ⟨#[]⟩⟩, ⟨[1], b14, ⟨#[]⟩⟩]
theorem cs14_made : madeC cs14 = cs14 := by kernel_rfl
theorem cs14_of : ofF cs14 2 3 = (⟨[2, 3], ab14, ⟨#[]⟩⟩, [], true) := by kernel_rfl
theorem cs14_small : ∀ c ∈ cs14, SmallC c := by
  intro c hc
  simp only [cs14, List.mem_cons, List.not_mem_nil, or_false] at hc
  rcases hc with rfl | rfl | rfl
  · exact ⟨by decide, by decide, fun y hy => by cases hy⟩
  · exact ⟨by decide, by decide, fun y hy => by simp only [a14, List.mem_singleton] at hy; subst hy; decide⟩
  · exact ⟨by decide, by decide, fun y hy => by simp only [b14, List.mem_singleton] at hy; subst hy; decide⟩
theorem cs14_good : GoodR cs14 := by have := madeC_good cs14_small; rwa [cs14_made] at this

theorem sameC_refl (c : Cm) : sameC c c = true := by
  unfold sameC
  rw [decide_eq_true rfl, sameB_refl]; simp

set_option maxHeartbeats 4000000 in
theorem awake14_calls (w : World) : Calls Tryz.prog 31 #[] w (SamePost w true) := by
  go_enter Tryz.func31, Tryz.ntmps31
  go_wp2_with fail
  have hB0 := Blk.new w 3 #[.int .i64 1]
  have hx0 : Ext w (w.alloc (.cells #[.int .i64 1] 3)) := (Kp.refl _ _).alloc _
  have hz0 : (w.alloc (.cells #[.int .i64 1] 3)).heap.size = w.heap.size + 1 := by simp
  generalize w.alloc (.cells #[.int .i64 1] 3) = W0 at hB0 hx0 hz0 ⊢
  have hB1 := Blk.new W0 39 #[.string ⟨#[97]⟩, .string ⟨#[]⟩]
  have hx1 : Ext W0 (W0.alloc (.cells #[.string ⟨#[97]⟩, .string ⟨#[]⟩] 39)) := (Kp.refl _ _).alloc _
  have hz1 : (W0.alloc (.cells #[.string ⟨#[97]⟩, .string ⟨#[]⟩] 39)).heap.size = W0.heap.size + 1 := by simp
  generalize W0.alloc (.cells #[.string ⟨#[97]⟩, .string ⟨#[]⟩] 39) = W1 at hB1 hx1 hz1 ⊢
  have hB2 := Blk.new W1 3 #[.int .i64 1]
  have hx2 : Ext W1 (W1.alloc (.cells #[.int .i64 1] 3)) := (Kp.refl _ _).alloc _
  have hz2 : (W1.alloc (.cells #[.int .i64 1] 3)).heap.size = W1.heap.size + 1 := by simp
  generalize W1.alloc (.cells #[.int .i64 1] 3) = W2 at hB2 hx2 hz2 ⊢
  have hB3 := Blk.new W2 39 #[.string ⟨#[98]⟩, .string ⟨#[]⟩]
  have hx3 : Ext W2 (W2.alloc (.cells #[.string ⟨#[98]⟩, .string ⟨#[]⟩] 39)) := (Kp.refl _ _).alloc _
  have hz3 : (W2.alloc (.cells #[.string ⟨#[98]⟩, .string ⟨#[]⟩] 39)).heap.size = W2.heap.size + 1 := by simp
  generalize W2.alloc (.cells #[.string ⟨#[98]⟩, .string ⟨#[]⟩] 39) = W3 at hB3 hx3 hz3 ⊢
  have hB4 := Blk.new W3 42 #[.slice none 0 0, .slice none 0 0, .string ⟨#[]⟩, .slice (some ⟨w.heap.size, 0, none⟩) 1 1, .slice (some ⟨w.heap.size + 1, 0, none⟩) 1 1, .string ⟨#[]⟩, .slice (some ⟨w.heap.size + 1 + 1, 0, none⟩) 1 1, .slice (some ⟨w.heap.size + 1 + 1 + 1, 0, none⟩) 1 1, .string ⟨#[]⟩]
  have hx4 : Ext W3 (W3.alloc (.cells #[.slice none 0 0, .slice none 0 0, .string ⟨#[]⟩, .slice (some ⟨w.heap.size, 0, none⟩) 1 1, .slice (some ⟨w.heap.size + 1, 0, none⟩) 1 1, .string ⟨#[]⟩, .slice (some ⟨w.heap.size + 1 + 1, 0, none⟩) 1 1, .slice (some ⟨w.heap.size + 1 + 1 + 1, 0, none⟩) 1 1, .string ⟨#[]⟩] 42)) := (Kp.refl _ _).alloc _
  have hz4 : (W3.alloc (.cells #[.slice none 0 0, .slice none 0 0, .string ⟨#[]⟩, .slice (some ⟨w.heap.size, 0, none⟩) 1 1, .slice (some ⟨w.heap.size + 1, 0, none⟩) 1 1, .string ⟨#[]⟩, .slice (some ⟨w.heap.size + 1 + 1, 0, none⟩) 1 1, .slice (some ⟨w.heap.size + 1 + 1 + 1, 0, none⟩) 1 1, .string ⟨#[]⟩] 42)).heap.size = W3.heap.size + 1 := by simp
  generalize W3.alloc (.cells #[.slice none 0 0, .slice none 0 0, .string ⟨#[]⟩, .slice (some ⟨w.heap.size, 0, none⟩) 1 1, .slice (some ⟨w.heap.size + 1, 0, none⟩) 1 1, .string ⟨#[]⟩, .slice (some ⟨w.heap.size + 1 + 1, 0, none⟩) 1 1, .slice (some ⟨w.heap.size + 1 + 1 + 1, 0, none⟩) 1 1, .string ⟨#[]⟩] 42) = W4 at hB4 hx4 hz4 ⊢
  have hs1 : W0.heap.size = w.heap.size + 1 := by omega
  rw [hs1] at hB1
  have hs2 : W1.heap.size = w.heap.size + 1 + 1 := by omega
  rw [hs2] at hB2
  have hs3 : W2.heap.size = w.heap.size + 1 + 1 + 1 := by omega
  rw [hs3] at hB3
  have hs4 : W3.heap.size = w.heap.size + 1 + 1 + 1 + 1 := by omega
  rw [hs4] at hB4
  have hC0 := ((((hB0.ext hx1).ext hx2).ext hx3).ext hx4)
  have hC1 := (((hB1.ext hx2).ext hx3).ext hx4)
  have hC2 := ((hB2.ext hx3).ext hx4)
  have hC3 := (hB3.ext hx4)
  have hC4 := hB4
  have HXW := Lib.hid ((((hx0.trans hx1).trans hx2).trans hx3).trans hx4)
  have hRk : RepK (fun k => k < W4.heap.size) W4 [⟨⟨none, 0, 0⟩, ⟨none, 0, 0⟩, ⟨#[]⟩⟩, ⟨⟨some ⟨w.heap.size, 0, none⟩, 1, 1⟩, ⟨some ⟨w.heap.size + 1, 0, none⟩, 1, 1⟩, ⟨#[]⟩⟩, ⟨⟨some ⟨w.heap.size + 1 + 1, 0, none⟩, 1, 1⟩, ⟨some ⟨w.heap.size + 1 + 1 + 1, 0, none⟩, 1, 1⟩, ⟨#[]⟩⟩] cs14 := ⟨⟨Rd.nil _ _, Rd.nil _ _, rfl⟩, ⟨rd_of_blk (E := EI) (n := 1) hC0 rfl (by omega), rd_of_blk (E := EF) (n := 1) (ys := a14) hC1 rfl (by omega), rfl⟩, ⟨rd_of_blk (E := EI) (n := 1) hC2 rfl (by omega), rd_of_blk (E := EF) (n := 1) (ys := b14) hC3 rfl (by omega), rfl⟩, trivial⟩
  have hRd : Rd EK (fun k => k < W4.heap.size) W4 (.slice (some ⟨w.heap.size + 1 + 1 + 1 + 1, 0, none⟩) 3 3) [⟨⟨none, 0, 0⟩, ⟨none, 0, 0⟩, ⟨#[]⟩⟩, ⟨⟨some ⟨w.heap.size, 0, none⟩, 1, 1⟩, ⟨some ⟨w.heap.size + 1, 0, none⟩, 1, 1⟩, ⟨#[]⟩⟩, ⟨⟨some ⟨w.heap.size + 1 + 1, 0, none⟩, 1, 1⟩, ⟨some ⟨w.heap.size + 1 + 1 + 1, 0, none⟩, 1, 1⟩, ⟨#[]⟩⟩] := rd_of_blk (E := EK) (n := 3) hC4 rfl (by omega)
  have HMd := Lib.hid (made14_calls _ _ cs14 _ W4 hRd hRk (fun k hk => hk) cs14_small (by decide))
  clear hB0 hx0 hz0 hC0 hB1 hx1 hz1 hC1 hB2 hx2 hz2 hC2 hB3 hx3 hz3 hC3 hB4 hx4 hz4 hC4 hs1 hs2 hs3 hs4 hRk hRd
  refine HMd.out.mono ?_
  rintro e w1 ⟨rb, wb, I, D, D', rfl, hT⟩
  rw [cs14_made] at hT
  have HT := Lib.hid hT.r
  have HX1 := Lib.hid (HXW.out.trans hT.x)
  clear HMd hT HXW
  have hm := mergeOf_calls HT.out cs14_good (by decide) 2 3
  rw [cs14_of] at hm
  have HM := Lib.hid hm
  clear hm
  go_wp2_with fail
  refine HM.out.mono ?_
  rintro e w2 ⟨s, u, rfl, hV, hU, hx2⟩
  obtain ⟨⟨pa, pn, pc⟩, ⟨ta, tn, tc⟩, nt⟩ := s
  obtain ⟨A, n, c, rfl⟩ := hU.1.slice
  have hn0 : n = 0 := by obtain ⟨_, _, hh, _⟩ := hU.1.rd; injection hh
  subst hn0
  have hRc := hV.rd
  have HRc := Lib.hid hRc
  have HX2 := Lib.hid hx2
  clear hV hU hRc hx2 HM
  dsimp only [KS.val, SliceV.val]
  go_wp2_with fail
  have hI := (Blk.new (w2.alloc (.cells #[.slice pa pn pc, .slice ta tn tc, .string nt] 42)) 3 #[.int .i64 2, .int .i64 3]).ext ((Kp.refl _ _).alloc (.cells #[.string ⟨#[97]⟩, .string ⟨#[]⟩, .string ⟨#[98]⟩, .string ⟨#[]⟩] 39))
  have hF := Blk.new ((w2.alloc (.cells #[.slice pa pn pc, .slice ta tn tc, .string nt] 42)).alloc (.cells #[.int .i64 2, .int .i64 3] 3)) 39 #[.string ⟨#[97]⟩, .string ⟨#[]⟩, .string ⟨#[98]⟩, .string ⟨#[]⟩]
  simp only [World.size_alloc] at hI hF
  have hy : Ext w2 (((w2.alloc (.cells #[.slice pa pn pc, .slice ta tn tc, .string nt] 42)).alloc (.cells #[.int .i64 2, .int .i64 3] 3)).alloc (.cells #[.string ⟨#[97]⟩, .string ⟨#[]⟩, .string ⟨#[98]⟩, .string ⟨#[]⟩] 39)) := (((Kp.refl _ _).alloc _).alloc _).alloc _
  generalize (((w2.alloc (.cells #[.slice pa pn pc, .slice ta tn tc, .string nt] 42)).alloc (.cells #[.int .i64 2, .int .i64 3] 3)).alloc (.cells #[.string ⟨#[97]⟩, .string ⟨#[]⟩, .string ⟨#[98]⟩, .string ⟨#[]⟩] 39)) = w3 at hI hF hy ⊢
  have hSC := sameCommit_calls ⟨⟨pa, pn, pc⟩, ⟨ta, tn, tc⟩, nt⟩ ⟨⟨some ⟨w2.heap.size + 1, 0, none⟩, 2, 2⟩, ⟨some ⟨w2.heap.size + 1 + 1, 0, none⟩, 2, 2⟩, ⟨#[]⟩⟩ ⟨[2, 3], ab14, ⟨#[]⟩⟩ ⟨[2, 3], ab14, ⟨#[]⟩⟩ _ (fun k => k < w3.heap.size) w3 (HRc.out.ext hy) ⟨rd_of_blk (E := EI) (n := 2) hI rfl (by omega), rd_of_blk (E := EF) (n := 2) (ys := ab14) hF rfl (by omega), rfl⟩
  rw [sameC_refl] at hSC
  have HSC := Lib.hid hSC
  have HX3 := Lib.hid ((HX1.out.trans HX2.out).trans hy)
  have HT3 := Lib.hid (HT.out.ext (HX2.out.trans hy))
  clear hI hF hy hSC HRc HX2 HX1 HT
  refine HSC.out.mono ?_
  rintro e w4 ⟨rfl, hx4⟩
  have hcl := mergeClean_calls (HT3.out.ext hx4) cs14_good (by decide) 2 3
  rw [show cleanB (ofF cs14 2 3) = true by rw [cs14_of]; rfl] at hcl
  have HCl := Lib.hid hcl
  have HX4 := Lib.hid (HX3.out.trans hx4)
  clear hcl HSC hx4 HX3 HT3
  go_wp2_with fail
  refine HCl.out.mono ?_
  rintro e w5 ⟨rfl, hx5⟩
  go_wp2_with fail
  go_ret
  exact ⟨rfl, HX4.out.trans hx5⟩

end Go.Proofs.YtgjbfkaepalkiaaGreatDoor

namespace Go.Proofs.YtgjbfkaepalkiaaGreatDoor
open Go.RowKit
set_option linter.unusedVariables false
set_option linter.unusedSimpArgs false
attribute [local go_sem] Oper.semAt_some

theorem grow_small : ∀ n, n ≤ 2 → Builtin.nextslicecap (n + 1) n * 8 ≤ 281474976710656 := fun n h => by
  have h3 : n = 0 ∨ n = 1 ∨ n = 2 := by omega
  rcases h3 with rfl | rfl | rfl <;> decide
/-- The walk's step at an append onto a row that has no room. -/
theorem list_append_full {P : Program} {T e : TypeId} (ti : TI EI P T e 8) {ops : Array Oper} {rest : List Oper} {o : Oper} {a : Act} {w : World} {Q : Exit → Act → World → Prop} {s x : Operand} (hgd : o.guard = none)
    (ho : o.op = .call { callee := .builtin .append, args := #[s, x], argTypes := #[T, T] }) {b ad : Addr} {n : Nat} (hs : a.eval s = .slice (some b) n n) (hx : a.eval x = .slice (some ad) 1 1) {olds : List Value} (hlo : olds.length = n) (holds : ∀ j v, olds[j]? = some v → w.cell? (b.add j) = some v) {y : Value} (hnew : w.cell? ad = some y)
    (hn : n ≤ 2) (h : ∀ v' w', Ext w w' → wpList P ops Q rest (a.put o.dst v') w') : wpList P ops Q (o :: rest) a w := by
  refine wpList_plain hgd fun K hK => ?_
  obtain ⟨hu, h0, i, z, hi, hz, hsz, hby, hzs⟩ := ti
  have hsz' : i.size = 1 := hsz
  have hr := run_append_grow (P := P) (w := w) T o.type e i z hu hi hz b n n olds (by rw [hlo, hsz']; omega) holds ad 1 1 [y] (by rw [hsz']; rfl) (fun j v hj => by
    cases j with
    | zero => injection hj with hj; subst hj; exact hnew
    | succ j => cases hj) (by omega) (by omega) (by rw [hby]; exact grow_small n hn)
  unfold Oper.wp execOp
  simp only [ho, resolve, invoke, builtin, Sem.run_bind, Sem.run_pure, Result.andThen_ok, List.map_toArray, List.map_cons, List.map_nil, hs, hx, hr]
  exact hK _ _ (h _ _ (((Kp.refl _ w).drew).alloc _))

set_option maxHeartbeats 1000000 in
theorem overInts_calls (v : SliceV) (ps : List Int) (n0 : Nat) (w : World) (hO : ParW n0 w v ps) :
    Calls Tryz.prog 74 #[v.val] w fun e w' => (∃ r, e = .returned r) ∧ Kp (fun k => v.val.ownBlock ≠ some k) w w' := by
  rcases hO with ⟨rfl, rfl⟩ | ⟨g, xs, hg, hB, rfl, hp, hle, h2⟩
  · show Calls _ _ #[.slice none 0 0] w _
    go_enter Tryz.func74, Tryz.ntmps74
    go_wp2_with fail
    refine wp_loop_once ?_
    go_wp2_with (at_builtin; refine stop ?_)
    refine list_append (E := EI) (xs := []) (ys := [-999]) tiI rfl rfl rfl rfl (Own.nil _ _) (Own.made w 3 [-999] (by simp [maxLen])).rd (by simp) (by simp [maxLen]) ?_
    intro v' w' hO' hK' hB'
    go_wp2_with fail
    exact bodyPost_end (results_none rfl _ _ _) rfl ⟨⟨_, rfl⟩, ((Kp.refl _ w).alloc _).trans' hK' (fun _ _ h => h)⟩
  · obtain ⟨n, hn⟩ : ∃ n, ps.length = n := ⟨_, rfl⟩
    obtain ⟨m, hm⟩ : ∃ m, xs.length = m := ⟨_, rfl⟩
    rw [hn, hm] at hle
    rw [hm] at h2
    show Calls _ _ #[.slice (some ⟨g, 0, none⟩) ps.length ps.length] w fun e w' => (∃ r, e = .returned r) ∧ Kp (fun k => (Value.slice (some ⟨g, 0, none⟩) ps.length ps.length).ownBlock ≠ some k) w w'
    rw [hn]
    have HM := Lib.hid hm
    clear hp hn hm
    go_enter Tryz.func74, Tryz.ntmps74
    go_wp2_with fail
    go_loopw [2] (fun i wr => ∃ (k : Nat) (zs : List Value), k ≤ n ∧ i = .int .i64 k ∧ zs.length = m ∧ Blk wr g 3 zs.toArray ∧ Kp (fun k => k ≠ g) w wr) (fun i _ => n - (intOf i).toNat)
    case atStart => exact ⟨0, EI.flat xs, Nat.zero_le _, rfl, by rw [EI.flat_length, HM.out]; show m * 1 = m; omega, hB, Kp.refl _ _⟩
    case round =>
      obtain ⟨k, zs, hk, rfl, hz, hBr, hKr⟩ := hrel
      rename World => wo
      have HZ := Lib.hid hz
      by_cases hlt : k < n
      · have hd3 : decide ((k : Int) < (n : Int)) = true := decide_eq_true (by omega)
        have hlt' : (k : Int) < (n : Int) := by omega
        have h0 : (0 : Int) ≤ (k : Int) := by omega
        have hw : IntKind.i64.wrap ((k : Int) + 1) = (k : Int) + 1 := IntWalk.i64_in _ (by omega)
        obtain ⟨x, hx⟩ : ∃ x, zs[k]? = some x := ⟨_, List.getElem?_eq_getElem (by omega)⟩
        have c0 : wo.cell? ⟨g, k, none⟩ = some x := (hBr.cell k).trans (by rw [List.getElem?_toArray]; exact hx)
        have f0 := hBr.frozen k
        have HB := Lib.hid hBr
        clear hz hx hBr hB
        go_wp2_with fail
        go_roundw
        case rel => exact ⟨k + 1, zs.set k (.int .i64 (-999)), by omega, by go_num, by rw [List.length_set]; exact HZ.out, (by have := HB.out.set_ k (.int .i64 (-999)); simpa using this), hKr.setCell (.inr (by simp)) _⟩
        case measure => simp [intOf]; omega
      · have hd3 : decide ((k : Int) < (n : Int)) = false := decide_eq_false (by omega)
        have hB1 := hBr.ext ((Kp.refl All wo).alloc (.cells #[.int .i64 (-999)] 3))
        have hnw : (wo.alloc (.cells #[.int .i64 (-999)] 3)).cell? ⟨wo.heap.size, 0, none⟩ = some (.int .i64 (-999)) := (Blk.new wo 3 #[.int .i64 (-999)]).cell 0
        have HB1 := Lib.hid hB1
        have HNw := Lib.hid hnw
        clear hz hB hBr hB1 hnw
        go_wp2_with (at_builtin; refine stop ?_)
        refine list_append_full (b := ⟨g, 0, none⟩) (ad := ⟨wo.heap.size, 0, none⟩) (n := n) (olds := zs.take n) tiI rfl rfl rfl rfl (by rw [List.length_take, HZ.out]; omega) (fun j u hj => ?_) HNw.out (by omega) ?_
        · rw [show (⟨g, 0, none⟩ : Addr).add j = ⟨g, j, none⟩ from by unfold Addr.add; split <;> simp_all]
          rw [HB1.out.cell j, List.getElem?_toArray]
          rw [List.getElem?_take] at hj
          split at hj
          · exact hj
          · cases hj
        · intro v' w' hx'
          go_wp2_with fail
          refine bodyPost_end (results_none rfl _ _ _) rfl ⟨⟨_, rfl⟩, ?_⟩
          exact ((hKr.alloc _).trans' hx' (fun k _ h => trivial)).mono (fun k _ h e => h (by rw [e]; rfl))

/-- A block of numbers is no row of files. -/
theorem own_ne_int {w : World} {v : Value} {xs : List File} {g : Nat} {cs : Array Value} (h : Own EF 39 w v xs) (hB : Blk w g 3 cs) : v.ownBlock ≠ some g := fun he => by
  rcases h.2 with ⟨rfl, _⟩ | ⟨g', cap, cur, rfl, _, hg, _⟩
  · simp [Value.ownBlock] at he
  · simp [Value.ownBlock] at he
    subst he
    have hh := hg.symm.trans hB
    injection hh with hh
    injection hh with h1 h2
    revert h2
    decide
theorem overCommit_calls (s : KS) (c : Cm) (n0 : Nat) (w : World) (hV : MergeV n0 w s c) (hl : c.tree.length ≤ 1000) :
    Calls Tryz.prog 39 #[s.val] w fun e w' => (∃ r, e = .returned r) ∧ Kp (fun k => s.p.val.ownBlock ≠ some k ∧ s.t.val.ownBlock ≠ some k) w w' := by
  obtain ⟨p, t, note⟩ := s
  have hP : ∀ g, p.val.ownBlock = some g → n0 ≤ g ∧ g < w.heap.size ∧ t.val.ownBlock ≠ some g := fun g hg => by
    rcases hV.p with ⟨h, _⟩ | ⟨g', xs, h1, h2, h3, _⟩
    · dsimp only at h; subst h; simp [SliceV.val, Value.ownBlock] at hg
    · dsimp only at h3; subst h3; simp [SliceV.val, Value.ownBlock] at hg; subst hg
      exact ⟨h1, h2.lt, own_ne_int hV.t.1 h2⟩
  have hT : ∀ g, t.val.ownBlock = some g → n0 ≤ g ∧ g < w.heap.size := fun g hg => ⟨hV.t.2 g hg, hV.t.1.lt hg⟩
  have hbx : Ext w (w.alloc (.cells #[p.val, t.val, .string note] 42)) := (Kp.refl _ w).alloc _
  have hBk := Blk.new w 42 #[p.val, t.val, .string note]
  have hI := overInts_calls p c.parents n0 _ (hV.p.ext hbx)
  have hTx := hV.t.1.kp hbx fun _ _ => trivial
  have HT := Lib.hid hTx
  have HP := Lib.hid hP
  have HTT := Lib.hid hT
  have c0 := hBk.cell 0
  have HBk := Lib.hid hBk
  clear hV hP hT hTx hBk
  show Calls _ _ #[.agg #[p.val, t.val, .string note]] w _
  obtain ⟨pa, pn, pc⟩ := p
  obtain ⟨ta, tn, tc⟩ := t
  dsimp only [SliceV.val] at *
  have HI := Lib.hid hI
  clear hI
  go_enter Tryz.func39, Tryz.ntmps39
  go_wp2_with fail
  refine HI.out.mono ?_
  rintro e w1 ⟨⟨r1, rfl⟩, hk1⟩
  have hz : (w.alloc (.cells #[.slice pa pn pc, .slice ta tn tc, .string note] 42)).heap.size = w.heap.size + 1 := by simp
  have hB1 := HBk.out.kp hk1 fun h => by have := (HP.out _ h).2.1; omega
  have c1 : w1.cell? ⟨w.heap.size, 1, none⟩ = some (.slice ta tn tc) := hB1.cell 1
  have HO := Lib.hid (overFiles_calls _ _ w1 (HT.out.kp hk1 fun g hg h => (HP.out g h).2.2 hg) hl)
  clear HI c0 hB1
  go_wp2_with fail
  refine HO.out.mono ?_
  rintro e w2 ⟨⟨r2, rfl⟩, hk2⟩
  clear HO c1
  go_wp2_with fail
  refine bodyPost_end (results_none rfl _ _ _) rfl ⟨⟨_, rfl⟩, ?_⟩
  have h1 : Kp (fun k => (Value.slice pa pn pc).ownBlock ≠ some k ∧ (Value.slice ta tn tc).ownBlock ≠ some k) w w1 := ((Kp.refl _ w).alloc _).trans' hk1 fun k _ h => h.1
  exact h1.trans' hk2 fun k _ h => h.2

/-- Rows of other types lie in other blocks. -/
theorem own_other {α β : Type} {E : El α} {F : El β} {t u : TypeId} {w : World} {v x : Value} {xs : List α} {ys : List β} (h : Own E t w v xs) (h' : Own F u w x ys) (htu : t ≠ u) : ∀ g, v.ownBlock = some g → x.ownBlock ≠ some g := fun g hg hg' => by
  rcases h.2 with ⟨rfl, _⟩ | ⟨g1, c1, r1, rfl, _, e1, _⟩
  · simp [Value.ownBlock] at hg
  · rcases h'.2 with ⟨rfl, _⟩ | ⟨g2, c2, r2, rfl, _, e2, _⟩
    · simp [Value.ownBlock] at hg'
    · simp [Value.ownBlock] at hg hg'
      subst hg hg'
      have hh := e1.symm.trans e2
      injection hh with hh
      injection hh with h1 h2
      exact htu h2
theorem own_parW {β : Type} {F : El β} {u : TypeId} {n : Nat} {w : World} {v : SliceV} {x : Value} {ps : List Int} {ys : List β} (h : ParW n w v ps) (h' : Own F u w x ys) (htu : 3 ≠ u) : ∀ g, v.val.ownBlock = some g → x.ownBlock ≠ some g := fun g hg hg' => by
  rcases h with ⟨rfl, _⟩ | ⟨g1, zs, _, e1, rfl, _⟩
  · simp [SliceV.val, Value.ownBlock] at hg
  · rcases h'.2 with ⟨rfl, _⟩ | ⟨g2, c2, r2, rfl, _, e2, _⟩
    · simp [Value.ownBlock] at hg'
    · simp [SliceV.val, Value.ownBlock] at hg hg'
      subst hg hg'
      have hh := Eq.trans (Eq.symm e1) e2
      injection hh with hh
      injection hh with h1 h2
      exact htu h2

theorem joinOf_lens (o a b : List File) (h1 : o.length ≤ 14) (h2 : a.length ≤ 14) (h3 : b.length ≤ 14) : (joinOf textM o a b).1.length ≤ 100 ∧ (joinOf textM o a b).2.length ≤ 100 := by
  cases hm : may3 o a b with
  | false => rw [joinOf_false hm]; exact ⟨Nat.zero_le _, by decide⟩
  | true =>
    have hg : (gathF textM (fun _ => noFl) o a b).1.length ≤ 42 ∧ (gathF textM (fun _ => noFl) o a b).2.length ≤ 42 := by
      have h := gathL_len textM (fun _ => noFl) o a b (riseT (flatP [o, a, b]))
      have hr := riseT_length (flatP [o, a, b])
      have hf : (flatP [o, a, b]).length = o.length + (a.length + b.length) := by unfold flatP; simp
      unfold gathF
      omega
    have hu := underF_len (gathF textM (fun _ => noFl) o a b).1
    have hb : (badF' (gathF textM (fun _ => noFl) o a b)).length ≤ 100 := by
      unfold badF'
      rw [List.length_append, List.length_append]
      have := if_one (12 < (gathF textM (fun _ => noFl) o a b).1.length) bStar
      omega
    have hr := riseT_length (badF' (gathF textM (fun _ => noFl) o a b))
    rw [joinOf_true hm]
    split
    · exact ⟨Nat.zero_le _, Nat.le_trans hr hb⟩
    · exact ⟨by dsimp only; omega, Nat.zero_le _⟩
theorem ofF_lens {cs : List Cm} (hG : GoodR cs) (t c : Int) : (ofF cs t c).1.tree.length ≤ 1000 ∧ (ofF cs t c).2.1.length ≤ 10000 := by
  have h1 := ((mayB_iff _).1 (treeC_may hG t)).few
  have h2 := ((mayB_iff _).1 (treeC_may hG c)).few
  have h3 := ((mayB_iff _).1 (deepF_may hG 4 t c)).few
  have h := joinOf_lens (deepF cs 4 t c) (treeC cs t) (treeC cs c) (by omega) (by omega) (by omega)
  unfold ofF
  split
  · split
    · exact ⟨by dsimp only; omega, by simp⟩
    · exact ⟨by simp [noC], by dsimp only; omega⟩
  · exact ⟨by simp [noC], by simp⟩

end Go.Proofs.YtgjbfkaepalkiaaGreatDoor

namespace Go.Proofs.YtgjbfkaepalkiaaGreatDoor
open Go.RowKit
set_option linter.unusedVariables false
set_option linter.unusedSimpArgs false
attribute [local go_sem] Oper.semAt_some

theorem refOfM_calls (v1 v2 v3 : Value) (xs ys zs : List File) (w : World) (hA : RdF w v1 xs) (hB : RdF w v2 ys) (hC : RdF w v3 zs) (g1 : mayB xs = true) (g2 : mayB ys = true) (g3 : mayB zs = true) :
    Calls Tryz.prog 73 #[v1, v2, v3] w (JoinPost w (joinOf textM xs ys zs).1 (joinOf textM xs ys zs).2) :=
  refOf_calls v1 v2 v3 xs ys zs _ w hA hB hC (may_len g1) (may_len g2) (may_len g3) (may_size g1) (may_size g2) (may_size g3)

section
variable {I D : Fp} {rb : Nat} {cs : List Cm} {room : Nat} {w : World}
set_option maxHeartbeats 4000000 in
theorem refMergeOf_calls (h : RepoX refT I D w rb cs room) (hG : GoodR cs) (hn : cs.length ≤ 300) (t c : Int) : Calls Tryz.prog 34 #[.pointer (some ⟨rb, 0, none⟩), .int .i64 t, .int .i64 c] w (MrgPost w (ofF cs t c)) := by
  have HH := Lib.hid fun W (hW : Ext w W) n => rkHas_calls (h.ext hW) n
  have HB := Lib.hid fun W (hW : Ext w W) => refBase_calls (h.ext hW) hG hn t c
  have HMT := Lib.hid fun n => treeC_may hG n
  have HMD := Lib.hid (deepF_may hG 4 t c)
  have HNot := Lib.hid (ofF_not (cs := cs) (t := t) (c := c))
  have HBad := Lib.hid (ofF_bad (cs := cs) (t := t) (c := c))
  have HOk := Lib.hid (ofF_ok (cs := cs) (t := t) (c := c))
  obtain ⟨L, cp, rows, hBk, hO, hR, hlr⟩ := h.rd
  have c0 : w.cell? ⟨rb, 0, none⟩ = some (.slice L cs.length cp) := hBk.cell 0
  have hrb := hBk.lt
  have HC0 := Lib.hid fun W (hW : Ext w W) => show W.cell? ⟨rb, 0, none⟩ = some (.slice L cs.length cp) from (hW.cell (p := ⟨rb, 0, none⟩) hrb trivial).trans c0
  have HRows : Hid (∀ (j : Nat), j < cs.length → ∀ W, Ext w W → ∃ (b off : Nat) (x : SliceV), L = some ⟨b, off, none⟩ ∧ b < w.heap.size ∧ W.cell? ⟨b, off + j * 3 + 1, none⟩ = some (.slice x.a x.n x.c) ∧ RdF W x.val (treeC cs ((j : Int) + 1))) := Lib.hid fun j hj W hW => by
    obtain ⟨b, off, hA, _, hb, _, e1, _⟩ := (hO.kp (hW.mono fun _ _ _ => trivial)).rd.kom (i := j) (by omega)
    obtain ⟨b', off', hA', _, hb', _⟩ := hO.rd.kom (i := j) (by omega)
    rw [hA] at hA'
    injection hA' with hA'
    injection hA' with h1 h2
    have hp : treeC cs ((j : Int) + 1) = cs[j].tree := by unfold treeC; rw [getC_nat hj]; rfl
    refine ⟨b, off, rows[j].t, hA, by omega, e1, ?_⟩
    rw [hp]; exact ((hR.ext hW).get j (by omega) hj).t.wide fun _ _ => trivial
  have HSome := Lib.hid fun n => getC_isSome cs n
  have hrow0 := hO.len
  clear h hBk hO hR hlr c0 hG
  generalize ofF cs t c = r at HNot HBad HOk
  obtain ⟨lm, hlm⟩ : ∃ m, cs.length = m := ⟨_, rfl⟩
  rw [hlm] at HC0 HRows HSome hn
  clear hlm
  have hx0 : Ext w (w.alloc (.cells #[.slice none 0 0, .slice none 0 0, .string ⟨#[]⟩] 42)) := (Kp.refl _ w).alloc _
  have hB0 := Blk.new w 42 #[.slice none 0 0, .slice none 0 0, .string ⟨#[]⟩]
  go_enter Tryz.func34, Tryz.ntmps34
  go_wp2_with fail
  generalize (w.alloc (.cells #[.slice none 0 0, .slice none 0 0, .string ⟨#[]⟩] 42)) = w0 at hx0 hB0 ⊢
  have HB0 := Lib.hid hB0
  have c00 := hB0.cell 0
  have c01 := hB0.cell 1
  have c02 := hB0.cell 2
  have f00 := hB0.frozen 0
  have f01 := hB0.frozen 1
  have f02 := hB0.frozen 2
  have HX0 := Lib.hid hx0
  clear hB0
  refine (HH.out w0 HX0.out t).mono ?_
  rintro e w0' ⟨rfl, rfl⟩
  cases h1 : (getC cs t).isSome with
  | false =>
    have hr := HNot.out (fun hh => by rw [h1] at hh; exact absurd hh.1 (by simp))
    subst hr
    clear HNot HBad HOk HH h1
    go_wp2_with fail
    have HB7 : Blk (((w0.setCell ⟨w.heap.size, 0, none⟩ (.slice none 0 0)).setCell ⟨w.heap.size, 1, none⟩ (.slice none 0 0)).setCell ⟨w.heap.size, 2, none⟩ (.string ⟨#[]⟩)) w.heap.size 42 #[.slice none 0 0, .slice none 0 0, .string ⟨#[]⟩] := ((HB0.out.set_ 0 _).set_ 1 _).set_ 2 _
    refine bodyPost_ret (by rw [results_cell_tmp2 rfl]; simp only [Array.getD_eq_getD_getElem?]; simp [asAddr]; rw [run_loadVar_row _ _ _ _ _ _ _ HB7 Tryz.underlying42 (by rfl) (by kernel_rfl)]; rfl) rfl ?_
    exact ⟨_, _, rfl, MergeV.none_ _ _, New.nil _ _ _, ((HX0.out.setCell (.inl (Nat.le_refl _)) _).setCell (.inl (Nat.le_refl _)) _).setCell (.inl (Nat.le_refl _)) _⟩
  | true =>
    go_wp2_with fail
    refine (HH.out w0 HX0.out c).mono ?_
    rintro e w0' ⟨rfl, rfl⟩
    cases h2 : (getC cs c).isSome with
    | false =>
      have hr := HNot.out (fun hh => by rw [h2] at hh; exact absurd hh.2 (by simp))
      subst hr
      clear HNot HBad HOk HH h1 h2
      go_wp2_with fail
      have HB7 : Blk (((w0.setCell ⟨w.heap.size, 0, none⟩ (.slice none 0 0)).setCell ⟨w.heap.size, 1, none⟩ (.slice none 0 0)).setCell ⟨w.heap.size, 2, none⟩ (.string ⟨#[]⟩)) w.heap.size 42 #[.slice none 0 0, .slice none 0 0, .string ⟨#[]⟩] := ((HB0.out.set_ 0 _).set_ 1 _).set_ 2 _
      refine bodyPost_ret (by rw [results_cell_tmp2 rfl]; simp only [Array.getD_eq_getD_getElem?]; simp [asAddr]; rw [run_loadVar_row _ _ _ _ _ _ _ HB7 Tryz.underlying42 (by rfl) (by kernel_rfl)]; rfl) rfl ?_
      exact ⟨_, _, rfl, MergeV.none_ _ _, New.nil _ _ _, ((HX0.out.setCell (.inl (Nat.le_refl _)) _).setCell (.inl (Nat.le_refl _)) _).setCell (.inl (Nat.le_refl _)) _⟩
    | true =>
      have HBad' := Lib.hid (HBad.out ⟨h1, h2⟩)
      have HOk' := Lib.hid (HOk.out ⟨h1, h2⟩)
      have htb := (HSome.out t).1 h1
      have hcb := (HSome.out c).1 h2
      obtain ⟨tj, htj⟩ : ∃ tj : Nat, t = (tj : Int) + 1 := ⟨(t - 1).toNat, by omega⟩
      obtain ⟨cj, hcj⟩ : ∃ cj : Nat, c = (cj : Int) + 1 := ⟨(c - 1).toNat, by omega⟩
      obtain ⟨lb, lo, x1, hLA, hlb, e1, ht1⟩ := HRows.out tj (by omega) w0 HX0.out
      obtain ⟨lb', lo', x2, hLA', hlb', e2, ht2⟩ := HRows.out cj (by omega) w0 HX0.out
      subst hLA
      injection hLA' with hLA'
      injection hLA' with q1 q2
      subst q1 q2
      obtain ⟨ta, tn, tc⟩ := x1
      obtain ⟨ta2, tn2, tc2⟩ := x2
      dsimp only [SliceV.val] at e1 e2 ht1 ht2
      rw [← htj] at ht1
      rw [← hcj] at ht2
      have HNt' := Lib.hid ht1
      have HNc' := Lib.hid ht2
      have hwt : IntKind.i64.wrap (t - 1) = (tj : Int) := (IntWalk.i64_in _ (by omega)).trans (by omega)
      have hwc : IntKind.i64.wrap (c - 1) = (cj : Int) := (IntWalk.i64_in _ (by omega)).trans (by omega)
      have hi1 : (0 : Int) ≤ (tj : Int) := by omega
      have hi2 : (tj : Int) < (lm : Int) := by omega
      have hi3 : (0 : Int) ≤ (cj : Int) := by omega
      have hi4 : (cj : Int) < (lm : Int) := by omega
      have r0 := HC0.out w0 HX0.out
      have hrb0 : rb < w0.heap.size := HX0.out.lt hrb
      have hlb0 : lb < w0.heap.size := HX0.out.lt hlb
      have HS : Hid (∀ W, Ext w0 W → W.cell? ⟨rb, 0, none⟩ = some (.slice (some ⟨lb, lo, none⟩) lm cp) ∧ W.cell? ⟨lb, lo + tj * 3 + 1, none⟩ = some (.slice ta tn tc) ∧ W.cell? ⟨lb, lo + cj * 3 + 1, none⟩ = some (.slice ta2 tn2 tc2)) := Lib.hid fun W hW => ⟨(hW.cell (p := ⟨rb, 0, none⟩) hrb0 trivial).trans r0, (hW.cell (p := ⟨lb, lo + tj * 3 + 1, none⟩) hlb0 trivial).trans e1, (hW.cell (p := ⟨lb, lo + cj * 3 + 1, none⟩) hlb0 trivial).trans e2⟩
      have HBs := Lib.hid fun W (hW : Ext w0 W) => HB.out W (HX0.out.trans hW)
      clear HNot HBad HOk HB HH h1 h2 htb hcb htj hcj ht1 ht2 HRows HSome c00 c01 c02 f00 f01 f02
      go_wp2_with fail
      go_region_held3 (fun W => W.cell? ⟨rb, 0, none⟩ = some (.slice (some ⟨lb, lo, none⟩) lm cp) ∧ W.cell? ⟨lb, lo + tj * 3 + 1, none⟩ = some (.slice ta tn tc) ∧ W.cell? ⟨lb, lo + cj * 3 + 1, none⟩ = some (.slice ta2 tn2 tc2))
        (first | exact HS.out _ hx6 | exact HS.out _ hx5 | exact HS.out _ ((Kp.refl _ w0).drew) | fail)
        (first
          | (go_at_call 22; ((with_reducible refine Calls.mono (HBs.out _ ?_) ?_)); (exact (Kp.refl _ w0).drew); rintro e w5 ⟨u5, rfl, hN5, hx5'⟩; have hx5 : Ext w0 w5 := ((Kp.refl _ w0).drew).trans hx5')
          | (go_at_call 73; have hJ := refOfM_calls _ _ _ _ _ _ w5 hN5 (HNt'.out.ext hx5) (HNc'.out.ext hx5) HMD.out (HMT.out t) (HMT.out c); ((with_reducible refine Calls.mono hJ ?_)); rintro e w6 ⟨u6, s6, rfl, hN6, hM6, hx6'⟩; have hx6 : Ext w0 w6 := hx5.trans hx6')
          | fail)
      have hB06 := HB0.out.ext hx6
      have c60 : w6.cell? ⟨w.heap.size, 0, none⟩ = some (.slice none 0 0) := hB06.cell 0
      have c61 : w6.cell? ⟨w.heap.size, 1, none⟩ = some (.slice none 0 0) := hB06.cell 1
      have c62 : w6.cell? ⟨w.heap.size, 2, none⟩ = some (.string ⟨#[]⟩) := hB06.cell 2
      have f60 := hB06.frozen 0
      have f61 := hB06.frozen 1
      have f62 := hB06.frozen 2
      have HB06 := Lib.hid hB06
      have HX6 := Lib.hid (HX0.out.trans hx6)
      have hz5 := hx5.size
      have hz46 := hx6.size
      have hN6' := Lib.hid hN6
      have hM6' := Lib.hid hM6
      obtain ⟨A6, n6, d6, rfl⟩ := hN6.1.slice
      obtain ⟨Z6, e6, rfl, _⟩ := hM6.1.rd.open_
      have hzw := HX0.out.size
      have hl0 := HB0.out.lt
      clear HS HBs hN5 hx5 hx5' hx6 hx6' hN6 hM6 hB06 HNt' HNc' HMD HMT
      obtain ⟨j, hj⟩ : ∃ j, joinOf textM (deepF cs 4 t c) (treeC cs t) (treeC cs c) = j := ⟨_, rfl⟩
      rw [hj] at HBad' HOk' hN6' hM6' ⊢
      clear hj
      obtain ⟨j1, j2⟩ := j
      dsimp only at HBad' HOk' hN6' hM6' ⊢
      cases j2 with
      | cons y ys =>
        have hr := HBad'.out (by simp)
        subst hr
        have hd0 : decide ((0 : Int) < ((y :: ys).length : Int)) = true := decide_eq_true (by rw [List.length_cons]; omega)
        have hd1 : decide ((0 : Int) < (ys.length : Int) + 1) = true := decide_eq_true (by omega)
        clear HBad' HOk'
        go_wp2_with fail
        have HB7 : Blk (((w6.setCell ⟨w.heap.size, 0, none⟩ (.slice none 0 0)).setCell ⟨w.heap.size, 1, none⟩ (.slice none 0 0)).setCell ⟨w.heap.size, 2, none⟩ (.string ⟨#[]⟩)) w.heap.size 42 #[.slice none 0 0, .slice none 0 0, .string ⟨#[]⟩] := ((HB06.out.set_ 0 _).set_ 1 _).set_ 2 _
        refine bodyPost_ret (by rw [results_cell_tmp2 rfl]; simp only [Array.getD_eq_getD_getElem?]; simp [asAddr]; rw [run_loadVar_row _ _ _ _ _ _ _ HB7 Tryz.underlying42 (by rfl) (by kernel_rfl)]; rfl) rfl ?_
        have hk7 : Kp (fun k => k ≠ w.heap.size) w6 (((w6.setCell ⟨w.heap.size, 0, none⟩ (.slice none 0 0)).setCell ⟨w.heap.size, 1, none⟩ (.slice none 0 0)).setCell ⟨w.heap.size, 2, none⟩ (.string ⟨#[]⟩)) := (((Kp.refl _ w6).setCell (.inr (by simp)) _).setCell (.inr (by simp)) _).setCell (.inr (by simp)) _
        refine ⟨_, _, rfl, MergeV.none_ _ _, (hM6'.out.kp hk7 fun g e => by have := hM6'.out.2 g e; omega).less (by omega), HX6.out.trans' hk7 fun k hk _ => by omega⟩
      | nil =>
        have hr := HOk'.out rfl
        subst hr
        clear HBad' HOk'
        by_cases htc : t = c
        · subst htc
          have hde : (t == t) = true := by simp
          have hB07 := (HB06.out.ext ((Kp.refl All w6).alloc (.cells #[.int .i64 t, .int .i64 t] 3))).ext ((Kp.refl All _).alloc (.cells #[.int .i64 t] 3))
          have hC07 := Blk.new (w6.alloc (.cells #[.int .i64 t, .int .i64 t] 3)) 3 #[.int .i64 t]
          rw [World.size_alloc] at hC07
          have c70 := hB07.cell 0
          have c71 := hB07.cell 1
          have c72 := hB07.cell 2
          have f70 := hB07.frozen 0
          have f71 := hB07.frozen 1
          have f72 := hB07.frozen 2
          go_wp2_with fail
          have HB8 : Blk (((((w6.alloc (.cells #[.int .i64 t, .int .i64 t] 3)).alloc (.cells #[.int .i64 t] 3)).setCell ⟨w.heap.size, 0, none⟩ (.slice (some ⟨w6.heap.size + 1, 0, none⟩) 1 1)).setCell ⟨w.heap.size, 1, none⟩ (.slice A6 n6 d6)).setCell ⟨w.heap.size, 2, none⟩ (.string ⟨#[]⟩)) w.heap.size 42 #[.slice (some ⟨w6.heap.size + 1, 0, none⟩) 1 1, .slice A6 n6 d6, .string ⟨#[]⟩] := ((hB07.set_ 0 _).set_ 1 _).set_ 2 _
          refine bodyPost_ret (by rw [results_cell_tmp2 rfl]; simp only [Array.getD_eq_getD_getElem?]; simp [asAddr]; rw [run_loadVar_row _ _ _ _ _ _ _ HB8 Tryz.underlying42 (by rfl) (by kernel_rfl)]; rfl) rfl ?_
          have hk8 : Kp (fun k => k ≠ w.heap.size) ((w6.alloc (.cells #[.int .i64 t, .int .i64 t] 3)).alloc (.cells #[.int .i64 t] 3)) (((((w6.alloc (.cells #[.int .i64 t, .int .i64 t] 3)).alloc (.cells #[.int .i64 t] 3)).setCell ⟨w.heap.size, 0, none⟩ (.slice (some ⟨w6.heap.size + 1, 0, none⟩) 1 1)).setCell ⟨w.heap.size, 1, none⟩ (.slice A6 n6 d6)).setCell ⟨w.heap.size, 2, none⟩ (.string ⟨#[]⟩)) := (((Kp.refl _ _).setCell (.inr (by simp)) _).setCell (.inr (by simp)) _).setCell (.inr (by simp)) _
          refine ⟨⟨⟨some ⟨w6.heap.size + 1, 0, none⟩, 1, 1⟩, ⟨A6, n6, d6⟩, ⟨#[]⟩⟩, _, rfl, ⟨.inr ⟨w6.heap.size + 1, [t], by omega, hC07.kp hk8 (by omega), by unfold parF; simp, by unfold parF; simp, by unfold parF; simp, by simp⟩, ?_, rfl⟩, New.nil _ _ _, ((HX6.out.alloc _).alloc _).trans' hk8 fun k hk _ => by omega⟩
          exact ((hN6'.out.ext (((Kp.refl _ _).alloc _).alloc _)).kp hk8 fun g e => by have := hN6'.out.2 g e; omega).less (by omega)
        · have hde : (t == c) = false := by rw [beq_eq_false_iff_ne]; exact htc
          have hB07 := HB06.out.ext ((Kp.refl All w6).alloc (.cells #[.int .i64 t, .int .i64 c] 3))
          have hC07 := Blk.new w6 3 #[.int .i64 t, .int .i64 c]
          have c70 := hB07.cell 0
          have c71 := hB07.cell 1
          have c72 := hB07.cell 2
          have f70 := hB07.frozen 0
          have f71 := hB07.frozen 1
          have f72 := hB07.frozen 2
          go_wp2_with fail
          have HB8 : Blk ((((w6.alloc (.cells #[.int .i64 t, .int .i64 c] 3)).setCell ⟨w.heap.size, 0, none⟩ (.slice (some ⟨w6.heap.size, 0, none⟩) 2 2)).setCell ⟨w.heap.size, 1, none⟩ (.slice A6 n6 d6)).setCell ⟨w.heap.size, 2, none⟩ (.string ⟨#[]⟩)) w.heap.size 42 #[.slice (some ⟨w6.heap.size, 0, none⟩) 2 2, .slice A6 n6 d6, .string ⟨#[]⟩] := ((hB07.set_ 0 _).set_ 1 _).set_ 2 _
          refine bodyPost_ret (by rw [results_cell_tmp2 rfl]; simp only [Array.getD_eq_getD_getElem?]; simp [asAddr]; rw [run_loadVar_row _ _ _ _ _ _ _ HB8 Tryz.underlying42 (by rfl) (by kernel_rfl)]; rfl) rfl ?_
          have hk8 : Kp (fun k => k ≠ w.heap.size) (w6.alloc (.cells #[.int .i64 t, .int .i64 c] 3)) ((((w6.alloc (.cells #[.int .i64 t, .int .i64 c] 3)).setCell ⟨w.heap.size, 0, none⟩ (.slice (some ⟨w6.heap.size, 0, none⟩) 2 2)).setCell ⟨w.heap.size, 1, none⟩ (.slice A6 n6 d6)).setCell ⟨w.heap.size, 2, none⟩ (.string ⟨#[]⟩)) := (((Kp.refl _ _).setCell (.inr (by simp)) _).setCell (.inr (by simp)) _).setCell (.inr (by simp)) _
          refine ⟨⟨⟨some ⟨w6.heap.size, 0, none⟩, 2, 2⟩, ⟨A6, n6, d6⟩, ⟨#[]⟩⟩, _, rfl, ⟨.inr ⟨w6.heap.size, [t, c], by omega, hC07.kp hk8 (by omega), by unfold parF; rw [if_neg htc]; rfl, by unfold parF; rw [if_neg htc]; rfl, by unfold parF; rw [if_neg htc]; simp, by simp⟩, ?_, rfl⟩, New.nil _ _ _, (HX6.out.alloc _).trans' hk8 fun k hk _ => by omega⟩
          exact ((hN6'.out.ext ((Kp.refl _ _).alloc _)).kp hk8 fun g e => by have := hN6'.out.2 g e; omega).less (by omega)

theorem refClean_calls (h : RepoX refT I D w rb cs room) (hG : GoodR cs) (hn : cs.length ≤ 300) (t c : Int) : Calls Tryz.prog 38 #[.pointer (some ⟨rb, 0, none⟩), .int .i64 t, .int .i64 c] w (SamePost w (cleanB (ofF cs t c))) := by
  have HM := Lib.hid (clean_of (refMergeOf_calls h hG hn t c))
  clear h hG
  unfold cleanB
  obtain ⟨⟨m, bad, ok⟩, hr⟩ : ∃ r, ofF cs t c = r := ⟨_, rfl⟩
  rw [hr] at HM ⊢
  clear hr
  dsimp only at HM ⊢
  go_enter Tryz.func38, Tryz.ntmps38
  go_wp2_with fail
  refine HM.out.mono ?_
  rintro e w1 ⟨pa, ta, A, pn, pc, tn, tc, e', nt, rfl, hx1⟩
  clear HM
  cases ok with
  | false =>
    go_wp2_with fail
    go_ret
    exact ⟨by first | rfl | simp, hx1.alloc _⟩
  | true =>
    cases bad with
    | nil =>
      go_wp2_with fail
      go_ret
      exact ⟨by first | rfl | simp, hx1.alloc _⟩
    | cons y ys =>
      have hd : (((y :: ys).length : Int) == 0) = false := by rw [beq_eq_false_iff_ne, List.length_cons]; omega
      have hd' : ((ys.length : Int) + 1 == 0) = false := by rw [beq_eq_false_iff_ne]; omega
      go_wp2_with fail
      go_ret
      exact ⟨by first | rfl | simp, hx1.alloc _⟩
end

end Go.Proofs.YtgjbfkaepalkiaaGreatDoor

namespace Go.Proofs.YtgjbfkaepalkiaaGreatDoor
open Go.RowKit
set_option linter.unusedVariables false
set_option linter.unusedSimpArgs false
attribute [local go_sem] Oper.semAt_some

set_option maxHeartbeats 4000000 in
theorem mergeTells_calls (v : Value) (ss : List KS) (cs : List Cm) (a b : Int) (S : Fp) (w : World) (hR : Rd EK S w v ss) (hK : RepK S w ss cs) (hS : ∀ k, S k → k < w.heap.size) :
    Calls Tryz.prog 6 #[v, .int .i64 a, .int .i64 b] w (SamePost w true) := by
  have HGr : Hid (Calls Tryz.prog 15 #[v, .int .i64 16] w (SamePost w (greatR cs 16))) := Lib.hid (greatR_calls v ss cs 16 S w hR hK (by omega))
  have HMd := Lib.hid fun W (hW : Ext w W) (hs : ∀ c ∈ cs, SmallC c) (hn : cs.length ≤ 100) => made14_calls v ss cs S W (hR.kp (hW.mono fun _ _ _ => trivial)) (hK.ext hW) (fun k hk => hW.lt (hS k hk)) hs hn
  obtain ⟨A, c, rfl, hO⟩ := hR.open_
  have hl := hK.len
  clear hO hR hK hS
  cases hg : greatR cs 16 with
  | true =>
    rw [hg] at HGr
    clear HMd hg hl
    go_enter Tryz.func6, Tryz.ntmps6
    go_wp2_with fail
    refine HGr.out.mono ?_
    rintro e w1 ⟨rfl, hx1⟩
    clear HGr
    go_wp2_with fail
    refine (awake14_calls w1).mono ?_
    rintro e w2 ⟨rfl, hx2⟩
    go_wp2_with fail
    go_ret
    exact ⟨rfl, hx1.trans hx2⟩
  | false =>
    rw [hg] at HGr
    have hsm := small_of_great hg
    have hn16 := (greatR_false hg).1
    have hgood : GoodR (madeC cs) := madeC_good hsm
    have hml := madeC_len cs
    have HM2 := Lib.hid fun W (hW : Ext w W) => HMd.out W hW hsm (by omega)
    have HGood := Lib.hid hgood
    have hm300 : (madeC cs).length ≤ 300 := by omega
    have hsl : ss.length ≤ 16 := by omega
    clear HMd hg hsm hgood hml hl hn16
    obtain ⟨n, hn⟩ : ∃ n, ss.length = n := ⟨_, rfl⟩
    rw [hn] at HGr HM2 hsl ⊢
    clear hn
    have hw3 : IntKind.i64.wrap ((n : Int) + 3) = (n : Int) + 3 := IntWalk.i64_in _ (by omega)
    go_enter Tryz.func6, Tryz.ntmps6
    go_wp2_with fail
    refine HGr.out.mono ?_
    rintro e w1 ⟨rfl, hx1⟩
    have hMd := Lib.hid (HM2.out w1 hx1)
    clear HGr HM2
    go_wp2_with fail
    refine hMd.out.mono ?_
    rintro e w2 ⟨rb, wb, I, D, D', rfl, hT⟩
    have HT := Lib.hid hT
    have hx2 := hx1.trans hT.x
    have HXB := Lib.hid hx2
    clear hMd hT hx1 hx2
    go_wp2_with fail
    refine (lowN_calls a n 3 w2 (by omega) (by omega) (by omega)).mono ?_
    rintro e w2' ⟨⟨ka, hka, rfl⟩, rfl⟩
    have hwa : IntKind.i64.wrap ((ka : Int) - 1) = (ka : Int) - 1 := IntWalk.i64_in _ (by omega)
    go_wp2_with fail
    refine (lowN_calls b n 3 w2 (by omega) (by omega) (by omega)).mono ?_
    rintro e w2' ⟨⟨kb, hkb, rfl⟩, rfl⟩
    obtain ⟨a', ha'⟩ : ∃ a', (ka : Int) - 1 = a' := ⟨_, rfl⟩
    obtain ⟨b', hb'⟩ : ∃ b', (kb : Int) - 1 = b' := ⟨_, rfl⟩
    have hwb : IntKind.i64.wrap ((kb : Int) - 1) = b' := (IntWalk.i64_in _ (by omega)).trans hb'
    rw [ha'] at hwa
    try rw [ha']
    clear hw3 ha' hka hb' hkb
    go_wp2_with fail
    clear hwa hwb
    generalize madeC cs = M at HT HGood hm300
    obtain ⟨m, hm⟩ : ∃ m, M.length = m := ⟨_, rfl⟩
    have hm1 := mergeOf_calls HT.out.r HGood.out hm300 a' b'
    have hm2 := fun W (hW : Ext w2 W) => refMergeOf_calls (HT.out.ext hW).q HGood.out hm300 a' b'
    have hc1 := fun W (hW : Ext w2 W) => mergeClean_calls (HT.out.ext hW).r HGood.out hm300 a' b'
    have hc2 := fun W (hW : Ext w2 W) => refClean_calls (HT.out.ext hW).q HGood.out hm300 a' b'
    have hln := fun W (hW : Ext w2 W) => lenR_calls (HT.out.ext hW).r
    obtain ⟨hl1, hl2⟩ := ofF_lens HGood.out a' b'
    obtain ⟨Q, qc, rows, hQB, _, _, _⟩ := HT.out.q.rd
    rw [hm] at hln hQB
    obtain ⟨cb, hcb⟩ : ∃ q, cleanB (ofF M a' b') = q := ⟨_, rfl⟩
    rw [hcb] at hc1 hc2
    obtain ⟨⟨m1, bad, ok1⟩, hr1⟩ : ∃ r, ofF M a' b' = r := ⟨_, rfl⟩
    rw [hr1] at hm1 hm2 hl1 hl2
    dsimp only at hl1 hl2
    have HM1 := Lib.hid hm1
    have HM2 := Lib.hid hm2
    have HC1 := Lib.hid hc1
    have HC2 := Lib.hid hc2
    have HLn := Lib.hid hln
    have HL1 := Lib.hid hl1
    have HL2 := Lib.hid hl2
    have HQ := Lib.hid fun W (hW : Ext w2 W) => hQB.ext hW
    clear hm1 hm2 hc1 hc2 hln hl1 hl2 hQB hcb hr1 hm hm300 HGood HT
    refine HM1.out.mono ?_
    rintro e w3 ⟨s, u, rfl, hV, hU, hx3⟩
    obtain ⟨⟨pa, pn, pc⟩, ⟨ta, tn, tc⟩, nt⟩ := s
    obtain ⟨Z, ze, rfl, _⟩ := hU.1.rd.open_
    have hbx : Ext w3 (w3.alloc (.cells #[.slice pa pn pc, .slice ta tn tc, .string nt] 42)) := (Kp.refl _ _).alloc _
    have HB1 := Lib.hid (Blk.new w3 42 #[.slice pa pn pc, .slice ta tn tc, .string nt])
    have HV1 := Lib.hid (hV.ext hbx)
    have HU1 := Lib.hid (hU.ext hbx)
    have HX3 := Lib.hid (hx3.trans hbx)
    have hM2 := Lib.hid (HM2.out _ HX3.out)
    clear HM1 HM2 hV hU hx3 hbx
    dsimp only [KS.val, SliceV.val]
    go_wp2_with fail
    generalize (w3.alloc (.cells #[.slice pa pn pc, .slice ta tn tc, .string nt] 42)) = w4 at HB1 HV1 HU1 HX3 hM2 ⊢
    refine hM2.out.mono ?_
    rintro e w5 ⟨s2, u2, rfl, hV2, hU2, hx5⟩
    obtain ⟨⟨pa2, pn2, pc2⟩, ⟨ta2, tn2, tc2⟩, nt2⟩ := s2
    obtain ⟨Z2, ze2, rfl, _⟩ := hU2.1.rd.open_
    have hby : Ext w5 (w5.alloc (.cells #[.slice pa2 pn2 pc2, .slice ta2 tn2 tc2, .string nt2] 42)) := (Kp.refl _ _).alloc _
    have hB2 := Blk.new w5 42 #[.slice pa2 pn2 pc2, .slice ta2 tn2 tc2, .string nt2]
    have hB16 := HB1.out.ext (hx5.trans hby)
    have c60 : (w5.alloc (.cells #[.slice pa2 pn2 pc2, .slice ta2 tn2 tc2, .string nt2] 42)).cell? ⟨w3.heap.size, 0, none⟩ = some (.slice pa pn pc) := hB16.cell 0
    have c61 : (w5.alloc (.cells #[.slice pa2 pn2 pc2, .slice ta2 tn2 tc2, .string nt2] 42)).cell? ⟨w3.heap.size, 1, none⟩ = some (.slice ta tn tc) := hB16.cell 1
    have c62 : (w5.alloc (.cells #[.slice pa2 pn2 pc2, .slice ta2 tn2 tc2, .string nt2] 42)).cell? ⟨w3.heap.size, 2, none⟩ = some (.string nt) := hB16.cell 2
    have d60 : (w5.alloc (.cells #[.slice pa2 pn2 pc2, .slice ta2 tn2 tc2, .string nt2] 42)).cell? ⟨w5.heap.size, 0, none⟩ = some (.slice pa2 pn2 pc2) := hB2.cell 0
    have d61 : (w5.alloc (.cells #[.slice pa2 pn2 pc2, .slice ta2 tn2 tc2, .string nt2] 42)).cell? ⟨w5.heap.size, 1, none⟩ = some (.slice ta2 tn2 tc2) := hB2.cell 1
    have d62 : (w5.alloc (.cells #[.slice pa2 pn2 pc2, .slice ta2 tn2 tc2, .string nt2] 42)).cell? ⟨w5.heap.size, 2, none⟩ = some (.string nt2) := hB2.cell 2
    have HB16 := Lib.hid hB16
    have HV16 := Lib.hid (HV1.out.ext (hx5.trans hby))
    have HU16 := Lib.hid (HU1.out.ext (hx5.trans hby))
    have HX6 := Lib.hid (HX3.out.trans (hx5.trans hby))
    have HU2 := Lib.hid (hU2.ext hby)
    have hSC := sameCommit_calls ⟨⟨pa, pn, pc⟩, ⟨ta, tn, tc⟩, nt⟩ ⟨⟨pa2, pn2, pc2⟩, ⟨ta2, tn2, tc2⟩, nt2⟩ m1 m1 _ _ (w5.alloc (.cells #[.slice pa2 pn2 pc2, .slice ta2 tn2 tc2, .string nt2] 42)) HV16.out.rd (hV2.rd.ext hby)
    rw [sameC_refl] at hSC
    have HSC := Lib.hid hSC
    dsimp only [KS.val, SliceV.val] at HSC
    clear hM2 HB1 HV1 HU1 HX3 hV2 hU2 hx5 hby hB2 hB16 hSC
    dsimp only [KS.val, SliceV.val]
    go_wp2_with fail
    generalize (w5.alloc (.cells #[.slice pa2 pn2 pc2, .slice ta2 tn2 tc2, .string nt2] 42)) = w6 at HB16 HV16 HU16 HX6 HU2 HSC c60 c61 c62 d60 d61 d62 ⊢
    refine HSC.out.mono ?_
    rintro e w7 ⟨rfl, hx7⟩
    have HST := Lib.hid (sameTexts_calls _ _ _ _ _ w7 (HU16.out.ext hx7).1.rd (HU2.out.ext hx7).1.rd)
    have HX7 := Lib.hid (HX6.out.trans hx7)
    have HV17 := Lib.hid (HV16.out.ext hx7)
    have HB17 := Lib.hid (HB16.out.ext hx7)
    have HU17 := Lib.hid (HU16.out.ext hx7)
    clear HSC hx7 c60 c61 c62 d60 d61 d62 HX6 HV16 HB16 HU16 HU2
    go_wp2_with fail
    refine HST.out.mono ?_
    rintro e w8 ⟨rfl, hx8⟩
    have HX8 := Lib.hid (HX7.out.trans hx8)
    have HV18 := Lib.hid (HV17.out.ext hx8)
    have HB18 := Lib.hid (HB17.out.ext hx8)
    have HU18 := Lib.hid (HU17.out.ext hx8)
    have hok : (ok1 == ok1) = true := by simp
    have hcc : (cb == cb) = true := by simp
    have hC1 := Lib.hid (HC1.out w8 HX8.out)
    clear HST hx8 HX7 HV17 HB17 HU17 HC1
    go_wp2_with fail
    refine hC1.out.mono ?_
    rintro e w9 ⟨rfl, hx9⟩
    have hC2 := Lib.hid (HC2.out w9 (HX8.out.trans hx9))
    have HX9 := Lib.hid (HX8.out.trans hx9)
    have HV19 := Lib.hid (HV18.out.ext hx9)
    have HB19 := Lib.hid (HB18.out.ext hx9)
    have HU19 := Lib.hid (HU18.out.ext hx9)
    clear hC1 hx9 HX8 HV18 HB18 HU18 HC2
    go_wp2_with fail
    refine hC2.out.mono ?_
    rintro e w10 ⟨rfl, hx10⟩
    have HX10 := Lib.hid (HX9.out.trans hx10)
    have hV20 := HV19.out.ext hx10
    have hB20 := HB19.out.ext hx10
    have HU20 := Lib.hid (HU19.out.ext hx10)
    have c100 : w10.cell? ⟨w3.heap.size, 0, none⟩ = some (.slice pa pn pc) := hB20.cell 0
    have c101 : w10.cell? ⟨w3.heap.size, 1, none⟩ = some (.slice ta tn tc) := hB20.cell 1
    have c102 : w10.cell? ⟨w3.heap.size, 2, none⟩ = some (.string nt) := hB20.cell 2
    have hOC := overCommit_calls ⟨⟨pa, pn, pc⟩, ⟨ta, tn, tc⟩, nt⟩ m1 _ w10 hV20 HL1.out
    have HOC := Lib.hid hOC
    dsimp only [KS.val, SliceV.val] at HOC
    have hap1 := own_parW hV20.p HU20.out.1 (by decide)
    have hap2 := own_other hV20.t.1 HU20.out.1 (by decide)
    have hap3 := hV20.t.2
    have hap4 : ∀ g, (Value.slice pa pn pc).ownBlock = some g → w2.heap.size ≤ g := fun g hg => by
      rcases hV20.p with ⟨h, _⟩ | ⟨g', xs, h1, _, h3, _⟩
      · injection h with h1 h2 h3; subst h1; simp [Value.ownBlock] at hg
      · injection h3 with h3 h4 h5; subst h3; simp [Value.ownBlock] at hg; omega
    dsimp only [KS.val, SliceV.val] at hap1 hap2 hap3
    have HAP := Lib.hid (And.intro hap1 (And.intro hap2 (And.intro hap3 hap4)))
    clear hC2 hx10 HX9 HV19 HB19 HU19 hV20 hB20 hOC hap1 hap2 hap3 hap4
    go_wp2_with fail
    refine HOC.out.mono ?_
    rintro e w11 ⟨⟨r11, rfl⟩, hk11⟩
    have hU21 := HU20.out.1.kp hk11 fun g hg => ⟨fun h => HAP.out.1 g h hg, fun h => HAP.out.2.1 g h hg⟩
    have hX11 : Ext w2 w11 := HX10.out.trans' hk11 fun k hk _ => ⟨fun h => by have := HAP.out.2.2.2 k h; omega, fun h => by have := HAP.out.2.2.1 k h; omega⟩
    have HX11 := Lib.hid hX11
    have HOT := Lib.hid (overTexts_calls _ _ w11 hU21 HL2.out)
    clear HOC hk11 hU21 hX11 c100 c101 c102
    go_wp2_with fail
    refine HOT.out.mono ?_
    rintro e w12 ⟨⟨r12, rfl⟩, hk12⟩
    have hX12 : Ext w2 w12 := HX11.out.trans' hk12 fun k hk _ h => by have := HU20.out.2 k h; omega
    have HX12 := Lib.hid hX12
    have HLn12 := Lib.hid (HLn.out _ (HX12.out.drew))
    have HQ12 := Lib.hid fun W (hW : Ext w2 W) => show W.cell? ⟨wb, 0, none⟩ = some (.slice Q m qc) from (HQ.out W hW).cell 0
    have q0 := HQ12.out w12 HX12.out
    have hmm : ((m : Int) == (m : Int)) = true := by simp
    clear HOT hk12 hX12 HAP HU20 HX10 HX11 HLn HQ
    go_wp2_with fail
    go_region_held3 (fun W => W.cell? ⟨wb, 0, none⟩ = some (.slice Q m qc))
      (first | exact HQ12.out _ (HX12.out.drew) | exact HQ12.out _ ((HX12.out.drew).trans hx14) | fail)
      (first
        | (go_at_call 25; ((with_reducible refine Calls.mono HLn12.out ?_)); rintro e w13 ⟨rfl, rfl⟩)
        | (go_at_call 31; have hJ := awake14_calls w12.drew; ((with_reducible refine Calls.mono hJ ?_)); rintro e w14 ⟨rfl, hx14⟩)
        | fail)
    have HFin := Lib.hid ((HXB.out.trans (HX12.out.drew)).trans hx14)
    clear q0 HLn12 HQ12
    go_wp2_with fail
    go_ret
    exact ⟨rfl, HFin.out⟩

end Go.Proofs.YtgjbfkaepalkiaaGreatDoor
