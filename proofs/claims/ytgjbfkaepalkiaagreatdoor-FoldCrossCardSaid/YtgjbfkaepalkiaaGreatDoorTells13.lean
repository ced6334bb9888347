/-
  cortegeref13: Deep, Base. cortegelaw0.Low. OverFiles. FoldTells: the walk.
-/
import Derived.Test.YtgjbfkaepalkiaaGreatDoorRef12
import Derived.Test.YtgjbfkaepalkiaaGreatDoorAwake13
import Derived.Test.YtgjbfkaepalkiaaGreatDoorR9d
import Derived.Deep.RegionHeld3
import Derived.Test.YtgjbfkaepalkiaaGreatDoorLaw0
import Derived.Test.YtgjbfkaepalkiaaGreatDoorConcat
namespace Go.Proofs.YtgjbfkaepalkiaaGreatDoor
open Go.RowKit
set_option linter.unusedVariables false
set_option linter.unusedSimpArgs false
attribute [local go_sem] Oper.semAt_some

/-- Files that are read only. -/
def SeenPost (w : World) (xs : List File) (e : Ending) (w' : World) : Prop := ∃ u, e = .returned u ∧ RdF w' u xs ∧ Ext w w'
theorem RdF.sl {w : World} {v : Value} {xs : List File} (h : RdF w v xs) : ∃ A c, v = .slice A xs.length c := by
  obtain ⟨A, c, hv, _⟩ := Rd.open_ h
  exact ⟨A, c, hv⟩
theorem refVirtM_calls (v1 v2 v3 : Value) (xs ys zs : List File) (w : World) (hA : RdF w v1 xs) (hB : RdF w v2 ys) (hC : RdF w v3 zs) (g1 : mayB xs = true) (g2 : mayB ys = true) (g3 : mayB zs = true) :
    Calls Tryz.prog 61 #[v1, v2, v3] w (VirtPost w (virtOf textM xs ys zs)) :=
  refVirt_calls v1 v2 v3 xs ys zs _ w hA hB hC (may_len g1) (may_len g2) (may_len g3) (may_size g1) (may_size g2) (may_size g3)

section
variable {I D : Fp} {rb : Nat} {cs : List Cm} {room : Nat} {w : World}
def RefDeepSt (cs : List Cm) (rb : Nat) (w : World) (d : Nat) : Prop := ∀ (deep : Int), (min deep 4).toNat = d → ∀ (a b : Int) (W : World), Ext w W →
  Calls Tryz.prog 23 #[.pointer (some ⟨rb, 0, none⟩), .int .i64 a, .int .i64 b, .int .i64 deep] W (SeenPost W (deepF cs d a b))

theorem refDeep0_calls (h : RepoX refT I D w rb cs room) (hG : GoodR cs) (hn : cs.length ≤ 300) : RefDeepSt cs rb w 0 := by
  intro deep hd a b W hW
  have HB := Lib.hid (refBest_calls (h.ext hW) hG hn a b)
  obtain ⟨m, hm⟩ : ∃ m, min deep 4 = m := ⟨_, rfl⟩
  rw [hm] at hd
  have hd1 : decide (m < 1) = true := decide_eq_true (by omega)
  clear h hG
  show Calls _ _ _ W (SeenPost W [])
  go_enter Tryz.func23, Tryz.ntmps23
  go_wp2_with fail
  refine HB.out.mono ?_
  rintro e w1 ⟨u, rfl, hN, hx1⟩
  obtain ⟨A, n, c, rfl⟩ := hN.1.slice
  clear HB hN
  go_wp2_with fail
  go_ret
  exact ⟨_, rfl, Rd.nil _ _, hx1⟩

set_option maxHeartbeats 4000000 in
theorem refDeepS_calls (h : RepoX refT I D w rb cs room) (hG : GoodR cs) (hn : cs.length ≤ 300) (d : Nat) (hd3 : d ≤ 3) (IH : RefDeepSt cs rb w d) : RefDeepSt cs rb w (d + 1) := by
  intro deep hd a b W hW
  have HB := Lib.hid (refBest_calls (h.ext hW) hG hn a b)
  have hm : min deep 4 = (d : Int) + 1 := by omega
  have hd1 : decide ((d : Int) + 1 < 1) = false := decide_eq_false (by omega)
  have hl := bestF_len cs a b
  have hbm := fun n (h : n ∈ bestF cs a b) => bestF_mem h
  have HIH := Lib.hid IH
  obtain ⟨L, cp, rows, hBk, hO, hR, hlr⟩ := h.rd
  have c0 : w.cell? ⟨rb, 0, none⟩ = some (.slice L cs.length cp) := hBk.cell 0
  have hrb := hBk.lt
  have hle0 := hO.le
  rw [hlr] at hle0
  have HC0 := Lib.hid fun W (hW : Ext w W) => show W.cell? ⟨rb, 0, none⟩ = some (.slice L cs.length cp) from (hW.cell (p := ⟨rb, 0, none⟩) hrb trivial).trans c0
  have HRows : Hid (∀ (j : Nat), j < cs.length → ∀ W, Ext w W → ∃ (b off : Nat) (x : SliceV), L = some ⟨b, off, none⟩ ∧ b < w.heap.size ∧ W.cell? ⟨b, off + j * 3 + 1, none⟩ = some (.slice x.a x.n x.c) ∧ RdF W x.val (treeC cs ((j : Int) + 1))) := Lib.hid fun j hj W hW => by
    obtain ⟨b, off, hA, _, hb, _, e1, _⟩ := (hO.kp (hW.mono fun _ _ _ => trivial)).rd.kom (i := j) (by omega)
    obtain ⟨b', off', hA', _, hb', _⟩ := hO.rd.kom (i := j) (by omega)
    rw [hA] at hA'
    injection hA' with hA'
    injection hA' with h1 h2
    have hp : treeC cs ((j : Int) + 1) = cs[j].tree := by unfold treeC; rw [getC_nat hj]; rfl
    refine ⟨b, off, rows[j].t, hA, by omega, e1, ?_⟩
    rw [hp]; exact ((hR.ext hW).get j (by omega) hj).t.wide fun _ _ => trivial
  have HMT := Lib.hid fun n => treeC_may hG n
  have HMD := Lib.hid fun a b => deepF_may hG d a b
  have hv : deepF cs (d + 1) a b = match bestF cs a b with
    | [] => []
    | m :: rest => (rest.take 2).foldl (fun out n => virtOf textM (deepF cs d m n) out (treeC cs n)) (treeC cs m) := rfl
  clear h IH hBk hO hR hlr c0
  generalize bestF cs a b = bs at HB hl hv hbm
  generalize deepF cs (d + 1) a b = res at hv ⊢
  have hw1 : IntKind.i64.wrap (d : Int) = (d : Int) := IntWalk.i64_in _ (by omega)
  obtain ⟨lm, hlm⟩ : ∃ m, cs.length = m := ⟨_, rfl⟩
  rw [hlm] at hl hle0 HC0 HRows hbm hn
  clear hlm
  cases bs with
  | nil =>
    subst hv
    go_enter Tryz.func23, Tryz.ntmps23
    go_wp2_with fail
    refine HB.out.mono ?_
    rintro e w1 ⟨u, rfl, hN, hx1⟩
    obtain ⟨A, c, rfl, hO⟩ := hN.1.rd.open_
    clear HB hN hO
    go_wp2_with fail
    go_ret
    exact ⟨_, rfl, Rd.nil _ _, hx1⟩
  | cons mm rest =>
    dsimp only at hv
    have HV := Lib.hid hv
    obtain ⟨mj, hmj⟩ : ∃ mj : Nat, mm = (mj : Int) + 1 := ⟨(mm - 1).toNat, by have := hbm mm (List.mem_cons_self ..); omega⟩
    have hmjl : mj < lm := by have := hbm mm (List.mem_cons_self ..); omega
    subst hmj
    have HBM := Lib.hid hbm
    clear hv hbm
    go_enter Tryz.func23, Tryz.ntmps23
    go_wp2_with fail
    refine HB.out.mono ?_
    rintro e w1 ⟨u, rfl, hN, hx1⟩
    obtain ⟨A, c, rfl, hO⟩ := hN.1.rd.open_
    have hle := hO.le
    have hmx := hO.max
    obtain ⟨bb, off, rfl, _, hbl, e0⟩ := hO.rd.num (i := 0) (by simp)
    have e0' : w1.cell? ⟨bb, off, none⟩ = some (.int .i64 ((mj : Int) + 1)) := e0
    have HO := Lib.hid fun W' (hW : Ext w1 W') => hO.rd.kp (hW.mono fun _ _ _ => trivial)
    obtain ⟨n, hln⟩ : ∃ n, (((mj : Int) + 1) :: rest).length = n := ⟨_, rfl⟩
    have hn0 : 0 < n := by rw [← hln]; simp
    rw [hln] at hle hl ⊢
    have HLN := Lib.hid hln
    have h0n : (0 : Int) < (n : Int) := by omega
    have hnz : ((n : Int) == 0) = false := by rw [beq_eq_false_iff_ne]; omega
    have HX1 := Lib.hid (hW.trans hx1)
    have HXW := Lib.hid hx1
    obtain ⟨lb, lo, x, hLA, hlb, t0, ht0⟩ := HRows.out mj hmjl w1 (hW.trans hx1)
    have hwm : IntKind.i64.wrap (mj : Int) = (mj : Int) := IntWalk.i64_in _ (by omega)
    have hmj0 : (0 : Int) ≤ (mj : Int) := by omega
    have hmj1 : (mj : Int) < (lm : Int) := by omega
    subst hLA
    have c01 := HC0.out w1 (hW.trans hx1)
    have HT0 := Lib.hid ht0
    clear HB hN hO e0 hln hx1 ht0
    go_wp2_with fail
    go_quiet (fail)
    have hxd := HX1.out.drewN nq
    have HT0' := Lib.hid (HT0.out.ext ((Kp.refl _ w1).drewN nq))
    have HOd := Lib.hid fun W' (hW : Ext (w1.drewN nq) W') => HO.out W' (((Kp.refl _ w1).drewN nq).trans hW)
    have e0d : (w1.drewN nq).cell? ⟨bb, off, none⟩ = some (.int .i64 ((mj : Int) + 1)) := e0'
    have hbld : bb < (w1.drewN nq).heap.size := hbl
    have HXWd := Lib.hid (HXW.out.drewN nq)
    clear e0' t0 c01 HO HT0 hwm hmj0 hmj1
    generalize w1.drewN nq = w2 at hxd HT0' HOd e0d hbld HXWd ⊢
    obtain ⟨q, hq⟩ : ∃ q, min n 3 = q := ⟨_, rfl⟩
    have HQ := Lib.hid hq
    have hq1 : 1 ≤ q := by omega
    have hqn : q ≤ 3 := by omega
    clear hq hm hd
    go_wp2_with fail
    go_loopw [10, 11] (fun o i wr => ∃ k : Nat, k + 1 ≤ q ∧ i = .int .i64 ((k : Int) + 1) ∧ RdF wr o (((rest.take 2).take k).foldl (fun out n => virtOf textM (deepF cs d ((mj : Int) + 1) n) out (treeC cs n)) (treeC cs ((mj : Int) + 1))) ∧ Ext w2 wr) (fun _ i _ => 4 - (intOf i).toNat)
    case atStart => exact ⟨0, hq1, rfl, HT0'.out, Kp.refl _ _⟩
    case round =>
      obtain ⟨k, hk, rfl, hN, hx⟩ := hrel
      rename World => wo
      obtain ⟨Ao, co, ho⟩ := hN.sl
      generalize hfo : ((rest.take 2).take k).foldl (fun out n => virtOf textM (deepF cs d ((mj : Int) + 1) n) out (treeC cs n)) (treeC cs ((mj : Int) + 1)) = fo at hN ho
      have hmay : Hid (mayB fo = true) := Lib.hid (by rw [← hfo]; exact foldV_may (HMT.out _))
      obtain ⟨no, hno⟩ : ∃ no, fo.length = no := ⟨_, rfl⟩
      rw [hno] at ho
      subst ho
      have HFO := Lib.hid hfo
      clear hfo hno
      by_cases hlt : k + 1 < q
      · have hkn : (k : Int) + 1 < (n : Int) := by have := HQ.out; omega
        have hd5 : decide ((k : Int) + 1 < (n : Int)) = true := decide_eq_true hkn
        have hd6 : decide ((k : Int) + 1 < 3) = true := decide_eq_true (by omega)
        have hkr : k < rest.length := by have := HLN.out; have := HQ.out; rw [List.length_cons] at *; omega
        have hk2 : k < 2 := by omega
        have hkt : k < (rest.take 2).length := by rw [List.length_take]; omega
        obtain ⟨bb', off', hA', _, _, hc'⟩ := (HOd.out wo hx).num (i := k + 1) (by rw [List.length_cons]; omega)
        injection hA' with hA'
        injection hA' with e1 e2
        subst e1 e2
        rw [List.getElem_cons_succ] at hc'
        have hgt : (rest.take 2)[k] = rest[k] := List.getElem_take
        have HS : Hid ((rest.take 2).take (k + 1) = (rest.take 2).take k ++ [rest[k]]) := Lib.hid (by rw [List.take_succ_eq_append_getElem hkt, hgt])
        have hyb := HBM.out rest[k] (List.mem_cons_of_mem _ (List.getElem_mem hkr))
        generalize rest[k] = y at hc' HS hgt hyb
        obtain ⟨yj, hyj⟩ : ∃ yj : Nat, y = (yj : Int) + 1 := ⟨(y - 1).toNat, by omega⟩
        subst hyj
        obtain ⟨lb', lo', ty, hLA', hlb', ty0, hty⟩ := HRows.out yj (by omega) wo (hxd.trans hx)
        injection hLA' with hLA'
        injection hLA' with e3 e4
        subst e3 e4
        obtain ⟨ta, tn, tc⟩ := ty
        dsimp only [SliceV.val] at ty0 hty
        have e0o : wo.cell? ⟨bb, off, none⟩ = some (.int .i64 ((mj : Int) + 1)) := (hx.cell (p := ⟨bb, off, none⟩) hbld trivial).trans e0d
        have r0o := HC0.out wo (hxd.trans hx)
        have h0k : (0 : Int) ≤ (k : Int) + 1 := by omega
        have hyj0 : (0 : Int) ≤ (yj : Int) := by omega
        have hyj1 : (yj : Int) < (lm : Int) := by omega
        have hwy : IntKind.i64.wrap (yj : Int) = (yj : Int) := IntWalk.i64_in _ (by omega)
        have hwk : IntKind.i64.wrap ((k : Int) + 1 + 1) = (k : Int) + 1 + 1 := IntWalk.i64_in _ (by omega)
        have hbbo : bb < wo.heap.size := hx.lt hbld
        have hlbo : lb < wo.heap.size := by have := (hxd.trans hx).size; omega
        have hrbo : rb < wo.heap.size := by have := (hxd.trans hx).size; omega
        have HS5 : Hid (∀ W, Ext wo W → W.cell? ⟨bb, off, none⟩ = some (.int .i64 ((mj : Int) + 1)) ∧ W.cell? ⟨bb, off + (k + 1), none⟩ = some (.int .i64 ((yj : Int) + 1)) ∧ W.cell? ⟨rb, 0, none⟩ = some (.slice (some ⟨lb, lo, none⟩) lm cp) ∧ W.cell? ⟨lb, lo + yj * 3 + 1, none⟩ = some (.slice ta tn tc)) := Lib.hid fun W hW =>
          ⟨(hW.cell (p := ⟨bb, off, none⟩) hbbo trivial).trans e0o, (hW.cell (p := ⟨bb, off + (k + 1), none⟩) hbbo trivial).trans hc', (hW.cell (p := ⟨rb, 0, none⟩) hrbo trivial).trans r0o, (hW.cell (p := ⟨lb, lo + yj * 3 + 1, none⟩) hlbo trivial).trans ty0⟩
        have hI := Lib.hid fun W (hW : Ext wo W) => (HIH.out (d : Int) (by omega) ((mj : Int) + 1) ((yj : Int) + 1) W ((hxd.trans hx).trans hW))
        have HN := Lib.hid hN
        have HX := Lib.hid hx
        have HTY := Lib.hid hty
        clear hN hx hgt hkr hkt hty hyb e0d
        go_wp2_with fail
        go_region_held3 (fun W => W.cell? ⟨bb, off, none⟩ = some (.int .i64 ((mj : Int) + 1)) ∧ W.cell? ⟨bb, off + (k + 1), none⟩ = some (.int .i64 ((yj : Int) + 1)) ∧ W.cell? ⟨rb, 0, none⟩ = some (.slice (some ⟨lb, lo, none⟩) lm cp) ∧ W.cell? ⟨lb, lo + yj * 3 + 1, none⟩ = some (.slice ta tn tc))
          (first | exact HS5.out _ hx5 | exact HS5.out _ hx4 | exact HS5.out _ ((Kp.refl _ wo).drew) | fail)
          (first
            | (go_at_call 23; ((with_reducible refine Calls.mono (hI.out _ ?_) ?_)); (exact (Kp.refl _ wo).drew); rintro e w4 ⟨u4, rfl, hN4, hx4'⟩; have hx4 : Ext wo w4 := ((Kp.refl _ wo).drew).trans hx4')
            | (go_at_call 61; have hVc := refVirtM_calls _ _ _ _ _ _ w4 hN4 (HN.out.ext hx4) (HTY.out.ext hx4) (HMD.out _ _) hmay.out (HMT.out _); ((with_reducible refine Calls.mono hVc ?_)); rintro e w5 ⟨u5, rfl, hN5, hx5'⟩; have hx5 : Ext wo w5 := hx4.trans hx5')
            | fail)
        obtain ⟨A6, n6, c6, rfl⟩ := hN5.1.slice
        have HN5 := Lib.hid hN5
        have HX5 := Lib.hid hx5
        clear hI HS5 hN4 hN5 hx5 hx5' hx4 hx4' hc' e0o r0o ty0
        go_wp2_with fail
        go_roundw
        case rel =>
          refine ⟨k + 1, by omega, by go_num, ?_, HX.out.trans HX5.out⟩
          rw [HS.out, List.foldl_append, HFO.out]
          exact HN5.out.rdF
        case measure => simp [intOf]; omega
      · have hfin : fo = res := by
          rw [HV.out, ← HFO.out, List.take_of_length_le (by
            rw [List.length_take]
            have := HLN.out; have := HQ.out
            rw [List.length_cons] at *
            omega)]
        rw [hfin] at hN
        have HN := Lib.hid hN
        clear hfin hN
        by_cases hkn : k + 1 < n
        · have hd5 : decide ((k : Int) + 1 < (n : Int)) = true := decide_eq_true (by omega)
          have hd6 : decide ((k : Int) + 1 < 3) = false := decide_eq_false (by have := HQ.out; omega)
          go_wp2_with fail
          go_ret
          exact ⟨_, rfl, HN.out, HXWd.out.trans hx⟩
        · have hd5 : decide ((k : Int) + 1 < (n : Int)) = false := decide_eq_false (by omega)
          go_wp2_with fail
          go_ret
          exact ⟨_, rfl, HN.out, HXWd.out.trans hx⟩

theorem refDeep_calls (h : RepoX refT I D w rb cs room) (hG : GoodR cs) (hn : cs.length ≤ 300) : ∀ d : Nat, d ≤ 4 → RefDeepSt cs rb w d
  | 0, _ => refDeep0_calls h hG hn
  | d + 1, hd => refDeepS_calls h hG hn d (by omega) (refDeep_calls h hG hn d (by omega))
theorem refDeepR_calls (h : RepoX refT I D w rb cs room) (hG : GoodR cs) (hn : cs.length ≤ 300) (a b deep : Int) : Calls Tryz.prog 23 #[.pointer (some ⟨rb, 0, none⟩), .int .i64 a, .int .i64 b, .int .i64 deep] w (SeenPost w (deepF cs (min deep 4).toNat a b)) :=
  refDeep_calls h hG hn _ (by omega) deep rfl a b w (Kp.refl _ _)
theorem refBase_calls (h : RepoX refT I D w rb cs room) (hG : GoodR cs) (hn : cs.length ≤ 300) (a b : Int) : Calls Tryz.prog 22 #[.pointer (some ⟨rb, 0, none⟩), .int .i64 a, .int .i64 b] w (SeenPost w (deepF cs 4 a b)) := by
  have HD := Lib.hid (refDeepR_calls h hG hn a b 4)
  clear h hG
  go_enter Tryz.func22, Tryz.ntmps22
  go_wp2_with fail
  refine HD.out.mono ?_
  rintro e w1 ⟨u, rfl, hN, hx1⟩
  obtain ⟨A, c, rfl⟩ := hN.sl
  have HN := Lib.hid hN
  clear HD hN
  go_wp2_with fail
  go_ret
  exact ⟨_, rfl, HN.out, hx1⟩
end

end Go.Proofs.YtgjbfkaepalkiaaGreatDoor

namespace Go.Proofs.YtgjbfkaepalkiaaGreatDoor
open Go.RowKit
set_option linter.unusedVariables false
set_option linter.unusedSimpArgs false

theorem low_calls (x : Int) (n : Nat) (w : World) (hn : 0 < n) (hm : n ≤ 1000000) :
    Calls Tryz.prog 18 #[.int .i64 x, .int .i64 n] w fun e w' => (∃ k : Nat, k < n ∧ e = .returned (.int .i64 k)) ∧ w = w' := by
  obtain ⟨r, hr⟩ : ∃ r : Nat, IntKind.u64.wrap x = r := ⟨(IntKind.u64.wrap x).toNat, by
    have := IntKind.wrap_u64 x
    omega⟩
  have hlt : r % n < n := Nat.mod_lt _ hn
  have hmod : ((r : Int)).tmod (n : Int) = ((r % n : Nat) : Int) := rfl
  have hw : wrap64 ((r % n : Nat) : Int) = ((r % n : Nat) : Int) := IntWalk.wrap64_in _ (by omega)
  go_enter Tryz.func18, Tryz.ntmps18
  go_wp2_with fail
  go_ret
  refine ⟨⟨r % n, hlt, ?_⟩, rfl⟩
  first | rfl | (show Ending.returned (.int .i64 _) = _; rw [hw]) | (show Ending.returned (.int .i64 _) = _; rw [hmod, hw])

end Go.Proofs.YtgjbfkaepalkiaaGreatDoor

namespace Go.Proofs.YtgjbfkaepalkiaaGreatDoor
open Go.RowKit
set_option linter.unusedVariables false
set_option linter.unusedSimpArgs false
attribute [local go_sem] Oper.semAt_some

def overF : File := ⟨⟨#[111, 118, 101, 114]⟩, ⟨#[]⟩⟩
set_option maxHeartbeats 400000 in
/-- cortegelaw0.OverFiles. -/
theorem overFiles_calls (v : Value) (xs : List File) (w : World) (hO : Own EF 39 w v xs) (hb : xs.length ≤ 1000) :
    Calls Tryz.prog 24 #[v] w fun e w' => (∃ r, e = .returned r) ∧ Kp (fun k => v.ownBlock ≠ some k) w w' := by
  have hslice : (v = .slice none 0 0 ∧ xs = []) ∨ ∃ g n c, v = .slice (some ⟨g, 0, none⟩) n c ∧ xs.length = n := by
    rcases hO.2 with ⟨h, h0⟩ | ⟨g, cap, cur, h, _⟩
    · exact .inl ⟨h, List.eq_nil_of_length_eq_zero h0⟩
    · exact .inr ⟨g, _, cap, h, rfl⟩
  rcases hslice with ⟨rfl, rfl⟩ | ⟨g, n, c, rfl, hn⟩
  · go_enter Tryz.func24, Tryz.ntmps24
    go_wp2_with fail
    refine wp_loop_once ?_
    go_wp2_with (at_builtin; refine stop ?_)
    refine list_append (xs := []) (ys := [overF]) tiF rfl rfl rfl rfl (hO.kp ((Kp.refl _ w).alloc _) (fun _ _ => trivial)) (Own.made w 39 [overF] (by simp [maxLen])).rd (by simp) (by simp [maxLen]) ?_
    intro v' w' hO' hK' hB'
    go_wp2_with fail
    exact bodyPost_end (results_none rfl _ _ _) rfl ⟨⟨_, rfl⟩, ((Kp.refl _ w).alloc _).trans' hK' (fun _ _ h => h)⟩
  · rw [hn] at hb
    have HN := Lib.hid hn
    clear hn
    go_enter Tryz.func24, Tryz.ntmps24
    go_wp2_with fail
    go_loopw [2] (fun i wr => ∃ (k : Nat) (zs : List File), k ≤ n ∧ i = .int .i64 k ∧ zs.length = n ∧ Own EF 39 wr (.slice (some ⟨g, 0, none⟩) n c) zs ∧ Kp (fun k => k ≠ g) w wr) (fun i _ => n - (intOf i).toNat)
    case atStart => exact ⟨0, xs, Nat.zero_le _, rfl, HN.out, hO, Kp.refl _ _⟩
    case round =>
      obtain ⟨k, zs, hk, rfl, hz, hOr, hKr⟩ := hrel
      rename World => wo
      have HZ := Lib.hid hz
      by_cases hlt : k < n
      · have hd3 : decide ((k : Int) < (n : Int)) = true := decide_eq_true (by omega)
        have hlt' : (k : Int) < (n : Int) := by omega
        have h0 : (0 : Int) ≤ (k : Int) := by omega
        have hw : IntKind.i64.wrap ((k : Int) + 1) = (k : Int) + 1 := IntWalk.i64_in _ (by omega)
        obtain ⟨x, hx⟩ : ∃ x, zs[k]? = some x := ⟨_, List.getElem?_eq_getElem (by omega)⟩
        obtain ⟨c0, c1⟩ := hOr.file hx
        have f0 := hOr.free (k * 2)
        have f1 := hOr.free (k * 2 + 1)
        have HX := Lib.hid hx
        clear hz hx
        go_wp2_with fail
        go_roundw
        case rel => exact ⟨k + 1, zs.set k overF, by omega, by go_num, by rw [List.length_set]; exact HZ.out, hOr.setF (List.getElem?_eq_some_iff.1 HX.out).1 overF, (hKr.setCell (.inr (by simp)) _).setCell (.inr (by simp)) _⟩
        case measure => simp [intOf]; omega
      · have hd3 : decide ((k : Int) < (n : Int)) = false := decide_eq_false (by omega)
        clear hz
        go_wp2_with (at_builtin; refine stop ?_)
        refine list_append (v := .slice (some ⟨g, 0, none⟩) n c) (xs := zs) (ys := [overF]) tiF rfl rfl rfl rfl (hOr.kp ((Kp.refl _ wo).alloc _) (fun _ _ => trivial)) (Own.made wo 39 [overF] (by simp [maxLen])).rd (by rw [HZ.out]; simp; omega) (by rw [HZ.out]; simp [maxLen]; omega) ?_
        intro v' w' hO' hK' hB'
        go_wp2_with fail
        refine bodyPost_end (results_none rfl _ _ _) rfl ⟨⟨_, rfl⟩, ?_⟩
        refine ((hKr.alloc _).trans' hK' (fun k _ h e => h (by injection e with e; exact e.symm))).mono (fun k _ h e => h (by rw [e]; rfl))

end Go.Proofs.YtgjbfkaepalkiaaGreatDoor

namespace Go.Proofs.YtgjbfkaepalkiaaGreatDoor
open Go.RowKit
set_option linter.unusedVariables false
set_option linter.unusedSimpArgs false
attribute [local go_sem] Oper.semAt_some

theorem small_of_great {cs : List Cm} {m : Nat} (h : greatR cs m = false) : ∀ c ∈ cs, SmallC c := fun c hc => by
  obtain ⟨h1, h2, h3⟩ := (greatR_false h).2 c hc
  exact ⟨by omega, by omega, fun y hy => by have := (h3 y hy).1; omega⟩
theorem lowN_calls (x : Int) (n k : Nat) (w : World) (hk : 0 < n + k) (hn : n ≤ 1000) (hk2 : k ≤ 1000) :
    Calls Tryz.prog 18 #[.int .i64 x, .int .i64 ((n : Int) + (k : Int))] w fun e w' => (∃ j : Nat, j < n + k ∧ e = .returned (.int .i64 j)) ∧ w = w' := by
  have h := low_calls x (n + k) w hk (by omega)
  rw [Int.natCast_add] at h
  exact h

set_option maxHeartbeats 4000000 in
theorem foldTells_calls (v : Value) (ss : List KS) (cs : List Cm) (a b deep : Int) (S : Fp) (w : World) (hR : Rd EK S w v ss) (hK : RepK S w ss cs) (hS : ∀ k, S k → k < w.heap.size) :
    Calls Tryz.prog 3 #[v, .int .i64 a, .int .i64 b, .int .i64 deep] w (SamePost w true) := by
  have HGr : Hid (Calls Tryz.prog 15 #[v, .int .i64 16] w (SamePost w (greatR cs 16))) := Lib.hid (greatR_calls v ss cs 16 S w hR hK (by omega))
  have HMd := Lib.hid fun W (hW : Ext w W) (hs : ∀ c ∈ cs, SmallC c) (hn : cs.length ≤ 100) => made13_calls v ss cs S W (hR.kp (hW.mono fun _ _ _ => trivial)) (hK.ext hW) (fun k hk => hW.lt (hS k hk)) hs hn
  obtain ⟨A, c, rfl, hO⟩ := hR.open_
  have hl := hK.len
  clear hO hR hK hS
  cases hg : greatR cs 16 with
  | true =>
    rw [hg] at HGr
    clear HMd hg hl
    go_enter Tryz.func3, Tryz.ntmps3
    go_wp2_with fail
    refine HGr.out.mono ?_
    rintro e w1 ⟨rfl, hx1⟩
    clear HGr
    go_wp2_with fail
    refine (awake13_calls w1).mono ?_
    rintro e w2 ⟨rfl, hx2⟩
    go_wp2_with fail
    go_ret
    exact ⟨rfl, hx1.trans hx2⟩
  | false =>
    rw [hg] at HGr
    have hsm := small_of_great hg
    have hn16 := (greatR_false hg).1
    have hgood : GoodR (madeC cs) := madeC_good hsm
    have hml := madeC_len cs
    have HM2 := Lib.hid fun W (hW : Ext w W) => HMd.out W hW hsm (by omega)
    have HGood := Lib.hid hgood
    have hm300 : (madeC cs).length ≤ 300 := by omega
    have hsl : ss.length ≤ 16 := by omega
    clear HMd hg hsm hgood hml hl hn16
    obtain ⟨n, hn⟩ : ∃ n, ss.length = n := ⟨_, rfl⟩
    rw [hn] at HGr HM2 hsl ⊢
    clear hn
    have hw3 : IntKind.i64.wrap ((n : Int) + 3) = (n : Int) + 3 := IntWalk.i64_in _ (by omega)
    go_enter Tryz.func3, Tryz.ntmps3
    go_wp2_with fail
    refine HGr.out.mono ?_
    rintro e w1 ⟨rfl, hx1⟩
    have hMd := Lib.hid (HM2.out w1 hx1)
    clear HGr HM2
    go_wp2_with fail
    refine hMd.out.mono ?_
    rintro e w2 ⟨rb, wb, I, D, D', rfl, hT⟩
    have HT := Lib.hid hT
    have hx2 := hx1.trans hT.x
    have HXB := Lib.hid hx2
    clear hMd hT hx1
    go_wp2_with fail
    refine (lowN_calls a n 3 w2 (by omega) (by omega) (by omega)).mono ?_
    rintro e w2' ⟨⟨ka, hka, rfl⟩, rfl⟩
    have hwa : IntKind.i64.wrap ((ka : Int) - 1) = (ka : Int) - 1 := IntWalk.i64_in _ (by omega)
    go_wp2_with fail
    refine (lowN_calls b n 3 w2 (by omega) (by omega) (by omega)).mono ?_
    rintro e w2' ⟨⟨kb, hkb, rfl⟩, rfl⟩
    obtain ⟨a', ha'⟩ : ∃ a', (ka : Int) - 1 = a' := ⟨_, rfl⟩
    obtain ⟨b', hb'⟩ : ∃ b', (kb : Int) - 1 = b' := ⟨_, rfl⟩
    have hwb : IntKind.i64.wrap ((kb : Int) - 1) = b' := (IntWalk.i64_in _ (by omega)).trans hb'
    rw [ha'] at hwa
    try rw [ha']
    clear hw3 ha' hka hb' hkb
    go_wp2_with fail
    clear hwa hwb
    refine (baseR_calls HT.out.r HGood.out hm300 a' b').mono ?_
    rintro e w3 ⟨u3, rfl, hN3, hx3⟩
    obtain ⟨A3, n3, c3, rfl⟩ := hN3.1.slice
    have HT3 := Lib.hid (HT.out.ext hx3)
    have HN3 := Lib.hid hN3
    have hxx3 := hx2.trans hx3
    have HX3 := Lib.hid hx3
    clear hN3 hx2 hx3
    go_wp2_with fail
    refine (deepR_calls HT3.out.r HGood.out hm300 a' b' deep).mono ?_
    rintro e w4 ⟨u4, rfl, hN4, hx4⟩
    obtain ⟨A4, n4, c4, rfl⟩ := hN4.1.slice
    have HT4 := Lib.hid (HT3.out.ext hx4)
    have HN4 := Lib.hid hN4
    have hxx4 := hxx3.trans hx4
    have HX4 := Lib.hid hx4
    clear hN4 hxx3 hx4
    go_wp2_with fail
    refine (refBase_calls HT4.out.q HGood.out hm300 a' b').mono ?_
    rintro e w5 ⟨u5, rfl, hN5, hx5⟩
    obtain ⟨A5, c5, rfl⟩ := hN5.sl
    have HS5 := Lib.hid (sameFiles_calls _ _ _ _ _ _ w5 ((HN3.out.ext (HX4.out.trans hx5)).rdF) hN5)
    have HT5 := Lib.hid (HT4.out.ext hx5)
    have HX5 := Lib.hid hx5
    have hxx5 := hxx4.trans hx5
    clear hN5 hx5 hxx4
    go_wp2_with fail
    refine HS5.out.mono ?_
    rintro e w6 ⟨rfl, hx6⟩
    rw [sameB_refl]
    have HT6 := Lib.hid (HT5.out.ext hx6)
    have HX6 := Lib.hid hx6
    have hxx6 := hxx5.trans hx6
    clear HS5 hxx5 hx6
    go_wp2_with fail
    refine (refDeepR_calls HT6.out.q HGood.out hm300 a' b' deep).mono ?_
    rintro e w7 ⟨u7, rfl, hN7, hx7⟩
    obtain ⟨A7, c7, rfl⟩ := hN7.sl
    have HS7 := Lib.hid (sameFiles_calls _ _ _ _ _ _ w7 ((HN4.out.ext (HX5.out.trans (HX6.out.trans hx7))).rdF) hN7)
    have HX7 := Lib.hid hx7
    have hxx7 := hxx6.trans hx7
    clear hN7 hx7 hxx6
    go_wp2_with fail
    refine HS7.out.mono ?_
    rintro e w8 ⟨rfl, hx8⟩
    rw [sameB_refl]
    have HX38 := Lib.hid (HX4.out.trans (HX5.out.trans (HX6.out.trans (HX7.out.trans hx8))))
    have HX48 := Lib.hid (HX5.out.trans (HX6.out.trans (HX7.out.trans hx8)))
    have HO3 := Lib.hid (overFiles_calls _ _ w8 (HN3.out.ext HX38.out).1 (may_len (deepF_may HGood.out _ _ _)))
    clear HS7 hxx7 hx8
    go_wp2_with fail
    refine HO3.out.mono ?_
    rintro e w9 ⟨⟨r9, rfl⟩, hk9⟩
    have HK9 := Lib.hid hk9
    have HO4 := Lib.hid (overFiles_calls _ _ w9 ((HN4.out.ext HX48.out).1.kp hk9 fun g e e' => by have h1 := HN4.out.2 g e; have h2 := HN3.out.1.lt e'; omega) (may_len (deepF_may HGood.out _ _ _)))
    clear HO3 hk9
    go_wp2_with fail
    refine HO4.out.mono ?_
    rintro e w10 ⟨⟨r10, rfl⟩, hk10⟩
    have hx210 : Ext w2 w10 := (((HX3.out.trans HX38.out).trans' HK9.out fun k hk _ e => by have := HN3.out.2 k e; omega)).trans' hk10 fun k hk _ e => by have h1 := HN4.out.2 k e; have h2 := HX3.out.size; omega
    have HT10 := Lib.hid (HT.out.ext hx210)
    have HX210 := Lib.hid hx210
    clear HO4 hk10 hx210
    go_wp2_with fail
    refine (baseR_calls HT10.out.r HGood.out hm300 a' b').mono ?_
    rintro e w11 ⟨u11, rfl, hN11, hx11⟩
    obtain ⟨A11, n11, c11, rfl⟩ := hN11.1.slice
    have HT11 := Lib.hid (HT10.out.ext hx11)
    have HN11 := Lib.hid hN11
    have HX11 := Lib.hid hx11
    clear hN11 hx11
    go_wp2_with fail
    refine (refBase_calls HT11.out.q HGood.out hm300 a' b').mono ?_
    rintro e w12 ⟨u12, rfl, hN12, hx12⟩
    obtain ⟨A12, c12, rfl⟩ := hN12.sl
    have HS12 := Lib.hid (sameFiles_calls _ _ _ _ _ _ w12 ((HN11.out.ext hx12).rdF) hN12)
    have HX12 := Lib.hid hx12
    clear hN12 hx12
    go_wp2_with fail
    refine HS12.out.mono ?_
    rintro e w13 ⟨rfl, hx13⟩
    rw [sameB_refl]
    have hfin := ((HX210.out.trans HX11.out).trans HX12.out).trans hx13
    have HFin := Lib.hid hfin
    clear HS12 hx13 hfin
    go_wp2_with fail
    refine (awake13_calls w13).mono ?_
    rintro e w14 ⟨rfl, hx14⟩
    go_wp2_with fail
    go_ret
    exact ⟨rfl, (HXB.out.trans HFin.out).trans hx14⟩

end Go.Proofs.YtgjbfkaepalkiaaGreatDoor
