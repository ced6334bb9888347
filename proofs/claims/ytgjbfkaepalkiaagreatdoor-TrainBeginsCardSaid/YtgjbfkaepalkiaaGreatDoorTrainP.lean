/-
  dag.Is. cortegelaw0.Low. OverFiles. What the merge laws share. merge.Of, merge.Clean. merge.Clean; SameCommit, OverInts, OverCommit. Plain: merges: which one is which does not matter; what is merged may be a commit. Plain: a merge put into the repository: merged again nothing changes. Plain: two merges of the same two commits. Plain: commits that each put in a file of their own, merged one behind the other. made, of the law package 14. cortegelaw14: awake. Entries: l.Each, seq.Take. Plain: trains.
-/
import Derived.Test.YtgjbfkaepalkiaaGreatDoorDag
import Derived.Test.YtgjbfkaepalkiaaGreatDoorLaw0
import Derived.Test.YtgjbfkaepalkiaaGreatDoorConcat
import Derived.Test.YtgjbfkaepalkiaaGreatDoorMade
import Derived.Test.YtgjbfkaepalkiaaGreatDoorAwake13
import Derived.Deep.RegionHeld3
import Derived.Handy
import Derived.Test.YtgjbfkaepalkiaaGreatDoorGreat
import Derived.Test.YtgjbfkaepalkiaaGreatDoorSwapM
import Derived.Test.YtgjbfkaepalkiaaGreatDoorSides9P
import Derived.Test.YtgjbfkaepalkiaaGreatDoorSeqI
namespace Go.Proofs.YtgjbfkaepalkiaaGreatDoor
open Go.RowKit
set_option linter.unusedVariables false
set_option linter.unusedSimpArgs false
attribute [local go_sem] Oper.semAt_some

/-- One result that lies in a variable. -/
theorem results_cell1 {fn : Func} {t : Tmp} {ty : TypeId} (h : fn.results = #[.cell t ty]) {tmps : Array Value} {P : Program} {w : World} (ha : ∀ w, (isAgg ty).run P w = .ok false w)
    {p : Addr} {v : Value} (ht : tmps.getD t undef = .pointer (some p)) (hv : w.cell? p = some v) : (results fn tmps).run P w = .ok v w := by
  have ht' : tmps[t]?.getD undef = .pointer (some p) := by simpa using ht
  simp only [results, h]
  simp [Sem.run_bind, Result.andThen, ht', loadVar, ha, asAddr, load, Sem.run, hv]

section
variable {I D : Fp} {rb : Nat} {cs : List Cm} {room : Nat} {w : World}
set_option maxHeartbeats 1000000 in
theorem isR_calls (h : RepoX repoT I D w rb cs room) (hG : GoodR cs) (hn : cs.length ≤ 300) (a b : Int) : Calls Tryz.prog 30 #[.pointer (some ⟨rb, 0, none⟩), .int .i64 a, .int .i64 b] w fun e w' => e = .returned (.bool ((aheadF cs b).contains a)) ∧ Ext w w' := by
  have HA := Lib.hid fun W (hW : Ext w W) => ahead_calls (h.ext hW) hG hn b
  have hDI : ∀ k, (D k ∨ I k) → k < w.heap.size := fun k hk => hk.elim (h.ld k) (h.li k)
  clear h hG
  refine calls_of_body Tryz.func30 rfl ?_
  simp only [Tryz.ntmps30, List.size_toArray, List.length_cons, List.length_nil, Nat.reduceAdd, Nat.reduceSub, Array.replicate_succ, Array.replicate_zero, List.push_toArray, List.append_toArray, List.nil_append, List.cons_append]
  gi_wp2_with fail
  have hx0 : Ext w ((w.alloc (.cells #[.int .i64 a] 3)).alloc (.cells #[.bool false] 4)) := ((Kp.refl _ w).alloc _).alloc _
  have hB1 := (Blk.new w 3 #[.int .i64 a]).ext ((Kp.refl _ _).alloc (.cells #[.bool false] 4))
  have hB2 := Blk.new (w.alloc (.cells #[.int .i64 a] 3)) 4 #[.bool false]
  rw [World.size_alloc] at hB2
  generalize ((w.alloc (.cells #[.int .i64 a] 3)).alloc (.cells #[.bool false] 4)) = w0 at hx0 hB1 hB2 ⊢
  refine wide_call ((HA.out _ hx0).mono ?_)
  rintro e w1 ⟨u, rfl, hs, hx1⟩
  obtain ⟨sf, sa, sb, rfl⟩ := hs.isf
  have hb2l := hB2.lt
  have hz1 := hx1.size
  have hx01 := hx0.trans hx1
  have hC1 := hB1.ext hx1
  have hC2 := hB2.ext hx1
  clear HA hB1 hB2
  gi_wp2_with fail
  refine range_wp (fv := .func sf sa sb) rfl hs (fun k hk => by
    rcases hk with hk | hk
    · have := hDI k hk; have := hx01.size; omega
    · omega) (fun _ => rfl)
    (fun pre E W => Blk W w.heap.size 3 #[.int .i64 a] ∧ Blk W (w.heap.size + 1) 4 #[.bool false] ∧ a ∉ pre ∧ E w.heap.size ∧ E (w.heap.size + 1))
    (fun c pre E W => c = .ret ∧ Blk W (w.heap.size + 1) 4 #[.bool true] ∧ a ∈ pre ∧ E (w.heap.size + 1))
    (fun pre E W W' ⟨h1, h2, h3, h4, h5⟩ _ hk => ⟨h1.kp hk h4, h2.kp hk h5, h3, h4, h5⟩) (fun c pre E W W' ⟨h1, h2, h3, h5⟩ _ hk => ⟨h1, h2.kp hk h5, h3, h5⟩)
    (fun k => k = w.heap.size ∨ k = w.heap.size + 1) ⟨hC1, hC2, by simp, .inl rfl, .inr rfl⟩ (fun k hk => ⟨by omega, fun h => by
      rcases h with h | h
      · have := hDI k h; omega
      · omega⟩) ?round ?done ?stop
  case round =>
    intro l pre x E W hI hE hpre hsub hkp hl hlt hnl K hK
    gi_wp2_with fail
    refine hK _ _ (Kp.refl _ W) ?_
    intro W₂ hk2 hsz hrec
    obtain ⟨h1, h2, h3, h4, h5⟩ := hI
    have g1 := h1.kp hk2 (fun e => hnl (e ▸ h4))
    have g2 := h2.kp hk2 (fun e => hnl (e ▸ h5))
    have c1 := g1.cell0
    have c2 := g2.cell0
    have f2 := g2.frozen 0
    have HE := Lib.hid (show ∀ k, E k → k < W₂.heap.size from fun k hk => hk2.lt (hE k hk))
    clear hK hE hpre hsub hkp hrec hs h1 h2 hk2
    by_cases he : x = a
    · subst he
      have hde : (x == x) = true := by simp
      gi_wp2_with fail
      exact ⟨E, fun k hk => .inl (.inl hk), (Kp.refl _ _).setCell (.inr fun h => h (.inl h5)) _, fun k hk => by have := HE.out k hk; simpa using this, rfl, g2.set_ 0 _, by simp, h5⟩
    · have hde : (x == a) = false := by rw [beq_eq_false_iff_ne]; exact he
      gi_wp2_with fail
      refine ⟨E, fun k hk => .inl (.inl hk), Kp.refl _ _, HE.out, g1, g2, ?_, h4, h5⟩
      intro hm
      rcases List.mem_append.1 hm with hm | hm
      · exact h3 hm
      · exact he (List.mem_singleton.1 hm).symm
  case done =>
    intro q E W' hI hsub hkp hlt hq hnq hblk
    obtain ⟨h1, h2, h3, h4, h5⟩ := hI
    have c2 := h2.cell0
    have f2 := h2.frozen 0
    have hr : (aheadF cs b).contains a = false := by simpa using h3
    have HR := Lib.hid hr
    have hqb : w.heap.size + 1 ≠ q := fun e => hnq (e ▸ h5)
    have hblk' : (W'.setCell ⟨w.heap.size + 1, 0, none⟩ (.bool false)).heap[q]? = some (.deferred (some [])) := (Below.heap_setCell W' ⟨w.heap.size + 1, 0, none⟩ (.bool false) q (fun e => hqb e.symm)).trans hblk
    clear hs hr
    gi_wp2_with fail
    refine leaves1 (by first | exact hblk | exact hblk') fun W3 hk3 _ => ⟨_, results_cell1 rfl (fun w => Tryz.isAgg4 w) (p := ⟨w.heap.size + 1, 0, none⟩) (v := .bool false) (by rfl) ?_, by rw [HR.out], ?_⟩
    · exact (((h2.set_ 0 (.bool false)).kp hk3 hqb)).cell0
    · exact ((hx01.trans' hkp fun k hk _ h => by omega).setCell (.inl (by show w.heap.size ≤ w.heap.size + 1; omega)) _).trans' hk3 fun k hk _ => by omega
  case stop =>
    rintro q c pre E W' hpre ⟨rfl, h2, h3, h5⟩ hsub hkp hlt hq hnq hblk
    have hr : (aheadF cs b).contains a = true := by simpa using hpre.subset h3
    have HR := Lib.hid hr
    have hqb : w.heap.size + 1 ≠ q := fun e => hnq (e ▸ h5)
    clear hs hr
    gi_wp2_with fail
    refine leaves1 hblk fun W3 hk3 _ => ⟨_, results_cell1 rfl (fun w => Tryz.isAgg4 w) (p := ⟨w.heap.size + 1, 0, none⟩) (v := .bool true) (by rfl) (h2.kp hk3 hqb).cell0, by rw [HR.out], ?_⟩
    exact (hx01.trans' hkp fun k hk _ h => by omega).trans' hk3 fun k hk _ => by omega
end

end Go.Proofs.YtgjbfkaepalkiaaGreatDoor

namespace Go.Proofs.YtgjbfkaepalkiaaGreatDoor
open Go.RowKit
set_option linter.unusedVariables false
set_option linter.unusedSimpArgs false

theorem low_calls (x : Int) (n : Nat) (w : World) (hn : 0 < n) (hm : n ≤ 1000000) :
    Calls Tryz.prog 18 #[.int .i64 x, .int .i64 n] w fun e w' => (∃ k : Nat, k < n ∧ e = .returned (.int .i64 k)) ∧ w = w' := by
  obtain ⟨r, hr⟩ : ∃ r : Nat, IntKind.u64.wrap x = r := ⟨(IntKind.u64.wrap x).toNat, by
    have := IntKind.wrap_u64 x
    omega⟩
  have hlt : r % n < n := Nat.mod_lt _ hn
  have hmod : ((r : Int)).tmod (n : Int) = ((r % n : Nat) : Int) := rfl
  have hw : wrap64 ((r % n : Nat) : Int) = ((r % n : Nat) : Int) := IntWalk.wrap64_in _ (by omega)
  go_enter Tryz.func18, Tryz.ntmps18
  go_wp2_with fail
  go_ret
  refine ⟨⟨r % n, hlt, ?_⟩, rfl⟩
  first | rfl | (show Ending.returned (.int .i64 _) = _; rw [hw]) | (show Ending.returned (.int .i64 _) = _; rw [hmod, hw])

end Go.Proofs.YtgjbfkaepalkiaaGreatDoor

namespace Go.Proofs.YtgjbfkaepalkiaaGreatDoor
open Go.RowKit
set_option linter.unusedVariables false
set_option linter.unusedSimpArgs false
attribute [local go_sem] Oper.semAt_some

def overF : File := ⟨⟨#[111, 118, 101, 114]⟩, ⟨#[]⟩⟩
set_option maxHeartbeats 400000 in
/-- cortegelaw0.OverFiles. -/
theorem overFiles_calls (v : Value) (xs : List File) (w : World) (hO : Own EF 39 w v xs) (hb : xs.length ≤ 1000) :
    Calls Tryz.prog 24 #[v] w fun e w' => (∃ r, e = .returned r) ∧ Kp (fun k => v.ownBlock ≠ some k) w w' := by
  have hslice : (v = .slice none 0 0 ∧ xs = []) ∨ ∃ g n c, v = .slice (some ⟨g, 0, none⟩) n c ∧ xs.length = n := by
    rcases hO.2 with ⟨h, h0⟩ | ⟨g, cap, cur, h, _⟩
    · exact .inl ⟨h, List.eq_nil_of_length_eq_zero h0⟩
    · exact .inr ⟨g, _, cap, h, rfl⟩
  rcases hslice with ⟨rfl, rfl⟩ | ⟨g, n, c, rfl, hn⟩
  · go_enter Tryz.func24, Tryz.ntmps24
    go_wp2_with fail
    refine wp_loop_once ?_
    go_wp2_with (at_builtin; refine stop ?_)
    refine list_append (xs := []) (ys := [overF]) tiF rfl rfl rfl rfl (hO.kp ((Kp.refl _ w).alloc _) (fun _ _ => trivial)) (Own.made w 39 [overF] (by simp [maxLen])).rd (by simp) (by simp [maxLen]) ?_
    intro v' w' hO' hK' hB'
    go_wp2_with fail
    exact bodyPost_end (results_none rfl _ _ _) rfl ⟨⟨_, rfl⟩, ((Kp.refl _ w).alloc _).trans' hK' (fun _ _ h => h)⟩
  · rw [hn] at hb
    have HN := Lib.hid hn
    clear hn
    go_enter Tryz.func24, Tryz.ntmps24
    go_wp2_with fail
    go_loopw [2] (fun i wr => ∃ (k : Nat) (zs : List File), k ≤ n ∧ i = .int .i64 k ∧ zs.length = n ∧ Own EF 39 wr (.slice (some ⟨g, 0, none⟩) n c) zs ∧ Kp (fun k => k ≠ g) w wr) (fun i _ => n - (intOf i).toNat)
    case atStart => exact ⟨0, xs, Nat.zero_le _, rfl, HN.out, hO, Kp.refl _ _⟩
    case round =>
      obtain ⟨k, zs, hk, rfl, hz, hOr, hKr⟩ := hrel
      rename World => wo
      have HZ := Lib.hid hz
      by_cases hlt : k < n
      · have hd3 : decide ((k : Int) < (n : Int)) = true := decide_eq_true (by omega)
        have hlt' : (k : Int) < (n : Int) := by omega
        have h0 : (0 : Int) ≤ (k : Int) := by omega
        have hw : IntKind.i64.wrap ((k : Int) + 1) = (k : Int) + 1 := IntWalk.i64_in _ (by omega)
        obtain ⟨x, hx⟩ : ∃ x, zs[k]? = some x := ⟨_, List.getElem?_eq_getElem (by omega)⟩
        obtain ⟨c0, c1⟩ := hOr.file hx
        have f0 := hOr.free (k * 2)
        have f1 := hOr.free (k * 2 + 1)
        have HX := Lib.hid hx
        clear hz hx
        go_wp2_with fail
        go_roundw
        case rel => exact ⟨k + 1, zs.set k overF, by omega, by go_num, by rw [List.length_set]; exact HZ.out, hOr.setF (List.getElem?_eq_some_iff.1 HX.out).1 overF, (hKr.setCell (.inr (by simp)) _).setCell (.inr (by simp)) _⟩
        case measure => simp [intOf]; omega
      · have hd3 : decide ((k : Int) < (n : Int)) = false := decide_eq_false (by omega)
        clear hz
        go_wp2_with (at_builtin; refine stop ?_)
        refine list_append (v := .slice (some ⟨g, 0, none⟩) n c) (xs := zs) (ys := [overF]) tiF rfl rfl rfl rfl (hOr.kp ((Kp.refl _ wo).alloc _) (fun _ _ => trivial)) (Own.made wo 39 [overF] (by simp [maxLen])).rd (by rw [HZ.out]; simp; omega) (by rw [HZ.out]; simp [maxLen]; omega) ?_
        intro v' w' hO' hK' hB'
        go_wp2_with fail
        refine bodyPost_end (results_none rfl _ _ _) rfl ⟨⟨_, rfl⟩, ?_⟩
        refine ((hKr.alloc _).trans' hK' (fun k _ h e => h (by injection e with e; exact e.symm))).mono (fun k _ h e => h (by rw [e]; rfl))

end Go.Proofs.YtgjbfkaepalkiaaGreatDoor

namespace Go.Proofs.YtgjbfkaepalkiaaGreatDoor
open Go.RowKit
set_option linter.unusedVariables false
set_option linter.unusedSimpArgs false
attribute [local go_sem] Oper.semAt_some

theorem small_of_great {cs : List Cm} {m : Nat} (h : greatR cs m = false) : ∀ c ∈ cs, SmallC c := fun c hc => by
  obtain ⟨h1, h2, h3⟩ := (greatR_false h).2 c hc
  exact ⟨by omega, by omega, fun y hy => by have := (h3 y hy).1; omega⟩
theorem lowN_calls (x : Int) (n k : Nat) (w : World) (hk : 0 < n + k) (hn : n ≤ 1000) (hk2 : k ≤ 1000) :
    Calls Tryz.prog 18 #[.int .i64 x, .int .i64 ((n : Int) + (k : Int))] w fun e w' => (∃ j : Nat, j < n + k ∧ e = .returned (.int .i64 j)) ∧ w = w' := by
  have h := low_calls x (n + k) w hk (by omega)
  rw [Int.natCast_add] at h
  exact h

theorem best_empty (a b : Int) : bestF [] a b = [] := by
  have h : ∀ n, aheadF [] n = [] := fun n => by
    unfold aheadF getC
    rw [if_neg (by simp)]
  unfold bestF commonF
  rw [h a]
  rfl
theorem tree_of_get {cs : List Cm} {n : Int} {c : Cm} (h : getC cs n = some c) : treeC cs n = c.tree := by unfold treeC; rw [h]; rfl
theorem get_in {cs : List Cm} {n : Int} (h : 1 ≤ n ∧ n ≤ cs.length) : ∃ c, getC cs n = some c := Option.isSome_iff_exists.1 ((getC_isSome cs n).2 h)
theorem low1_calls (x : Int) (n : Nat) (w : World) (hn : 0 < n) (hm : n ≤ 1000) :
    Calls Tryz.prog 18 #[.int .i64 x, .int .i64 (n : Int)] w fun e w' => (∃ j : Nat, j < n ∧ e = .returned (.int .i64 j)) ∧ w = w' := low_calls x n w hn (by omega)
/-- Get, of one that is there. -/
theorem getOk_calls {I D : Fp} {rb : Nat} {cs : List Cm} {room : Nat} {w : World} (h : RepoX repoT I D w rb cs room) (n : Int) (hs : SmallR cs) (hn : 1 ≤ n ∧ n ≤ cs.length) : Calls Tryz.prog 29 #[.pointer (some ⟨rb, 0, none⟩), .int .i64 n] w fun e w' =>
    ∃ (pa ta : Option Addr) (pn pc tn tc : Nat) (nt : ByteArray), e = .returned (.tuple #[.agg #[.slice pa pn pc, .slice ta tn tc, .string nt], .bool true]) ∧ New EF 39 w.heap.size w' (.slice ta tn tc) (treeC cs n) ∧ Ext w w' := by
  obtain ⟨c0, hc0⟩ := get_in hn
  refine (getR_calls h n hs).mono ?_
  rintro e w' ⟨sv, ok, c, rfl, ⟨k, rfl, hN⟩, hx, hok⟩
  obtain ⟨⟨pa, pn, pc⟩, ⟨ta, tn, tc⟩, nt⟩ := k
  rcases hok with ⟨rfl, hc⟩ | ⟨_, hc, _⟩
  · exact ⟨pa, ta, pn, pc, tn, tc, nt, rfl, by rw [tree_of_get hc]; exact hN.t, hx⟩
  · rw [hc0] at hc; cases hc

theorem rd_of_blk {α : Type} {E : El α} {t : TypeId} {w : World} {g n : Nat} {ys : List α} (h : Blk w g t (E.flat ys).toArray) (hn : ys.length = n) (hm : n ≤ 1000) : Rd E (fun k => k < w.heap.size) w (.slice (some ⟨g, 0, none⟩) n n) ys := by
  subst hn
  have hO : Own E t w (.slice (some ⟨g, 0, none⟩) ys.length ys.length) ys := Own.of_blk (zs := []) (by rw [List.append_nil]; exact h) (by simp) (Nat.le_refl _) (by unfold maxLen; omega)
  exact hO.rd.wide fun k hk => hO.lt hk

end Go.Proofs.YtgjbfkaepalkiaaGreatDoor

namespace Go.Proofs.YtgjbfkaepalkiaaGreatDoor
open Go.RowKit
set_option linter.unusedVariables false
set_option linter.unusedSimpArgs false
attribute [local go_sem] Oper.semAt_some

/-- The parents of a merge. -/
def parF (t c : Int) : List Int := if t = c then [t] else [t, c]
/-- What two commits are merged to; where they conflict; whether they are there. -/
def ofF (cs : List Cm) (t c : Int) : Cm × List ByteArray × Bool :=
  if (getC cs t).isSome = true ∧ (getC cs c).isSome = true then
    if (joinOf textM (deepF cs 4 t c) (treeC cs t) (treeC cs c)).2 = [] then (⟨parF t c, (joinOf textM (deepF cs 4 t c) (treeC cs t) (treeC cs c)).1, ⟨#[]⟩⟩, [], true)
    else (noC, (joinOf textM (deepF cs 4 t c) (treeC cs t) (treeC cs c)).2, true)
  else (noC, [], false)
theorem ofF_not {cs : List Cm} {t c : Int} (h : ¬ ((getC cs t).isSome = true ∧ (getC cs c).isSome = true)) : ofF cs t c = (noC, [], false) := if_neg h
theorem ofF_bad {cs : List Cm} {t c : Int} (h : (getC cs t).isSome = true ∧ (getC cs c).isSome = true) (h2 : (joinOf textM (deepF cs 4 t c) (treeC cs t) (treeC cs c)).2 ≠ []) : ofF cs t c = (noC, (joinOf textM (deepF cs 4 t c) (treeC cs t) (treeC cs c)).2, true) := by
  unfold ofF; rw [if_pos h, if_neg h2]
theorem ofF_ok {cs : List Cm} {t c : Int} (h : (getC cs t).isSome = true ∧ (getC cs c).isSome = true) (h2 : (joinOf textM (deepF cs 4 t c) (treeC cs t) (treeC cs c)).2 = []) : ofF cs t c = (⟨parF t c, (joinOf textM (deepF cs 4 t c) (treeC cs t) (treeC cs c)).1, ⟨#[]⟩⟩, [], true) := by
  unfold ofF; rw [if_pos h, if_pos h2]

/-- A row of a merge's parents: in a block of its own, of two cells at most. -/
def ParW (n : Nat) (w : World) (v : SliceV) (ps : List Int) : Prop :=
  (v = ⟨none, 0, 0⟩ ∧ ps = []) ∨ ∃ (g : Nat) (xs : List Int), n ≤ g ∧ Blk w g 3 (EI.flat xs).toArray ∧ v = ⟨some ⟨g, 0, none⟩, ps.length, ps.length⟩ ∧ ps = xs.take ps.length ∧ ps.length ≤ xs.length ∧ xs.length ≤ 2
theorem ParW.less {n m : Nat} {w : World} {v : SliceV} {ps : List Int} (h : ParW n w v ps) (hm : m ≤ n) : ParW m w v ps := by
  rcases h with h | ⟨g, xs, h1, h2⟩
  · exact .inl h
  · exact .inr ⟨g, xs, by omega, h2⟩
theorem ParW.kp {n : Nat} {w w' : World} {v : SliceV} {ps : List Int} {S : Fp} (h : ParW n w v ps) (hk : Kp S w w') (hS : ∀ g, n ≤ g → S g) : ParW n w' v ps := by
  rcases h with h | ⟨g, xs, h1, h2, h3⟩
  · exact .inl h
  · exact .inr ⟨g, xs, h1, h2.kp hk (hS g h1), h3⟩
theorem ParW.ext {n : Nat} {w w' : World} {v : SliceV} {ps : List Int} (h : ParW n w v ps) (hk : Ext w w') : ParW n w' v ps := h.kp hk fun _ _ => trivial
theorem ParW.rd {n : Nat} {w : World} {v : SliceV} {ps : List Int} (h : ParW n w v ps) : Rd EI (fun k => n ≤ k ∧ k < w.heap.size) w v.val ps := by
  rcases h with ⟨rfl, rfl⟩ | ⟨g, xs, h1, h2, rfl, h4, h5, h6⟩
  · exact Rd.nil _ _
  · refine ⟨some ⟨g, 0, none⟩, ps.length, rfl, Nat.le_refl _, by unfold maxLen; omega, (fun h => by cases h), fun _ => ⟨g, 0, rfl, ⟨h1, h2.lt⟩, h2.lt, fun j u hu => ?_⟩⟩
    rw [Nat.zero_add, h2.cell j]
    have hfl : EI.flat ps = (EI.flat xs).take ps.length := by
      have e1 : ∀ l : List Int, EI.flat l = l.map (fun x => Value.int .i64 x) := fun l => by
        induction l with
        | nil => rfl
        | cons a l ih => show _ :: EI.flat l = _; rw [ih]; rfl
      rw [e1, e1, ← List.map_take, ← h4]
    rw [hfl] at hu
    rw [List.getElem?_take] at hu
    split at hu
    · simpa using hu
    · cases hu
/-- A merge's value. -/
structure MergeV (n : Nat) (w : World) (s : KS) (c : Cm) : Prop where
  p : ParW n w s.p c.parents
  t : New EF 39 n w s.t.val c.tree
  note : s.note = c.note
theorem MergeV.rd {n : Nat} {w : World} {s : KS} {c : Cm} (h : MergeV n w s c) : RdC (fun k => n ≤ k ∧ k < w.heap.size) w s c :=
  ⟨h.p.rd, h.t.1.rd.wide fun k hk => ⟨h.t.2 k hk, h.t.1.lt hk⟩, h.note⟩
theorem MergeV.ext {n : Nat} {w w' : World} {s : KS} {c : Cm} (h : MergeV n w s c) (hk : Ext w w') : MergeV n w' s c := ⟨h.p.ext hk, h.t.ext hk, h.note⟩
theorem MergeV.less {n m : Nat} {w : World} {s : KS} {c : Cm} (h : MergeV n w s c) (hm : m ≤ n) : MergeV m w s c := ⟨h.p.less hm, h.t.less hm, h.note⟩
theorem MergeV.none_ (n : Nat) (w : World) : MergeV n w ⟨⟨none, 0, 0⟩, ⟨none, 0, 0⟩, ⟨#[]⟩⟩ noC := ⟨.inl ⟨rfl, rfl⟩, New.nil _ _ _, rfl⟩

def MrgPost (w : World) (r : Cm × List ByteArray × Bool) (e : Ending) (w' : World) : Prop := ∃ (s : KS) (u : Value), e = .returned (.tuple #[s.val, u, .bool r.2.2]) ∧ MergeV w.heap.size w' s r.1 ∧ New ES 9 w.heap.size w' u r.2.1 ∧ Ext w w'

theorem results_cell_tmp2 {fn : Func} {p u x : Tmp} {ty : TypeId} (h : fn.results = #[.cell p ty, .tmp u, .tmp x]) (tmps : Array Value) (P : Program) (w : World) :
    (results fn tmps).run P w =
      ((asAddr (tmps.getD p undef)).run P w).andThen fun a w₁ => ((loadVar ty a).run P w₁).andThen fun v w₂ => .ok (.tuple #[v, tmps.getD u undef, tmps.getD x undef]) w₂ := by
  simp only [results, h]
  simp [Sem.run_bind, Result.andThen]

section
variable {I D : Fp} {rb : Nat} {cs : List Cm} {room : Nat} {w : World}
set_option maxHeartbeats 4000000 in
theorem mergeOf_calls (h : RepoX repoT I D w rb cs room) (hG : GoodR cs) (hn : cs.length ≤ 300) (t c : Int) : Calls Tryz.prog 33 #[.pointer (some ⟨rb, 0, none⟩), .int .i64 t, .int .i64 c] w (MrgPost w (ofF cs t c)) := by
  have HG1 := Lib.hid fun W (hW : Ext w W) n => getR_calls (h.ext hW) n hG.small
  have HB := Lib.hid fun W (hW : Ext w W) => baseR_calls (h.ext hW) hG hn t c
  have HMT := Lib.hid fun n => treeC_may hG n
  have HMD := Lib.hid (deepF_may hG 4 t c)
  have HNot := Lib.hid (ofF_not (cs := cs) (t := t) (c := c))
  have HBad := Lib.hid (ofF_bad (cs := cs) (t := t) (c := c))
  have HOk := Lib.hid (ofF_ok (cs := cs) (t := t) (c := c))
  have HTr : Hid (∀ (n : Int) (ok : Bool) (x : Cm), ((ok = true ∧ getC cs n = some x) ∨ (ok = false ∧ getC cs n = none ∧ x = noC)) → (getC cs n).isSome = ok ∧ treeC cs n = x.tree) := Lib.hid fun n ok x hh => by
    unfold treeC
    rcases hh with ⟨rfl, h⟩ | ⟨rfl, h, rfl⟩
    · rw [h]; exact ⟨rfl, rfl⟩
    · rw [h]; exact ⟨rfl, rfl⟩
  clear h hG
  generalize ofF cs t c = r at HNot HBad HOk
  go_enter Tryz.func33, Tryz.ntmps33
  go_wp2_with fail
  have hx0 : Ext w (w.alloc (.cells #[.slice none 0 0, .slice none 0 0, .string ⟨#[]⟩] 42)) := (Kp.refl _ w).alloc _
  have hB0 := Blk.new w 42 #[.slice none 0 0, .slice none 0 0, .string ⟨#[]⟩]
  have hz0 : (w.alloc (.cells #[.slice none 0 0, .slice none 0 0, .string ⟨#[]⟩] 42)).heap.size = w.heap.size + 1 := by simp
  generalize (w.alloc (.cells #[.slice none 0 0, .slice none 0 0, .string ⟨#[]⟩] 42)) = w0 at hx0 hB0 hz0 ⊢
  refine (HG1.out w0 hx0 t).mono ?_
  rintro e w1 ⟨sv, ok1, x1, rfl, ⟨k, rfl, hN1⟩, hx1, hok1⟩
  obtain ⟨⟨pa, pn, pc⟩, ⟨ta, tn, tc⟩, nt⟩ := k
  have hT1 := HTr.out t ok1 x1 hok1
  have hNt := hN1.t
  dsimp only [KS.val, SliceV.val] at hNt ⊢
  clear hN1 hok1
  go_wp2_with fail
  have hx2 : Ext w1 (w1.alloc (.cells #[.slice pa pn pc, .slice ta tn tc, .string nt] 42)) := (Kp.refl _ w1).alloc _
  have hB1 := Blk.new w1 42 #[.slice pa pn pc, .slice ta tn tc, .string nt]
  have hNt2 := hNt.ext hx2
  have hxw2 := hx0.trans (hx1.trans hx2)
  have hB02 := hB0.ext (hx1.trans hx2)
  have hz1 := hx1.size
  obtain ⟨b1, hb1⟩ : ∃ b1, w1.heap.size = b1 := ⟨_, rfl⟩
  have hz2 : (w1.alloc (.cells #[.slice pa pn pc, .slice ta tn tc, .string nt] 42)).heap.size = b1 + 1 := by simp [hb1]
  generalize (w1.alloc (.cells #[.slice pa pn pc, .slice ta tn tc, .string nt] 42)) = w2 at hx2 hB1 hNt2 hxw2 hB02 hz2 ⊢
  rw [hb1] at hB1 hz1 ⊢
  clear hb1
  refine (HG1.out w2 hxw2 c).mono ?_
  rintro e w3 ⟨sv, ok2, x2, rfl, ⟨k, rfl, hN3⟩, hx3, hok2⟩
  obtain ⟨⟨pa2, pn2, pc2⟩, ⟨ta2, tn2, tc2⟩, nt2⟩ := k
  have hT2 := HTr.out c ok2 x2 hok2
  have hNc := hN3.t
  dsimp only [KS.val, SliceV.val] at hNc ⊢
  have hx4 : Ext w3 (w3.alloc (.cells #[.slice pa2 pn2 pc2, .slice ta2 tn2 tc2, .string nt2] 42)) := (Kp.refl _ w3).alloc _
  have hB3 := Blk.new w3 42 #[.slice pa2 pn2 pc2, .slice ta2 tn2 tc2, .string nt2]
  have HNc := Lib.hid (hNc.ext hx4)
  have HNt := Lib.hid (hNt2.ext (hx3.trans hx4))
  have hB03 := hB02.ext hx3
  have HB04 := Lib.hid (hB02.ext (hx3.trans hx4))
  have HB14 := Lib.hid (hB1.ext (hx3.trans hx4))
  have hxw4 := hxw2.trans (hx3.trans hx4)
  have hz3 := hx3.size
  have HT1 := Lib.hid hT1
  have HT2 := Lib.hid hT2
  clear hN3 hok2 HG1 HTr hNt hx1 hx2 hNt2 hB0 hB02 hB1 hNc hT1 hT2
  obtain ⟨b3, hb3⟩ : ∃ b3, w3.heap.size = b3 := ⟨_, rfl⟩
  have hz4 : (w3.alloc (.cells #[.slice pa2 pn2 pc2, .slice ta2 tn2 tc2, .string nt2] 42)).heap.size = b3 + 1 := by simp [hb3]
  rw [hb3] at hB3 hz3
  have HB34 := Lib.hid hB3
  have HX4 := Lib.hid hxw4
  have c30 : (w3.alloc (.cells #[.slice pa2 pn2 pc2, .slice ta2 tn2 tc2, .string nt2] 42)).cell? ⟨w.heap.size, 0, none⟩ = some (.slice none 0 0) := HB04.out.cell 0
  have c31 : (w3.alloc (.cells #[.slice pa2 pn2 pc2, .slice ta2 tn2 tc2, .string nt2] 42)).cell? ⟨w.heap.size, 1, none⟩ = some (.slice none 0 0) := HB04.out.cell 1
  have c32 : (w3.alloc (.cells #[.slice pa2 pn2 pc2, .slice ta2 tn2 tc2, .string nt2] 42)).cell? ⟨w.heap.size, 2, none⟩ = some (.string ⟨#[]⟩) := HB04.out.cell 2
  have f30 := HB04.out.frozen 0
  have f31 := HB04.out.frozen 1
  have f32 := HB04.out.frozen 2
  have hne3 : w.heap.size ≠ b3 := by have := hB03.lt; omega
  clear hB03
  clear hB3 hx3 hx4 hxw4 hxw2
  by_cases hok : ok1 = true ∧ ok2 = true
  · obtain ⟨rfl, rfl⟩ := hok
    have hboth : (getC cs t).isSome = true ∧ (getC cs c).isSome = true := ⟨HT1.out.1, HT2.out.1⟩
    have HBad' := Lib.hid (HBad.out hboth)
    have HOk' := Lib.hid (HOk.out hboth)
    clear HNot HBad HOk hboth
    have HNt' : Hid (RdF (w3.alloc (.cells #[.slice pa2 pn2 pc2, .slice ta2 tn2 tc2, .string nt2] 42)) (.slice ta tn tc) (treeC cs t)) := Lib.hid (by rw [HT1.out.2]; exact HNt.out.rdF)
    have HNc' : Hid (RdF (w3.alloc (.cells #[.slice pa2 pn2 pc2, .slice ta2 tn2 tc2, .string nt2] 42)) (.slice ta2 tn2 tc2) (treeC cs c)) := Lib.hid (by rw [HT2.out.2]; exact HNc.out.rdF)
    clear HT1 HT2 HNt HNc
    go_wp2_with fail
    try rw [hb3]
    clear c30 c31 c32 f30 f31 f32
    generalize (w3.alloc (.cells #[.slice pa2 pn2 pc2, .slice ta2 tn2 tc2, .string nt2] 42)) = w4 at HB04 HB14 HB34 HNc' HNt' HX4 hz4 ⊢
    have HS : Hid (∀ W, Ext w4 W → W.cell? ⟨b1, 1, none⟩ = some (.slice ta tn tc) ∧ W.cell? ⟨b3, 1, none⟩ = some (.slice ta2 tn2 tc2)) := Lib.hid fun W hW => ⟨(HB14.out.ext hW).cell 1, (HB34.out.ext hW).cell 1⟩
    have HBs := Lib.hid fun W (hW : Ext w4 W) => HB.out W (HX4.out.trans hW)
    clear HB
    go_region_held3 (fun W => W.cell? ⟨b1, 1, none⟩ = some (.slice ta tn tc) ∧ W.cell? ⟨b3, 1, none⟩ = some (.slice ta2 tn2 tc2))
      (first | exact HS.out _ hx6 | exact HS.out _ hx5 | exact HS.out _ ((Kp.refl _ w4).drew) | fail)
      (first
        | (go_at_call 19; ((with_reducible refine Calls.mono (HBs.out _ ?_) ?_)); (exact (Kp.refl _ w4).drew); rintro e w5 ⟨u5, rfl, hN5, hx5'⟩; have hx5 : Ext w4 w5 := ((Kp.refl _ w4).drew).trans hx5')
        | (go_at_call 71; have hJ := ofM_calls _ _ _ _ _ _ w5 hN5.rdF (HNt'.out.ext hx5) (HNc'.out.ext hx5) HMD.out (HMT.out t) (HMT.out c); ((with_reducible refine Calls.mono hJ ?_)); rintro e w6 ⟨u6, s6, rfl, hN6, hM6, hx6'⟩; have hx6 : Ext w4 w6 := hx5.trans hx6')
        | fail)
    have hB06 := HB04.out.ext hx6
    have c60 : w6.cell? ⟨w.heap.size, 0, none⟩ = some (.slice none 0 0) := hB06.cell 0
    have c61 : w6.cell? ⟨w.heap.size, 1, none⟩ = some (.slice none 0 0) := hB06.cell 1
    have c62 : w6.cell? ⟨w.heap.size, 2, none⟩ = some (.string ⟨#[]⟩) := hB06.cell 2
    have f60 := hB06.frozen 0
    have f61 := hB06.frozen 1
    have f62 := hB06.frozen 2
    have HB06 := Lib.hid hB06
    have HX6 := Lib.hid (HX4.out.trans hx6)
    have hz5 := hx5.size
    have hz46 := hx6.size
    have hN6' := Lib.hid hN6
    have hM6' := Lib.hid hM6
    obtain ⟨A6, n6, d6, rfl⟩ := hN6.1.slice
    obtain ⟨Z6, e6, rfl, _⟩ := hM6.1.rd.open_
    have hzw := HX4.out.size
    have hl0 := HB04.out.lt
    clear HS HBs hN5 hx5 hx5' hx6 hx6' hN6 hM6 hB06 HNt' HNc' HMD HMT
    obtain ⟨j, hj⟩ : ∃ j, joinOf textM (deepF cs 4 t c) (treeC cs t) (treeC cs c) = j := ⟨_, rfl⟩
    rw [hj] at HBad' HOk' hN6' hM6' ⊢
    clear hj
    obtain ⟨j1, j2⟩ := j
    dsimp only at HBad' HOk' hN6' hM6' ⊢
    cases j2 with
    | cons y ys =>
      have hr := HBad'.out (by simp)
      subst hr
      have hd0 : decide ((0 : Int) < ((y :: ys).length : Int)) = true := decide_eq_true (by rw [List.length_cons]; omega)
      have hd1 : decide ((0 : Int) < (ys.length : Int) + 1) = true := decide_eq_true (by omega)
      clear HBad' HOk'
      go_wp2_with fail
      have HB7 : Blk (((w6.setCell ⟨w.heap.size, 0, none⟩ (.slice none 0 0)).setCell ⟨w.heap.size, 1, none⟩ (.slice none 0 0)).setCell ⟨w.heap.size, 2, none⟩ (.string ⟨#[]⟩)) w.heap.size 42 #[.slice none 0 0, .slice none 0 0, .string ⟨#[]⟩] := ((HB06.out.set_ 0 _).set_ 1 _).set_ 2 _
      refine bodyPost_ret (by rw [results_cell_tmp2 rfl]; simp only [Array.getD_eq_getD_getElem?]; simp [asAddr]; rw [run_loadVar_row _ _ _ _ _ _ _ HB7 Tryz.underlying42 (by rfl) (by kernel_rfl)]; rfl) rfl ?_
      have hk7 : Kp (fun k => k ≠ w.heap.size) w6 (((w6.setCell ⟨w.heap.size, 0, none⟩ (.slice none 0 0)).setCell ⟨w.heap.size, 1, none⟩ (.slice none 0 0)).setCell ⟨w.heap.size, 2, none⟩ (.string ⟨#[]⟩)) := (((Kp.refl _ w6).setCell (.inr (by simp)) _).setCell (.inr (by simp)) _).setCell (.inr (by simp)) _
      refine ⟨_, _, rfl, MergeV.none_ _ _, (hM6'.out.kp hk7 fun g e => by have := hM6'.out.2 g e; omega).less (by omega), HX6.out.trans' hk7 fun k hk _ => by omega⟩
    | nil =>
      have hr := HOk'.out rfl
      subst hr
      clear HBad' HOk'
      by_cases htc : t = c
      · subst htc
        have hde : (t == t) = true := by simp
        have hB07 := HB06.out.ext ((Kp.refl All w6).alloc (.cells #[.int .i64 t, .int .i64 t] 3))
        have hC07 := Blk.new w6 3 #[.int .i64 t, .int .i64 t]
        have c70 := hB07.cell 0
        have c71 := hB07.cell 1
        have c72 := hB07.cell 2
        have f70 := hB07.frozen 0
        have f71 := hB07.frozen 1
        have f72 := hB07.frozen 2
        go_wp2_with fail
        have HB8 : Blk ((((w6.alloc (.cells #[.int .i64 t, .int .i64 t] 3)).setCell ⟨w.heap.size, 0, none⟩ (.slice (some ⟨w6.heap.size, 0, none⟩) 1 1)).setCell ⟨w.heap.size, 1, none⟩ (.slice A6 n6 d6)).setCell ⟨w.heap.size, 2, none⟩ (.string ⟨#[]⟩)) w.heap.size 42 #[.slice (some ⟨w6.heap.size, 0, none⟩) 1 1, .slice A6 n6 d6, .string ⟨#[]⟩] := ((hB07.set_ 0 _).set_ 1 _).set_ 2 _
        refine bodyPost_ret (by rw [results_cell_tmp2 rfl]; simp only [Array.getD_eq_getD_getElem?]; simp [asAddr]; rw [run_loadVar_row _ _ _ _ _ _ _ HB8 Tryz.underlying42 (by rfl) (by kernel_rfl)]; rfl) rfl ?_
        have hk8 : Kp (fun k => k ≠ w.heap.size) (w6.alloc (.cells #[.int .i64 t, .int .i64 t] 3)) ((((w6.alloc (.cells #[.int .i64 t, .int .i64 t] 3)).setCell ⟨w.heap.size, 0, none⟩ (.slice (some ⟨w6.heap.size, 0, none⟩) 1 1)).setCell ⟨w.heap.size, 1, none⟩ (.slice A6 n6 d6)).setCell ⟨w.heap.size, 2, none⟩ (.string ⟨#[]⟩)) := (((Kp.refl _ _).setCell (.inr (by simp)) _).setCell (.inr (by simp)) _).setCell (.inr (by simp)) _
        refine ⟨⟨⟨some ⟨w6.heap.size, 0, none⟩, 1, 1⟩, ⟨A6, n6, d6⟩, ⟨#[]⟩⟩, _, rfl, ⟨.inr ⟨w6.heap.size, [t, t], by omega, hC07.kp hk8 (by omega), by unfold parF; simp, by unfold parF; simp, by unfold parF; simp, by simp⟩, ?_, rfl⟩, New.nil _ _ _, (HX6.out.alloc _).trans' hk8 fun k hk _ => by omega⟩
        exact ((hN6'.out.ext ((Kp.refl _ _).alloc _)).kp hk8 fun g e => by have := hN6'.out.2 g e; omega).less (by omega)
      · have hde : (t == c) = false := by rw [beq_eq_false_iff_ne]; exact htc
        have hB07 := HB06.out.ext ((Kp.refl All w6).alloc (.cells #[.int .i64 t, .int .i64 c] 3))
        have hC07 := Blk.new w6 3 #[.int .i64 t, .int .i64 c]
        have c70 := hB07.cell 0
        have c71 := hB07.cell 1
        have c72 := hB07.cell 2
        have f70 := hB07.frozen 0
        have f71 := hB07.frozen 1
        have f72 := hB07.frozen 2
        go_wp2_with fail
        have HB8 : Blk ((((w6.alloc (.cells #[.int .i64 t, .int .i64 c] 3)).setCell ⟨w.heap.size, 0, none⟩ (.slice (some ⟨w6.heap.size, 0, none⟩) 2 2)).setCell ⟨w.heap.size, 1, none⟩ (.slice A6 n6 d6)).setCell ⟨w.heap.size, 2, none⟩ (.string ⟨#[]⟩)) w.heap.size 42 #[.slice (some ⟨w6.heap.size, 0, none⟩) 2 2, .slice A6 n6 d6, .string ⟨#[]⟩] := ((hB07.set_ 0 _).set_ 1 _).set_ 2 _
        refine bodyPost_ret (by rw [results_cell_tmp2 rfl]; simp only [Array.getD_eq_getD_getElem?]; simp [asAddr]; rw [run_loadVar_row _ _ _ _ _ _ _ HB8 Tryz.underlying42 (by rfl) (by kernel_rfl)]; rfl) rfl ?_
        have hk8 : Kp (fun k => k ≠ w.heap.size) (w6.alloc (.cells #[.int .i64 t, .int .i64 c] 3)) ((((w6.alloc (.cells #[.int .i64 t, .int .i64 c] 3)).setCell ⟨w.heap.size, 0, none⟩ (.slice (some ⟨w6.heap.size, 0, none⟩) 2 2)).setCell ⟨w.heap.size, 1, none⟩ (.slice A6 n6 d6)).setCell ⟨w.heap.size, 2, none⟩ (.string ⟨#[]⟩)) := (((Kp.refl _ _).setCell (.inr (by simp)) _).setCell (.inr (by simp)) _).setCell (.inr (by simp)) _
        refine ⟨⟨⟨some ⟨w6.heap.size, 0, none⟩, 2, 2⟩, ⟨A6, n6, d6⟩, ⟨#[]⟩⟩, _, rfl, ⟨.inr ⟨w6.heap.size, [t, c], by omega, hC07.kp hk8 (by omega), by unfold parF; rw [if_neg htc]; rfl, by unfold parF; rw [if_neg htc]; rfl, by unfold parF; rw [if_neg htc]; simp, by simp⟩, ?_, rfl⟩, New.nil _ _ _, (HX6.out.alloc _).trans' hk8 fun k hk _ => by omega⟩
        exact ((hN6'.out.ext ((Kp.refl _ _).alloc _)).kp hk8 fun g e => by have := hN6'.out.2 g e; omega).less (by omega)
  · have hr := HNot.out (fun hh => hok ⟨HT1.out.1.symm.trans hh.1, HT2.out.1.symm.trans hh.2⟩)
    subst hr
    clear HNot HBad HOk
    cases ok1 with
    | false =>
          go_wp2_with fail
          have HB5 : Blk ((((w3.alloc (.cells #[.slice pa2 pn2 pc2, .slice ta2 tn2 tc2, .string nt2] 42)).setCell ⟨w.heap.size, 0, none⟩ (.slice none 0 0)).setCell ⟨w.heap.size, 1, none⟩ (.slice none 0 0)).setCell ⟨w.heap.size, 2, none⟩ (.string ⟨#[]⟩)) w.heap.size 42 #[.slice none 0 0, .slice none 0 0, .string ⟨#[]⟩] := ((HB04.out.set_ 0 _).set_ 1 _).set_ 2 _
          refine bodyPost_ret (by rw [results_cell_tmp2 rfl]; simp only [Array.getD_eq_getD_getElem?]; simp [asAddr]; rw [run_loadVar_row _ _ _ _ _ _ _ HB5 Tryz.underlying42 (by rfl) (by kernel_rfl)]; rfl) rfl ?_
          exact ⟨_, _, rfl, MergeV.none_ _ _, New.nil _ _ _, ((HX4.out.setCell (.inl (Nat.le_refl _)) _).setCell (.inl (Nat.le_refl _)) _).setCell (.inl (Nat.le_refl _)) _⟩
    | true =>
      cases ok2 with
      | true => exact absurd ⟨rfl, rfl⟩ hok
      | false =>
          go_wp2_with fail
          have HB5 : Blk ((((w3.alloc (.cells #[.slice pa2 pn2 pc2, .slice ta2 tn2 tc2, .string nt2] 42)).setCell ⟨w.heap.size, 0, none⟩ (.slice none 0 0)).setCell ⟨w.heap.size, 1, none⟩ (.slice none 0 0)).setCell ⟨w.heap.size, 2, none⟩ (.string ⟨#[]⟩)) w.heap.size 42 #[.slice none 0 0, .slice none 0 0, .string ⟨#[]⟩] := ((HB04.out.set_ 0 _).set_ 1 _).set_ 2 _
          refine bodyPost_ret (by rw [results_cell_tmp2 rfl]; simp only [Array.getD_eq_getD_getElem?]; simp [asAddr]; rw [run_loadVar_row _ _ _ _ _ _ _ HB5 Tryz.underlying42 (by rfl) (by kernel_rfl)]; rfl) rfl ?_
          exact ⟨_, _, rfl, MergeV.none_ _ _, New.nil _ _ _, ((HX4.out.setCell (.inl (Nat.le_refl _)) _).setCell (.inl (Nat.le_refl _)) _).setCell (.inl (Nat.le_refl _)) _⟩
end

end Go.Proofs.YtgjbfkaepalkiaaGreatDoor

namespace Go.Proofs.YtgjbfkaepalkiaaGreatDoor
open Go.RowKit
set_option linter.unusedVariables false
set_option linter.unusedSimpArgs false
attribute [local go_sem] Oper.semAt_some

set_option maxHeartbeats 1000000 in
theorem sameCommit_calls (s s' : KS) (c d : Cm) (S T : Fp) (w : World) (hR : RdC S w s c) (hR' : RdC T w s' d) :
    Calls Tryz.prog 35 #[s.val, s'.val] w (SamePost w (sameC c d)) := by
  have hI := fun W (hW : Ext w W) => sameInts_calls s.p.val s'.p.val c.parents d.parents S T W (hR.ext hW).p (hR'.ext hW).p
  have hF := fun W (hW : Ext w W) => sameFiles_calls s.t.val s'.t.val c.tree d.tree S T W (hR.ext hW).t (hR'.ext hW).t
  have hv : sameC c d = (decide (c.parents = d.parents) && (sameB c.tree d.tree && (c.note.toList == d.note.toList))) := rfl
  obtain ⟨A, a, B, b, rfl, hA, hB⟩ := hR.open_
  obtain ⟨A', a', B', b', rfl, hA', hB'⟩ := hR'.open_
  dsimp only [SliceV.val] at hI hF
  show Calls _ _ #[.agg #[.slice A c.parents.length a, .slice B c.tree.length b, .string c.note], .agg #[.slice A' d.parents.length a', .slice B' d.tree.length b', .string d.note]] w _
  obtain ⟨n, hn⟩ : ∃ n, c.parents.length = n := ⟨_, rfl⟩
  obtain ⟨m, hm⟩ : ∃ m, c.tree.length = m := ⟨_, rfl⟩
  obtain ⟨nt, hnt⟩ : ∃ m, c.note = m := ⟨_, rfl⟩
  obtain ⟨n', hn'⟩ : ∃ n, d.parents.length = n := ⟨_, rfl⟩
  obtain ⟨m', hm'⟩ : ∃ m, d.tree.length = m := ⟨_, rfl⟩
  obtain ⟨nt', hnt'⟩ : ∃ m, d.note = m := ⟨_, rfl⟩
  obtain ⟨q, hq⟩ : ∃ q, sameC c d = q := ⟨_, rfl⟩
  rw [hq] at hv
  rw [hn, hn'] at hI
  rw [hm, hm'] at hF
  rw [hnt, hnt'] at hv
  rw [hn, hm, hnt, hn', hm', hnt', hq]
  generalize decide (c.parents = d.parents) = b1 at hI hv
  generalize sameB c.tree d.tree = b2 at hF hv
  have HI := Lib.hid hI
  have HF := Lib.hid hF
  have HV := Lib.hid hv
  clear hI hF hA hB hR hA' hB' hR' hn hm hnt hn' hm' hnt' hq hv
  cases h3 : (nt.toList == nt'.toList) with
  | false =>
    have hr : q = false := by rw [HV.out, h3]; simp
    clear HI HF HV
    go_enter Tryz.func35, Tryz.ntmps35
    go_wp2_with fail
    go_ret
    exact ⟨by rw [hr]; rfl, ((Kp.refl _ w).alloc _).alloc _⟩
  | true =>
    have HV' := Lib.hid (show q = (b1 && b2) by rw [HV.out, h3]; simp)
    clear HV
    go_enter Tryz.func35, Tryz.ntmps35
    go_wp2_with fail
    refine (HI.out _ (by first | exact ((Kp.refl _ w).alloc _).alloc _)).mono ?_
    rintro e w1 ⟨rfl, hx1⟩
    clear HI
    have hx : Ext w w1 := (((Kp.refl _ w).alloc _).alloc _).trans hx1
    have hb1 := ((Blk.new w 42 #[.slice A n a, .slice B m b, .string nt]).ext ((Kp.refl _ _).alloc (.cells #[.slice A' n' a', .slice B' m' b', .string nt'] 42))).ext hx1
    have hb2 := (Blk.new (w.alloc (.cells #[.slice A n a, .slice B m b, .string nt] 42)) 42 #[.slice A' n' a', .slice B' m' b', .string nt']).ext hx1
    rw [World.size_alloc] at hb2
    have c1 : w1.cell? ⟨w.heap.size, 1, none⟩ = some (.slice B m b) := hb1.cell 1
    have d1 : w1.cell? ⟨w.heap.size + 1, 1, none⟩ = some (.slice B' m' b') := hb2.cell 1
    clear hx1 hb1 hb2
    cases b1 with
    | false =>
      go_wp2_with fail
      go_ret
      exact ⟨by rw [HV'.out]; rfl, hx⟩
    | true =>
      go_wp2_with fail
      refine (HF.out _ hx).mono ?_
      rintro e w2 ⟨rfl, hx2⟩
      go_wp2_with fail
      go_ret
      exact ⟨by rw [HV'.out]; simp, hx.trans hx2⟩

def cleanB (r : Cm × List ByteArray × Bool) : Bool := r.2.2 && r.2.1.isEmpty
theorem clean_of {w : World} {P : Program} {f : FuncId} {args : Array Value} {r : Cm × List ByteArray × Bool} (h : Calls P f args w (MrgPost w r)) : Calls P f args w fun e w' => ∃ (pa ta A : Option Addr) (pn pc tn tc e' : Nat) (nt : ByteArray), e = .returned (.tuple #[.agg #[.slice pa pn pc, .slice ta tn tc, .string nt], .slice A r.2.1.length e', .bool r.2.2]) ∧ Ext w w' := by
  refine h.mono ?_
  rintro e w' ⟨s, u, rfl, hV, hU, hx⟩
  obtain ⟨⟨pa, pn, pc⟩, ⟨ta, tn, tc⟩, nt⟩ := s
  obtain ⟨A, c, rfl, _⟩ := hU.1.rd.open_
  exact ⟨pa, ta, A, pn, pc, tn, tc, c, nt, rfl, hx⟩
section
variable {I D : Fp} {rb : Nat} {cs : List Cm} {room : Nat} {w : World}
theorem mergeClean_calls (h : RepoX repoT I D w rb cs room) (hG : GoodR cs) (hn : cs.length ≤ 300) (t c : Int) : Calls Tryz.prog 37 #[.pointer (some ⟨rb, 0, none⟩), .int .i64 t, .int .i64 c] w (SamePost w (cleanB (ofF cs t c))) := by
  have HM := Lib.hid (clean_of (mergeOf_calls h hG hn t c))
  clear h hG
  unfold cleanB
  obtain ⟨⟨m, bad, ok⟩, hr⟩ : ∃ r, ofF cs t c = r := ⟨_, rfl⟩
  rw [hr] at HM ⊢
  clear hr
  dsimp only at HM ⊢
  go_enter Tryz.func37, Tryz.ntmps37
  go_wp2_with fail
  refine HM.out.mono ?_
  rintro e w1 ⟨pa, ta, A, pn, pc, tn, tc, e', nt, rfl, hx1⟩
  clear HM
  cases ok with
  | false =>
    go_wp2_with fail
    go_ret
    exact ⟨by first | rfl | simp, hx1.alloc _⟩
  | true =>
    cases bad with
    | nil =>
      go_wp2_with fail
      go_ret
      exact ⟨by first | rfl | simp, hx1.alloc _⟩
    | cons y ys =>
      have hd : (((y :: ys).length : Int) == 0) = false := by rw [beq_eq_false_iff_ne, List.length_cons]; omega
      have hd' : ((ys.length : Int) + 1 == 0) = false := by rw [beq_eq_false_iff_ne]; omega
      go_wp2_with fail
      go_ret
      exact ⟨by first | rfl | simp, hx1.alloc _⟩
end

end Go.Proofs.YtgjbfkaepalkiaaGreatDoor

namespace Go.Proofs.YtgjbfkaepalkiaaGreatDoor
open Go.RowKit
set_option linter.unusedVariables false
set_option linter.unusedSimpArgs false

theorem ofF_swap {cs : List Cm} {t c : Int} (ht : 1 ≤ t ∧ t ≤ cs.length) (hc : 1 ≤ c ∧ c ≤ cs.length) : (ofF cs c t).1.tree = (ofF cs t c).1.tree ∧ (ofF cs c t).2 = (ofF cs t c).2 := by
  have h1 := (getC_isSome cs t).2 ht
  have h2 := (getC_isSome cs c).2 hc
  have hj : joinOf textM (deepF cs 4 c t) (treeC cs c) (treeC cs t) = joinOf textM (deepF cs 4 t c) (treeC cs t) (treeC cs c) := by rw [deepF_swap, joinOf_swap]
  by_cases hb : (joinOf textM (deepF cs 4 t c) (treeC cs t) (treeC cs c)).2 = []
  · rw [ofF_ok ⟨h1, h2⟩ hb, ofF_ok ⟨h2, h1⟩ (by rw [hj]; exact hb), hj]
    exact ⟨rfl, rfl⟩
  · rw [ofF_bad ⟨h1, h2⟩ hb, ofF_bad ⟨h2, h1⟩ (by rw [hj]; exact hb), hj]
    exact ⟨rfl, rfl⟩
theorem ofF_there {cs : List Cm} {t c : Int} (ht : 1 ≤ t ∧ t ≤ cs.length) (hc : 1 ≤ c ∧ c ≤ cs.length) : (ofF cs t c).2.2 = true := by
  have h1 := (getC_isSome cs t).2 ht
  have h2 := (getC_isSome cs c).2 hc
  by_cases hb : (joinOf textM (deepF cs 4 t c) (treeC cs t) (treeC cs c)).2 = []
  · rw [ofF_ok ⟨h1, h2⟩ hb]
  · rw [ofF_bad ⟨h1, h2⟩ hb]
theorem ofF_conf {cs : List Cm} {t c : Int} (h : (ofF cs t c).2.1 ≠ []) : (ofF cs t c).1 = noC := by
  unfold ofF at h ⊢
  split
  · rename_i h1
    rw [if_pos h1] at h
    split
    · rename_i h2; rw [if_pos h2] at h; exact absurd rfl h
    · rfl
  · rfl
theorem ofF_clean {cs : List Cm} {t c : Int} (ht : 1 ≤ t ∧ t ≤ cs.length) (hc : 1 ≤ c ∧ c ≤ cs.length) (h : (ofF cs t c).2.1 = []) : (ofF cs t c).1 = ⟨parF t c, (joinOf textM (deepF cs 4 t c) (treeC cs t) (treeC cs c)).1, ⟨#[]⟩⟩ ∧ (joinOf textM (deepF cs 4 t c) (treeC cs t) (treeC cs c)).2 = [] := by
  have h1 := (getC_isSome cs t).2 ht
  have h2 := (getC_isSome cs c).2 hc
  by_cases hb : (joinOf textM (deepF cs 4 t c) (treeC cs t) (treeC cs c)).2 = []
  · rw [ofF_ok ⟨h1, h2⟩ hb]; exact ⟨rfl, hb⟩
  · rw [ofF_bad ⟨h1, h2⟩ hb] at h; exact absurd h hb
theorem parF_may (t c : Int) : (decide ((parF t c).length ≤ 2) && (!(decide ((parF t c).length = 2) && decide ((parF t c)[0]? = (parF t c)[1]?)))) = true := by
  unfold parF
  by_cases h : t = c
  · rw [if_pos h]; rfl
  · rw [if_neg h]
    have : ¬ (some t = some c) := fun e => h (by injection e)
    simp [this]
theorem ofF_may {cs : List Cm} (hG : GoodR cs) {t c : Int} (ht : 1 ≤ t ∧ t ≤ cs.length) (hc : 1 ≤ c ∧ c ≤ cs.length) (h : (ofF cs t c).2.1 = []) : mayC (ofF cs t c).1 = true ∧ SmallC (ofF cs t c).1 := by
  obtain ⟨h1, h2⟩ := ofF_clean ht hc h
  have hm : mayB (joinOf textM (deepF cs 4 t c) (treeC cs t) (treeC cs c)).1 = true := joinOf_tree ((may3_iff _ _ _).2 ⟨deepF_may hG _ _ _, treeC_may hG _, treeC_may hG _⟩) h2
  rw [h1]
  have hp := parF_may t c
  refine ⟨?_, ?_, Nat.le_trans (may_len hm) (by omega), may_size hm⟩
  · rw [Bool.and_eq_true] at hp
    unfold mayC
    rw [hm, hp.1, hp.2]; rfl
  · unfold parF
    dsimp only
    split <;> simp
theorem ofF_empty (a b : Int) : cleanB (ofF [] a b) = false := by
  rw [ofF_not (fun h => by have := (getC_isSome [] a).1 h.1; simp at this; omega)]
  rfl

end Go.Proofs.YtgjbfkaepalkiaaGreatDoor

namespace Go.Proofs.YtgjbfkaepalkiaaGreatDoor
open Go.RowKit
set_option linter.unusedVariables false
set_option linter.unusedSimpArgs false

theorem sameC_eq {x c : Cm} (h : sameC x c = true) : x = c := by
  unfold sameC at h
  rw [Bool.and_eq_true, Bool.and_eq_true, decide_eq_true_eq, sameB_iff, beq_iff_eq] at h
  obtain ⟨h1, h2, h3⟩ := h
  obtain ⟨p, t, n⟩ := x
  obtain ⟨p', t', n'⟩ := c
  dsimp only at h1 h2 h3
  have h4 : n = n' := toList_inj h3
  rw [h1, h2, h4]
/-- What adding a commit comes to that may be, of parents that are there, where there is room. -/
theorem add_ok {cs : List Cm} {c : Cm} (hm : mayC c = true) (hp : ∀ p ∈ c.parents, 1 ≤ p ∧ p ≤ cs.length) (hr : cs.length < 60) :
    (addC cs 60 c).2.2 = 0 ∧ 1 ≤ (addC cs 60 c).2.1 ∧ getC (addC cs 60 c).1 ((addC cs 60 c).2.1 : Int) = some c ∧ (∃ r, (addC cs 60 c).1 = cs ++ r) := by
  have hb : (c.parents.any fun p => decide (p < 1) || decide ((cs.length : Int) < p)) = false := by
    rw [List.any_eq_false]
    intro p hp'
    have := hp p hp'
    simp
    omega
  by_cases hf : 0 < findC cs c
  · have he : addC cs 60 c = (cs, findC cs c, 0) := by
      unfold addC
      rw [if_neg (by rw [hm]; simp), if_neg (by rw [hb]; simp), if_pos hf]
    rw [he]
    refine ⟨rfl, hf, ?_, [], by simp⟩
    dsimp only
    unfold findC at hf ⊢
    cases hx : cs.findIdx? (fun x => sameC x c) with
    | none => rw [hx] at hf; exact absurd hf (by simp)
    | some i =>
      obtain ⟨hi, hs, _⟩ := List.findIdx?_eq_some_iff_getElem.1 hx
      dsimp only
      rw [show ((i + 1 : Nat) : Int) = (i : Int) + 1 by omega, getC_nat hi, sameC_eq hs]
  · have he : addC cs 60 c = (cs ++ [c], cs.length + 1, 0) := by
      unfold addC
      rw [if_neg (by rw [hm]; simp), if_neg (by rw [hb]; simp), if_neg hf, if_neg (by omega)]
    rw [he]
    refine ⟨rfl, by dsimp only; omega, ?_, [c], rfl⟩
    dsimp only
    rw [show ((cs.length + 1 : Nat) : Int) = (cs.length : Int) + 1 by omega, getC_nat (by simp)]
    simp
/-- A commit's parents are among those that it came of. -/
theorem parent_in {cs : List Cm} (hG : GoodR cs) {n p : Int} (hn : 1 ≤ n ∧ n ≤ cs.length) (hp : p ∈ parentsC cs n) : p ∈ aheadF cs n := by
  have h1 := aheadF_self hn
  have h2 : (getC cs n).isSome = true := (getC_isSome cs n).2 hn
  unfold aheadF at h1 ⊢
  rw [if_pos h2] at h1 ⊢
  exact goA_closed hG h1 hp
/-- Of one that came of the other. -/
theorem ofF_is {cs : List Cm} (hG : GoodR cs) {t c : Int} (ht : 1 ≤ t ∧ t ≤ cs.length) (hc : 1 ≤ c ∧ c ≤ cs.length) (h : t ∈ aheadF cs c) : (ofF cs t c).2 = ([], true) ∧ (ofF cs t c).1.tree = treeC cs c := by
  have h1 := (getC_isSome cs t).2 ht
  have h2 := (getC_isSome cs c).2 hc
  have hd : deepF cs 4 t c = treeC cs t := deepF_one (bestF_is hG h)
  have hj : joinOf textM (deepF cs 4 t c) (treeC cs t) (treeC cs c) = (treeC cs c, []) := by rw [hd]; exact joinOf_right (treeC_may hG _) (treeC_may hG _)
  rw [ofF_ok ⟨h1, h2⟩ (by rw [hj]), hj]
  exact ⟨rfl, rfl⟩
section
variable {M : List Cm} (hG : GoodR M) {t c : Int} (ht : 1 ≤ t ∧ t ≤ M.length) (hc : 1 ≤ c ∧ c ≤ M.length) (hb : (ofF M t c).2.1 = []) (hr : M.length < 60)
include hG ht hc hb hr in
theorem merge_add : (addC M 60 (ofF M t c).1).2.2 = 0 ∧ 1 ≤ (addC M 60 (ofF M t c).1).2.1 ∧ GoodR (addC M 60 (ofF M t c).1).1 ∧ (addC M 60 (ofF M t c).1).1.length ≤ 61 ∧
    (ofF (addC M 60 (ofF M t c).1).1 ((addC M 60 (ofF M t c).1).2.1 : Int) c).2 = ([], true) ∧ (ofF (addC M 60 (ofF M t c).1).1 ((addC M 60 (ofF M t c).1).2.1 : Int) c).1.tree = (ofF M t c).1.tree ∧
    (ofF (addC M 60 (ofF M t c).1).1 t ((addC M 60 (ofF M t c).1).2.1 : Int)).2 = ([], true) ∧ (ofF (addC M 60 (ofF M t c).1).1 t ((addC M 60 (ofF M t c).1).2.1 : Int)).1.tree = (ofF M t c).1.tree := by
  obtain ⟨hmay, hsm⟩ := ofF_may hG ht hc hb
  have hpar : (ofF M t c).1.parents = parF t c := by rw [(ofF_clean ht hc hb).1]
  have hps : ∀ p ∈ (ofF M t c).1.parents, 1 ≤ p ∧ p ≤ M.length := fun p hp => by
    rw [hpar] at hp
    unfold parF at hp
    split at hp
    · rw [List.mem_singleton] at hp; subst hp; exact ht
    · simp only [List.mem_cons, List.not_mem_nil, or_false] at hp
      rcases hp with rfl | rfl
      · exact ht
      · exact hc
  obtain ⟨a1, a2, a3, r, a4⟩ := add_ok hmay hps hr
  have hG' := addC_good hG hsm 60
  have hl := addC_len M 60 (ofF M t c).1
  generalize addC M 60 (ofF M t c).1 = z at a1 a2 a3 a4 hG' hl ⊢
  obtain ⟨M', n, e⟩ := z
  dsimp only at a1 a2 a3 a4 hG' hl ⊢
  have hn := (getC_isSome M' n).1 (by rw [a3]; rfl)
  have hMl : (M.length : Int) ≤ M'.length := by omega
  have ht' : 1 ≤ t ∧ t ≤ (M'.length : Int) := by omega
  have hc' : 1 ≤ c ∧ c ≤ (M'.length : Int) := by omega
  have hpn : parentsC M' n = parF t c := by unfold parentsC; rw [a3]; exact hpar
  have htn : treeC M' n = (ofF M t c).1.tree := by unfold treeC; rw [a3]; rfl
  have hti : t ∈ aheadF M' n := parent_in hG' hn (by rw [hpn]; unfold parF; split <;> simp)
  have hci : c ∈ aheadF M' n := parent_in hG' hn (by rw [hpn]; unfold parF; split <;> simp [*])
  have h1 := ofF_is hG' ht' hn hti
  have h2 := ofF_is hG' hc' hn hci
  have h3 := ofF_swap hc' hn
  refine ⟨a1, a2, hG', by omega, ?_, ?_, h1.1, by rw [h1.2, htn]⟩
  · rw [h3.2, h2.1]
  · rw [h3.1, h2.2, htn]
end

end Go.Proofs.YtgjbfkaepalkiaaGreatDoor

namespace Go.Proofs.YtgjbfkaepalkiaaGreatDoor
open Go.RowKit
set_option linter.unusedVariables false
set_option linter.unusedSimpArgs false

/-- Whether files are a tree hangs on their data by size alone. -/
theorem may_paths {xs : List File} (h : mayB (xs.map fun f => (⟨f.path, ⟨#[]⟩⟩ : File)) = true) (hd : ∀ f ∈ xs, f.data.size ≤ 400) : mayB xs = true := by
  rw [mayB_iff] at h ⊢
  refine ⟨by have := h.few; simpa using this, fun f hf => ⟨(h.each ⟨f.path, ⟨#[]⟩⟩ (List.mem_map.2 ⟨f, hf, rfl⟩)).1, hd f hf⟩, ?_, ?_⟩
  · have := h.rise
    rw [List.pairwise_map] at this
    exact this
  · have := h.apart
    rw [List.pairwise_map] at this
    exact this

def pA : ByteArray := ⟨#[97]⟩
def pB : ByteArray := ⟨#[98]⟩
def pX : ByteArray := ⟨#[120]⟩
def noB : ByteArray := ⟨#[]⟩
def rootL : List File := [⟨pX, noB⟩]
def oneL (a : ByteArray) : List File := [⟨pA, a⟩, ⟨pX, noB⟩]
def twoL (b : ByteArray) : List File := [⟨pB, b⟩, ⟨pX, noB⟩]
def bothL (a b : ByteArray) : List File := [⟨pA, a⟩, ⟨pB, b⟩, ⟨pX, noB⟩]
def twoX (b : ByteArray) : List File := [⟨pX, b⟩]
def bothX (a b : ByteArray) : List File := [⟨pA, a⟩, ⟨pX, b⟩]
section
variable {a b : ByteArray} (ha : a.size ≤ 400) (hb : b.size ≤ 400)
theorem rootL_may : mayB rootL = true := by kernel_rfl
include ha in
theorem oneL_may : mayB (oneL a) = true := may_paths (by kernel_rfl) fun f hf => by
  simp only [oneL, List.mem_cons, List.not_mem_nil, or_false] at hf
  rcases hf with rfl | rfl
  · exact ha
  · decide
include hb in
theorem twoL_may : mayB (twoL b) = true := may_paths (by kernel_rfl) fun f hf => by
  simp only [twoL, List.mem_cons, List.not_mem_nil, or_false] at hf
  rcases hf with rfl | rfl
  · exact hb
  · decide
include ha hb in
theorem bothL_may : mayB (bothL a b) = true := may_paths (by kernel_rfl) fun f hf => by
  simp only [bothL, List.mem_cons, List.not_mem_nil, or_false] at hf
  rcases hf with rfl | rfl | rfl
  · exact ha
  · exact hb
  · decide
include hb in
theorem twoX_may : mayB (twoX b) = true := may_paths (by kernel_rfl) fun f hf => by
  simp only [twoX, List.mem_cons, List.not_mem_nil, or_false] at hf
  subst hf; exact hb
include ha hb in
theorem bothX_may : mayB (bothX a b) = true := may_paths (by kernel_rfl) fun f hf => by
  simp only [bothX, List.mem_cons, List.not_mem_nil, or_false] at hf
  rcases hf with rfl | rfl
  · exact ha
  · exact hb

theorem virt_of_gath {o x y z : List File} (h3 : may3 o x y = true) (hg : (gathF textM id o x y).1 = z) (hz : mayB z = true) : virtOf textM o x y = z := by
  unfold virtOf
  rw [if_pos h3]
  dsimp only
  rw [hg, tree_under ((mayB_iff _).1 hz)]
  show z.take 12 = z
  exact List.take_of_length_le ((mayB_iff _).1 hz).few
include ha hb in
theorem cross_own : virtOf textM rootL (oneL a) (twoL b) = bothL a b := by
  refine virt_of_gath ((may3_iff _ _ _).2 ⟨rootL_may, oneL_may ha, twoL_may hb⟩) ?_ (bothL_may ha hb)
  unfold gathF gathL
  rw [show riseT (flatP [rootL, oneL a, twoL b]) = [pA, pB, pX] from by kernel_rfl]
  have j1 : joinF textM (atF rootL pA) (atF (oneL a) pA) (atF (twoL b) pA) = (⟨true, a⟩, true) := by
    rw [show atF rootL pA = noFl from by kernel_rfl, show atF (oneL a) pA = (⟨true, a⟩ : Fl) from by kernel_rfl, show atF (twoL b) pA = noFl from by kernel_rfl]
    exact join_left textM ⟨true, a⟩
  have j2 : joinF textM (atF rootL pB) (atF (oneL a) pB) (atF (twoL b) pB) = (⟨true, b⟩, true) := by
    rw [show atF rootL pB = noFl from by kernel_rfl, show atF (oneL a) pB = noFl from by kernel_rfl, show atF (twoL b) pB = (⟨true, b⟩ : Fl) from by kernel_rfl]
    exact join_right textM noFl ⟨true, b⟩
  have j3 : joinF textM (atF rootL pX) (atF (oneL a) pX) (atF (twoL b) pX) = (⟨true, noB⟩, true) := by
    rw [show atF rootL pX = (⟨true, noB⟩ : Fl) from by kernel_rfl, show atF (oneL a) pX = (⟨true, noB⟩ : Fl) from by kernel_rfl, show atF (twoL b) pX = (⟨true, noB⟩ : Fl) from by kernel_rfl]
    exact join_right textM ⟨true, noB⟩ ⟨true, noB⟩
  simp only [List.foldl_cons, List.foldl_nil, stepG, j1, j2, j3]
  rfl
include ha hb in
theorem cross_two : virtOf textM rootL (oneL a) (twoX b) = bothX a b := by
  refine virt_of_gath ((may3_iff _ _ _).2 ⟨rootL_may, oneL_may ha, twoX_may hb⟩) ?_ (bothX_may ha hb)
  unfold gathF gathL
  rw [show riseT (flatP [rootL, oneL a, twoX b]) = [pA, pX] from by kernel_rfl]
  have j1 : joinF textM (atF rootL pA) (atF (oneL a) pA) (atF (twoX b) pA) = (⟨true, a⟩, true) := by
    rw [show atF rootL pA = noFl from by kernel_rfl, show atF (oneL a) pA = (⟨true, a⟩ : Fl) from by kernel_rfl, show atF (twoX b) pA = noFl from by kernel_rfl]
    exact join_left textM ⟨true, a⟩
  have j3 : joinF textM (atF rootL pX) (atF (oneL a) pX) (atF (twoX b) pX) = (⟨true, b⟩, true) := by
    rw [show atF rootL pX = (⟨true, noB⟩ : Fl) from by kernel_rfl, show atF (oneL a) pX = (⟨true, noB⟩ : Fl) from by kernel_rfl, show atF (twoX b) pX = (⟨true, b⟩ : Fl) from by kernel_rfl]
    exact join_right textM ⟨true, noB⟩ ⟨true, b⟩
  simp only [List.foldl_cons, List.foldl_nil, stepG, j1, j3]
  rfl
end

theorem add_new {cs : List Cm} {c : Cm} (hm : mayC c = true) (hp : (c.parents.any fun p => decide (p < 1) || decide ((cs.length : Int) < p)) = false) (hf : ∀ x ∈ cs, sameC x c = false) (hr : cs.length < 60) : (addC cs 60 c).1 = cs ++ [c] := by
  have hfz : findC cs c = 0 := by
    unfold findC
    rw [List.findIdx?_eq_none_iff.2 hf]
  unfold addC
  rw [if_neg (by rw [hm]; simp), if_neg (by rw [hp]; simp), if_neg (by rw [hfz]; simp), if_neg (by omega)]
theorem sameC_parents {x c : Cm} (h : x.parents ≠ c.parents) : sameC x c = false := by
  unfold sameC
  rw [decide_eq_false h]; rfl
theorem sameC_tree {x c : Cm} (h : x.tree ≠ c.tree) : sameC x c = false := by
  unfold sameC
  have : sameB x.tree c.tree = false := by
    cases hb : sameB x.tree c.tree with
    | false => rfl
    | true => exact absurd ((sameB_iff _ _).1 hb) h
  rw [this]; simp
section
variable {one two both : List File} (h1 : mayB one = true) (h2 : mayB two = true) (h3 : mayB both = true) (hne : one ≠ two)
include h1 h2 h3 in
theorem cross_small : ∀ c ∈ crossC rootL one two both, SmallC c := by
  intro c hc
  simp only [crossC, List.mem_cons, List.not_mem_nil, or_false] at hc
  have hs : ∀ (ps : List Int) (t : List File), ps.length ≤ 2 → mayB t = true → SmallC ⟨ps, t, ⟨#[]⟩⟩ := fun ps t hp ht => ⟨by show ps.length ≤ _; omega, by have := ((mayB_iff _).1 ht).few; show t.length ≤ _; omega, fun y hy => by
    have h1 := (((mayB_iff _).1 ht).each y hy).1
    unfold pathB at h1
    simp only [Bool.and_eq_true, decide_eq_true_eq] at h1
    have := h1.1.1.2
    omega⟩
  rcases hc with rfl | rfl | rfl | rfl | rfl
  · exact hs _ _ (by decide) rootL_may
  · exact hs _ _ (by decide) h1
  · exact hs _ _ (by decide) h2
  · exact hs _ _ (by decide) h3
  · exact hs _ _ (by decide) h3
theorem may_cm {ps : List Int} {t : List File} (hp : (decide (ps.length ≤ 2) && (!(decide (ps.length = 2) && decide (ps[0]? = ps[1]?)))) = true) (ht : mayB t = true) : mayC ⟨ps, t, ⟨#[]⟩⟩ = true := by
  unfold mayC
  rw [Bool.and_eq_true] at hp
  rw [ht, hp.1, hp.2]; rfl
include h1 h2 h3 hne in
theorem cross_made : madeC (crossC rootL one two both) = crossC rootL one two both := by
  unfold madeC crossC
  simp only [List.foldl_cons, List.foldl_nil]
  rw [add_new (c := ⟨[], rootL, ⟨#[]⟩⟩) (may_cm (by decide) rootL_may) (by rfl) (fun x hx => by cases hx) (by simp)]
  rw [add_new (c := ⟨[1], one, ⟨#[]⟩⟩) (may_cm (by decide) h1) (by rfl) (fun x hx => by
    simp only [List.nil_append, List.mem_cons, List.not_mem_nil, or_false] at hx
    subst hx; exact sameC_parents (by simp)) (by simp)]
  rw [add_new (c := ⟨[1], two, ⟨#[]⟩⟩) (may_cm (by decide) h2) (by rfl) (fun x hx => by
    simp only [List.nil_append, List.cons_append, List.mem_cons, List.not_mem_nil, or_false] at hx
    rcases hx with rfl | rfl
    · exact sameC_parents (by simp)
    · exact sameC_tree hne) (by simp)]
  rw [add_new (c := ⟨[2, 3], both, ⟨#[]⟩⟩) (may_cm (by decide) h3) (by rfl) (fun x hx => by
    simp only [List.nil_append, List.cons_append, List.mem_cons, List.not_mem_nil, or_false] at hx
    rcases hx with rfl | rfl | rfl <;> exact sameC_parents (by simp)) (by simp)]
  rw [add_new (c := ⟨[3, 2], both, ⟨#[]⟩⟩) (may_cm (by decide) h3) (by rfl) (fun x hx => by
    simp only [List.nil_append, List.cons_append, List.mem_cons, List.not_mem_nil, or_false] at hx
    rcases hx with rfl | rfl | rfl | rfl <;> exact sameC_parents (by simp)) (by simp)]
  rfl
end
theorem one_ne_two (a b : ByteArray) : oneL a ≠ twoL b := by
  intro h
  unfold oneL twoL at h
  injection h with h _
  injection h with h _
  exact absurd h (by decide)
theorem one_ne_twoX (a b : ByteArray) : oneL a ≠ twoX b := by
  intro h
  have := congrArg List.length h
  simp [oneL, twoX] at this

end Go.Proofs.YtgjbfkaepalkiaaGreatDoor

namespace Go.Proofs.YtgjbfkaepalkiaaGreatDoor
open Go.RowKit
set_option linter.unusedVariables false
set_option linter.unusedSimpArgs false

/-! ### Some files of a tree -/
theorem atF_get1 {xs ys : List File} {p : ByteArray} (h : getF xs p = getF ys p) : atF xs p = atF ys p := by
  unfold atF getD
  rw [h]
theorem atF_none1 {xs : List File} {p : ByteArray} (h : getF xs p = none) : atF xs p = noFl := by
  unfold atF getD
  rw [h]
  rfl
noncomputable def subL (L s : List File) : List File := L.filter fun f => @decide (f ∈ s) (Classical.propDecidable _)
section
variable {L s : List File} {f : File}
theorem mem_subL : f ∈ subL L s ↔ f ∈ L ∧ f ∈ s := by
  unfold subL
  rw [List.mem_filter]
  exact and_congr Iff.rfl (@decide_eq_true_iff _ (Classical.propDecidable _))
theorem subL_sub : (subL L s).Sublist L := by unfold subL; exact List.filter_sublist
theorem Tree.subl {xs ys : List File} (h : Tree ys) (hs : xs.Sublist ys) : Tree xs := ⟨Nat.le_trans hs.length_le h.few, fun f hf => h.each f (hs.subset hf), h.rise.sublist hs, h.apart.sublist hs⟩
theorem StrF.nodup {xs : List File} (h : StrF xs) : xs.Nodup := h.imp fun {a b} hab e => by
  subst e
  have := ltB_asymm hab
  rw [hab] at this; cases this
theorem subL_nil (L : List File) : subL L [] = [] := List.eq_nil_iff_forall_not_mem.2 fun f hf => by
  have := (mem_subL.1 hf).2
  cases this
theorem subL_len (hL : StrF L) (hs : s.Nodup) (hsub : ∀ f ∈ s, f ∈ L) : (subL L s).length = s.length :=
  ((List.perm_ext_iff_of_nodup (hL.nodup.sublist subL_sub) hs).2 fun f => ⟨fun h => (mem_subL.1 h).2, fun h => mem_subL.2 ⟨hsub f h, h⟩⟩).length_eq
theorem atF_of {xs : List File} (h : StrF xs) (hf : f ∈ xs) : atF xs f.path = ⟨true, f.data⟩ := by
  unfold atF getD
  rw [h.get hf]; rfl
/-- A file more joined. -/
theorem join_more (hL : Tree L) (hs : ∀ g ∈ s, g ∈ L) (hf : f ∈ L) (hn : f ∉ s) : joinOf textM [] (subL L s) [f] = (subL L (s ++ [f]), []) := by
  have t1 : Tree (subL L s) := hL.subl subL_sub
  have t2 : Tree (subL L (s ++ [f])) := hL.subl subL_sub
  have t3 : Tree [f] := hL.subl (List.singleton_sublist.2 hf)
  refine joinOf_is ((may3_iff _ _ _).2 ⟨rfl, (mayB_iff _).2 t1, (mayB_iff _).2 t3⟩) t2 (fun g hg => ?_) fun p => ?_
  · rw [mem_flatP3]
    obtain ⟨h1, h2⟩ := mem_subL.1 hg
    rcases List.mem_append.1 h2 with h | h
    · exact .inr (.inl (List.mem_map_of_mem (mem_subL.2 ⟨h1, h⟩)))
    · exact .inr (.inr (List.mem_map_of_mem h))
  · by_cases hp : p = f.path
    · subst hp
      have e1 : atF (subL L s) f.path = noFl := atF_none1 (getF_none.2 fun g hg e => by
        obtain ⟨h1, h2⟩ := mem_subL.1 hg
        have := StrF.apart hL.rise h1 hf e
        subst this
        exact hn h2)
      rw [e1, at_nil, join_right, atF_of t3.rise (List.mem_singleton.2 rfl), atF_of t2.rise (mem_subL.2 ⟨hf, by simp⟩)]
    · have e1 : atF [f] p = noFl := atF_none1 (getF_none.2 fun g hg e => by
        rw [List.mem_singleton] at hg; subst hg; exact hp e.symm)
      rw [e1, at_nil, join_left]
      congr 1
      refine atF_get1 ?_
      cases hg : getF (subL L (s ++ [f])) p with
      | none => exact getF_none.2 fun g hg' => getF_none.1 hg g (mem_subL.2 ⟨(mem_subL.1 hg').1, List.mem_append_left _ (mem_subL.1 hg').2⟩)
      | some g =>
        obtain ⟨h1, h2⟩ := getF_path hg
        obtain ⟨h3, h4⟩ := mem_subL.1 h1
        have h5 : g ∈ s := by
          rcases List.mem_append.1 h4 with h | h
          · exact h
          · rw [List.mem_singleton] at h; subst h; exact absurd h2.symm hp
        have := StrF.get t1.rise (mem_subL.2 ⟨h3, h5⟩)
        rw [h2] at this
        exact this
end

/-! ### The commits -/
def leafC (f : File) : Cm := ⟨[1], [f], ⟨#[]⟩⟩
def rootsC (L : List File) : List Cm := ⟨[], [], ⟨#[]⟩⟩ :: L.map leafC
theorem rootsC_len (L : List File) : (rootsC L).length = L.length + 1 := by simp [rootsC]
theorem tree_small {t : List File} (h : Tree t) {ps : List Int} (hp : ps.length ≤ 2) : SmallC ⟨ps, t, ⟨#[]⟩⟩ := ⟨by show ps.length ≤ _; omega, by have := h.few; show t.length ≤ _; omega, fun y hy => by
  have h1 := (h.each y hy).1
  unfold pathB at h1
  simp only [Bool.and_eq_true, decide_eq_true_eq] at h1
  have := h1.1.1.2
  omega⟩
theorem roots_small {L : List File} (hL : Tree L) : ∀ c ∈ rootsC L, SmallC c := fun c hc => by
  rcases List.mem_cons.1 hc with rfl | h
  · exact tree_small ((mayB_iff []).1 rfl) (by simp)
  · obtain ⟨f, hf, rfl⟩ := List.mem_map.1 h
    exact tree_small (hL.subl (List.singleton_sublist.2 hf)) (by simp)
theorem roots_made {L : List File} : Tree L → madeC (rootsC L) = rootsC L := by
  refine snocInd (p := fun L => Tree L → madeC (rootsC L) = rootsC L) (fun _ => ?_) (fun l f ih hL => ?_) L
  · unfold madeC rootsC
    simp only [List.foldl_cons, List.foldl_nil, List.map_nil]
    rw [add_new (c := ⟨[], [], ⟨#[]⟩⟩) (may_cm (by decide) rfl) (by rfl) (fun x hx => by cases hx) (by simp)]
    rfl
  · have he : rootsC (l ++ [f]) = rootsC l ++ [leafC f] := by simp [rootsC]
    have hl : Tree l := hL.subl (List.sublist_append_left _ _)
    have hfew := hL.few
    rw [List.length_append, List.length_singleton] at hfew
    have hnot : f ∉ l := fun h => by
      have := List.nodup_append.1 (StrF.nodup hL.rise)
      exact this.2.2 f h f (by simp) rfl
    rw [he, madeC_snoc, ih hl]
    refine add_new (may_cm (by decide) ((mayB_iff _).2 (hL.subl (List.singleton_sublist.2 (by simp))))) ?_ (fun x hx => ?_) (by rw [rootsC_len]; omega)
    · rw [List.any_eq_false]
      intro p hp
      rw [show (leafC f).parents = [1] from rfl, List.mem_singleton] at hp
      subst hp
      rw [rootsC_len]
      simp
      omega
    · rcases List.mem_cons.1 hx with rfl | h
      · exact sameC_parents (by simp [leafC])
      · obtain ⟨g, hg, rfl⟩ := List.mem_map.1 h
        refine sameC_tree fun e => hnot ?_
        have : g = f := by
          have e' : [g] = [f] := e
          injection e'
        subst this
        exact hg

def noFile : File := ⟨⟨#[]⟩, ⟨#[]⟩⟩
def nthF (L : List File) (i : Nat) : File := L.getD i noFile
theorem nthF_mem {L : List File} {i : Nat} (h : i < L.length) : nthF L i ∈ L := by
  unfold nthF
  rw [List.getD_eq_getElem?_getD, List.getElem?_eq_getElem h]
  exact List.getElem_mem h
theorem nthF_inj {L : List File} (hL : StrF L) {i j : Nat} (hi : i < L.length) (hj : j < L.length) (h : nthF L i = nthF L j) : i = j := by
  unfold nthF at h
  rw [List.getD_eq_getElem?_getD, List.getElem?_eq_getElem hi, List.getD_eq_getElem?_getD, List.getElem?_eq_getElem hj] at h
  have e : L[i] = L[j] := h
  have hn := List.pairwise_iff_getElem.1 hL.nodup
  rcases Nat.lt_trichotomy i j with h1 | h1 | h1
  · exact absurd e (hn i j hi hj h1)
  · exact h1
  · exact absurd e.symm (hn j i hj hi h1)
/-- The order in which they are merged. -/
structure Ord (N : Nat) (o : Nat → Nat) : Prop where
  lt : ∀ i, i < N → o i < N
  inj : ∀ i j, i < N → j < N → o i = o j → i = j
def doneL (L : List File) (o : Nat → Nat) (i : Nat) : List File := (List.range i).map fun j => nthF L (o j)
theorem doneL_succ (L : List File) (o : Nat → Nat) (i : Nat) : doneL L o (i + 1) = doneL L o i ++ [nthF L (o i)] := by unfold doneL; rw [List.range_succ, List.map_append]; rfl
section
variable {L : List File} {o : Nat → Nat} {i : Nat} (hL : StrF L) (ho : Ord L.length o) (hi : i ≤ L.length)
include ho hi in
theorem doneL_in : ∀ f ∈ doneL L o i, f ∈ L := fun f hf => by
  obtain ⟨j, hj, rfl⟩ := List.mem_map.1 hf
  rw [List.mem_range] at hj
  exact nthF_mem (ho.lt j (by omega))
include hL ho in
theorem doneL_not (hi' : i < L.length) : nthF L (o i) ∉ doneL L o i := fun h => by
  obtain ⟨j, hj, e⟩ := List.mem_map.1 h
  rw [List.mem_range] at hj
  have := ho.inj _ _ (by omega) hi' (nthF_inj hL (ho.lt j (by omega)) (ho.lt i hi') e)
  omega
include hL ho hi in
theorem doneL_nodup : (doneL L o i).Nodup := by
  induction i with
  | zero => exact List.nodup_nil
  | succ i ih =>
    rw [doneL_succ, List.nodup_append]
    refine ⟨ih (by omega), by simp, fun a ha b hb e => ?_⟩
    rw [List.mem_singleton] at hb
    subst hb e
    exact doneL_not hL ho (by omega) ha
include hL ho hi in
theorem done_len : (subL L (doneL L o i)).length = i := by
  rw [subL_len hL (doneL_nodup hL ho hi) (doneL_in ho hi)]
  simp [doneL]
include hL ho in
theorem done_all : subL L (doneL L o L.length) = L := subL_sub.eq_of_length (done_len hL ho (Nat.le_refl _))
end

/-- Where i of them are merged. -/
structure ManyI (L : List File) (o : Nat → Nat) (i : Nat) (M : List Cm) (tip : Int) : Prop where
  good : GoodR M
  len : M.length = L.length + 1 + i
  root : parentsC M 1 = [] ∧ treeC M 1 = []
  leaf : ∀ j, j < L.length → getC M ((j : Int) + 2) = some (leafC (nthF L j))
  clos : ∀ x : Int, (∀ j, i ≤ j → j < L.length → x ≠ (o j : Int) + 2) → ∀ p ∈ parentsC M x, ∀ j, i ≤ j → j < L.length → p ≠ (o j : Int) + 2
  tipB : 1 ≤ tip ∧ tip ≤ M.length
  tipN : ∀ j, i ≤ j → j < L.length → tip ≠ (o j : Int) + 2
  one : (1 : Int) ∈ aheadF M tip
  tree : treeC M tip = subL L (doneL L o i)
  few : ∀ x ∈ M, x.parents.length ≤ 1 ∨ x.tree.length ≤ i

theorem getC_app {M r : List Cm} {n : Int} (h : n ≤ M.length) : getC (M ++ r) n = getC M n := by
  unfold getC
  rw [List.length_append]
  by_cases h1 : 1 ≤ n
  · rw [if_pos ⟨h1, by omega⟩, if_pos ⟨h1, h⟩, List.getElem?_append_left (by omega)]
  · rw [if_neg (by omega), if_neg (by omega)]
theorem getC_past {M : List Cm} {n : Int} (h : (M.length : Int) < n) : getC M n = none := by
  unfold getC
  rw [if_neg (by omega)]
theorem roots_leaf {L : List File} {j : Nat} (hj : j < L.length) : getC (rootsC L) ((j : Int) + 2) = some (leafC (nthF L j)) := by
  have h : j + 1 < (rootsC L).length := by rw [rootsC_len]; omega
  have := getC_nat h
  rw [show ((j + 1 : Nat) : Int) + 1 = (j : Int) + 2 by omega] at this
  rw [this, ← List.getElem?_eq_getElem h]
  unfold rootsC nthF
  rw [List.getElem?_cons_succ, List.getElem?_map, List.getD_eq_getElem?_getD, List.getElem?_eq_getElem hj]
  rfl
theorem roots_root (L : List File) : getC (rootsC L) 1 = some ⟨[], [], ⟨#[]⟩⟩ := by
  have := getC_nat (cs := rootsC L) (k := 0) (by rw [rootsC_len]; omega)
  exact this
theorem many_start {L : List File} {o : Nat → Nat} (hL : Tree L) (ho : Ord L.length o) : ManyI L o 0 (rootsC L) 1 := by
  have hg : GoodR (rootsC L) := by rw [← roots_made hL]; exact madeC_good (roots_small hL)
  refine ⟨hg, rootsC_len L, ?_, fun j hj => roots_leaf hj, ?_, ?_, ?_, ?_, ?_, ?_⟩
  · unfold parentsC treeC
    rw [roots_root]; exact ⟨rfl, rfl⟩
  · intro x _ p hp j _ hj e
    subst e
    have h1 := parents_lt hg hp
    have hs : (getC (rootsC L) x).isSome = true := by
      cases hx : getC (rootsC L) x with
      | some c => rfl
      | none => unfold parentsC at hp; rw [hx] at hp; cases hp
    have hx := (getC_isSome _ _).1 hs
    rw [rootsC_len] at hx
    obtain ⟨k, rfl⟩ : ∃ k : Nat, x = (k : Int) + 2 := ⟨(x - 2).toNat, by omega⟩
    have hl := roots_leaf (L := L) (j := k) (by omega)
    unfold parentsC at hp
    rw [hl] at hp
    have hp' : ((o j : Int) + 2) ∈ ([1] : List Int) := hp
    rw [List.mem_singleton] at hp'
    omega
  · rw [rootsC_len]; omega
  · intro j _ _; omega
  · exact aheadF_self (by rw [rootsC_len]; omega)
  · unfold treeC
    rw [roots_root]
    exact (subL_nil L).symm
  · intro x hx
    rcases List.mem_cons.1 hx with rfl | h
    · exact .inl (by simp)
    · obtain ⟨f, hf, rfl⟩ := List.mem_map.1 h
      exact .inl (by simp [leafC])

/-- The best base of a commit and of one whose only parent is the first. -/
theorem best_root {M : List Cm} (hG : GoodR M) {t c : Int} (hc : parentsC M c = [1]) (h1 : parentsC M 1 = []) (hin : (1 : Int) ∈ aheadF M t) (hn : c ∉ aheadF M t) (hcB : 1 ≤ c ∧ c ≤ M.length) : bestF M t c = [1] := by
  have hsub : ∀ x ∈ aheadF M c, x = c ∨ x = 1 := by
    have h2 : (getC M c).isSome = true := (getC_isSome M c).2 hcB
    intro x hx
    unfold aheadF at hx
    rw [if_pos h2] at hx
    refine goA_iff (fun x => x = c ∨ x = 1) (fun x _ _ hm => .inl (of_decide_eq_true hm)) (fun y hy p hp => ?_) x hx
    rcases hy with rfl | rfl
    · rw [hc, List.mem_singleton] at hp; exact .inr hp
    · rw [h1] at hp; cases hp
  have hone : (1 : Int) ∈ aheadF M c := parent_in hG hcB (by rw [hc]; simp)
  have hcom : ((aheadF M t).filter fun n => (aheadF M c).contains n) = [1] := by
    refine desc_unique ((aheadF_sorted M t).filter _) (by simp) fun x => ?_
    rw [List.mem_filter, List.mem_singleton, List.contains_iff_mem]
    constructor
    · rintro ⟨h3, h4⟩
      rcases hsub x h4 with rfl | rfl
      · exact absurd h3 hn
      · rfl
    · rintro rfl
      exact ⟨hin, hone⟩
  unfold bestF commonF
  rw [hcom]
  rfl

theorem many_step {L : List File} {o : Nat → Nat} {i : Nat} {M : List Cm} {tip : Int} (hL : Tree L) (ho : Ord L.length o) (hi : i < L.length) (h : ManyI L o i M tip) :
    ofF M tip ((o i : Int) + 2) = (⟨[tip, (o i : Int) + 2], subL L (doneL L o (i + 1)), ⟨#[]⟩⟩, [], true) ∧
    addC M 60 ⟨[tip, (o i : Int) + 2], subL L (doneL L o (i + 1)), ⟨#[]⟩⟩ = (M ++ [⟨[tip, (o i : Int) + 2], subL L (doneL L o (i + 1)), ⟨#[]⟩⟩], M.length + 1, 0) ∧
    ManyI L o (i + 1) (M ++ [⟨[tip, (o i : Int) + 2], subL L (doneL L o (i + 1)), ⟨#[]⟩⟩]) ((M.length : Int) + 1) := by
  have hlen := h.len
  have hfew := hL.few
  have hoi := ho.lt i hi
  obtain ⟨c, hc⟩ : ∃ c : Int, (o i : Int) + 2 = c := ⟨_, rfl⟩
  have hlf := h.leaf (o i) hoi
  rw [hc] at hlf ⊢
  have hcB : 1 ≤ c ∧ c ≤ (M.length : Int) := by omega
  have hpc : parentsC M c = [1] := by unfold parentsC; rw [hlf]; rfl
  have htc : treeC M c = [nthF L (o i)] := by unfold treeC; rw [hlf]; rfl
  have hne : tip ≠ c := by rw [← hc]; exact h.tipN i (Nat.le_refl _) hi
  have htip : (getC M tip).isSome = true := (getC_isSome M tip).2 h.tipB
  have hnot : c ∉ aheadF M tip := fun hx => by
    unfold aheadF at hx
    rw [if_pos htip] at hx
    have := goA_iff (fun x : Int => ∀ j, i ≤ j → j < L.length → x ≠ (o j : Int) + 2) (fun x _ _ hm => by
      have : x = tip := of_decide_eq_true hm
      subst this; exact h.tipN) (fun y hy p hp => h.clos y hy p hp) c hx i (Nat.le_refl _) hi
    exact this hc.symm
  have hbest := best_root h.good hpc h.root.1 h.one hnot hcB
  have hdeep : deepF M 4 tip c = [] := by rw [deepF_one hbest]; exact h.root.2
  have hjoin : joinOf textM (deepF M 4 tip c) (treeC M tip) (treeC M c) = (subL L (doneL L o (i + 1)), []) := by
    rw [hdeep, h.tree, htc, doneL_succ]
    exact join_more hL (doneL_in ho (by omega)) (nthF_mem hoi) (doneL_not hL.rise ho hi)
  have hof : ofF M tip c = (⟨[tip, c], subL L (doneL L o (i + 1)), ⟨#[]⟩⟩, [], true) := by
    rw [ofF_ok ⟨htip, (getC_isSome M c).2 hcB⟩ (by rw [hjoin]), hjoin]
    unfold parF
    rw [if_neg hne]
  have hl1 := done_len hL.rise ho (show i + 1 ≤ L.length by omega)
  have htr : Tree (subL L (doneL L o (i + 1))) := hL.subl subL_sub
  have hmay : mayC ⟨[tip, c], subL L (doneL L o (i + 1)), ⟨#[]⟩⟩ = true := may_cm (by
    have := parF_may tip c
    unfold parF at this
    rw [if_neg hne] at this
    exact this) ((mayB_iff _).2 htr)
  have hsm : SmallC ⟨[tip, c], subL L (doneL L o (i + 1)), ⟨#[]⟩⟩ := tree_small htr (by simp)
  generalize hT : subL L (doneL L o (i + 1)) = T at *
  have hps : ∀ p ∈ ([tip, c] : List Int), 1 ≤ p ∧ p ≤ (M.length : Int) := fun p hp => by
    simp only [List.mem_cons, List.not_mem_nil, or_false] at hp
    rcases hp with rfl | rfl
    · exact h.tipB
    · exact hcB
  have hany : (([tip, c] : List Int).any fun p => decide (p < 1) || decide ((M.length : Int) < p)) = false := by
    rw [List.any_eq_false]
    intro p hp
    have := hps p hp
    simp
    omega
  have hfz : findC M ⟨[tip, c], T, ⟨#[]⟩⟩ = 0 := by
    unfold findC
    rw [List.findIdx?_eq_none_iff.2 fun x hx => ?_]
    rcases h.few x hx with h1 | h1
    · exact sameC_parents fun e => by rw [e] at h1; simp at h1
    · exact sameC_tree fun e => by rw [e] at h1; dsimp only at h1; omega
  have hadd : addC M 60 ⟨[tip, c], T, ⟨#[]⟩⟩ = (M ++ [⟨[tip, c], T, ⟨#[]⟩⟩], M.length + 1, 0) := by
    unfold addC
    rw [if_neg (by rw [hmay]; simp), if_neg (by rw [hany]; simp), if_neg (by rw [hfz]; simp), if_neg (by omega)]
  have hgood : GoodR (M ++ [⟨[tip, c], T, ⟨#[]⟩⟩]) := h.good.snoc hsm hmay hps
  have hnew : getC (M ++ [(⟨[tip, c], T, ⟨#[]⟩⟩ : Cm)]) ((M.length : Int) + 1) = some ⟨[tip, c], T, ⟨#[]⟩⟩ := by
    rw [getC_nat (by simp)]; simp
  have hold : ∀ n : Int, n ≤ M.length → getC (M ++ [(⟨[tip, c], T, ⟨#[]⟩⟩ : Cm)]) n = getC M n := fun n hn => getC_app hn
  have hnB : 1 ≤ (M.length : Int) + 1 ∧ (M.length : Int) + 1 ≤ ((M ++ [(⟨[tip, c], T, ⟨#[]⟩⟩ : Cm)]).length : Int) := by
    rw [List.length_append, List.length_singleton]; omega
  have hpn : parentsC (M ++ [(⟨[tip, c], T, ⟨#[]⟩⟩ : Cm)]) ((M.length : Int) + 1) = [tip, c] := by unfold parentsC; rw [hnew]; rfl
  refine ⟨hof, hadd, ⟨hgood, by rw [List.length_append, List.length_singleton]; omega, ?_, fun j hj => ?_, ?_, hnB, ?_, ?_, ?_, ?_⟩⟩
  · unfold parentsC treeC
    rw [hold 1 (by omega)]
    exact h.root
  · rw [hold _ (by omega)]; exact h.leaf j hj
  · intro x hx p hp j hj1 hj2
    by_cases hx1 : x = (M.length : Int) + 1
    · subst hx1
      rw [hpn] at hp
      simp only [List.mem_cons, List.not_mem_nil, or_false] at hp
      rcases hp with rfl | rfl
      · exact h.tipN j (by omega) hj2
      · intro e
        have := ho.inj i j hi hj2 (by omega)
        omega
    · by_cases hx2 : x ≤ M.length
      · have hpp : parentsC (M ++ [(⟨[tip, c], T, ⟨#[]⟩⟩ : Cm)]) x = parentsC M x := by unfold parentsC; rw [hold x hx2]
        rw [hpp] at hp
        by_cases hxc : x = c
        · subst hxc
          rw [hpc, List.mem_singleton] at hp
          omega
        · refine h.clos x (fun j' h1 h2 e => ?_) p hp j (by omega) hj2
          by_cases hj' : j' = i
          · subst hj'; exact hxc (e.trans hc)
          · exact hx j' (by omega) h2 e
      · unfold parentsC at hp
        rw [getC_past (by rw [List.length_append, List.length_singleton]; omega)] at hp
        cases hp
  · intro j _ hj2
    have := ho.lt j hj2
    omega
  · have hci := parent_in hgood hnB (p := c) (by rw [hpn]; simp)
    have hc1 : (1 : Int) ∈ aheadF (M ++ [(⟨[tip, c], T, ⟨#[]⟩⟩ : Cm)]) c := parent_in hgood (by rw [List.length_append, List.length_singleton]; omega) (by
      unfold parentsC
      rw [hold c hcB.2, hlf]
      simp [leafC])
    exact aheadF_sub hgood hci _ hc1
  · unfold treeC; rw [hnew]; exact hT.symm
  · intro x hx
    rcases List.mem_append.1 hx with h1 | h1
    · rcases h.few x h1 with h2 | h2
      · exact .inl h2
      · exact .inr (by omega)
    · rw [List.mem_singleton] at h1
      subst h1
      exact .inr (by dsimp only; omega)

end Go.Proofs.YtgjbfkaepalkiaaGreatDoor

namespace Go.Proofs.YtgjbfkaepalkiaaGreatDoor
open Go.RowKit
set_option linter.unusedVariables false
set_option linter.unusedSimpArgs false
attribute [local go_sem] Oper.semAt_some

set_option maxHeartbeats 2000000 in
theorem made14_calls (v : Value) (ss : List KS) (cs : List Cm) (S : Fp) (w : World) (hR : Rd EK S w v ss) (hK : RepK S w ss cs) (hS : ∀ k, S k → k < w.heap.size) (hs : ∀ c ∈ cs, SmallC c) (hn : cs.length ≤ 100) :
    Calls Tryz.prog 32 #[v] w (MadePost S w cs) := by
  obtain ⟨A, c, rfl, hO⟩ := hR.open_
  have hlen := hO.len
  have hl := hK.len
  have HO := Lib.hid fun W (hW : Ext w W) => hO.kp (hW.mono fun _ _ _ => trivial)
  have HK := Lib.hid fun W (hW : Ext w W) => hK.ext hW
  obtain ⟨n, hxn⟩ : ∃ n, cs.length = n := ⟨_, rfl⟩
  rw [hxn] at hl hn
  rw [hl] at hlen ⊢
  have HX := Lib.hid hxn
  have HL := Lib.hid hl
  have HS := Lib.hid hS
  have HSm := Lib.hid hs
  clear hR hO hK hxn hl hS hs
  go_enter Tryz.func32, Tryz.ntmps32
  go_wp2_with fail
  refine (newR_calls 60 w (by omega)).mono ?_
  rintro e w1 hP1
  have hP1' := hP1
  obtain ⟨rfl, -⟩ := hP1'
  have HP1 := Lib.hid hP1
  go_wp2_with fail
  refine (refNew_calls 60 w1 (by omega)).mono ?_
  rintro e w2 hP2
  have hP2' := hP2
  obtain ⟨rfl, -⟩ := hP2'
  have HT := Lib.hid (TwoR.start HS.out HP1.out hP2)
  clear hP1 hP2 HP1
  go_wp2_with fail
  go_loopw [6] (fun i wr => ∃ (k : Nat) (I D D' : Fp), k ≤ n ∧ i = .int .i64 k ∧ TwoR S w wr w.heap.size w1.heap.size (madeC (cs.take k)) (madeC (cs.take k)) I D D') (fun i _ => n - (intOf i).toNat)
  case atStart => exact ⟨0, _, _, _, Nat.zero_le _, rfl, HT.out⟩
  case round =>
    obtain ⟨k, I, D, D', hk, rfl, hT⟩ := hrel
    rename World => wo
    have HTo := Lib.hid hT
    have hx := hT.x
    clear hT HT
    by_cases hlt : k < n
    · have hd : decide ((k : Int) < (n : Int)) = true := decide_eq_true (by omega)
      have hkc : k < cs.length := by have := HX.out; omega
      have hkr : k < ss.length := by have := HL.out; omega
      obtain ⟨b, off, rfl, hSb, hb, c0, c1, c2⟩ := (HO.out wo hx).rd.kom hkr
      have hRx := (HK.out wo hx).get k hkr hkc
      have hsm := HSm.out cs[k] (List.getElem_mem hkc)
      have hgood : GoodR (madeC (cs.take k)) := madeC_good fun c hc => HSm.out c (List.take_subset _ _ hc)
      have hml : (madeC (cs.take k)).length ≤ 1000 := by have := madeC_len (cs.take k); rw [List.length_take] at this; omega
      have HT1 : Hid (madeC (cs.take (k + 1)) = (addC (madeC (cs.take k)) 60 cs[k]).1) := Lib.hid (by rw [take_snoc cs hkc, madeC_snoc])
      have hA1 := addR_calls HTo.out.r ss[k] cs[k] S hRx hsm hml (by omega)
      have hlt' : (k : Int) < (n : Int) := by omega
      have h0 : (0 : Int) ≤ (k : Int) := by omega
      have hw : IntKind.i64.wrap ((k : Int) + 1) = (k : Int) + 1 := IntWalk.i64_in _ (by omega)
      have hA2 : Hid (∀ w3 I1 D1 D2, TwoR S w w3 w.heap.size w1.heap.size I1 (madeC (cs.take k)) D1 D2 D' → Ext w w3 → Calls Tryz.prog 57 #[.pointer (some ⟨w1.heap.size, 0, none⟩), ss[k].val] w3 (RefAddPost refT S D' w3 w1.heap.size (madeC (cs.take k)) 60 cs[k])) := Lib.hid fun w3 I1 D1 D2 h hx3 => refAdd_calls h.q ss[k] cs[k] ((HK.out w3 hx3).get k hkr hkc) hsm hml (by omega)
      have hSb' := HS.out b hSb
      obtain ⟨xk, hrk⟩ : ∃ x, ss[k] = x := ⟨_, rfl⟩
      rw [hrk] at c0 c1 c2 hA1 hA2
      obtain ⟨⟨pa, pn, pc⟩, ⟨ta, tn, tc⟩, nt⟩ := xk
      dsimp only [KS.val, SliceV.val] at c0 c1 c2 hA1 hA2
      generalize cs[k] = ck at HT1 hA1 hA2 hRx hsm
      have HA1 := Lib.hid hA1
      clear hRx hrk hsm hgood hA1
      go_wp2_with fail
      refine HA1.out.mono ?_
      rintro e w3 hP3
      have hP3' := hP3
      obtain ⟨rfl, -⟩ := hP3'
      obtain ⟨I1, D1, hT3⟩ := HTo.out.add HS.out hP3
      have HT3 := Lib.hid hT3
      have hbk : ∀ (i : Nat) (v : Value), wo.cell? ⟨b, i, none⟩ = some v → w3.cell? ⟨b, i, none⟩ = some v := fun i v h => by
        obtain ⟨_, _, _, _, _, _, h4⟩ := hP3
        exact (h4.cell (p := ⟨b, i, none⟩) hb fun hd => by have := HTo.out.lowD _ hd; dsimp only at this; omega).trans h
      have d0 := hbk _ _ c0
      have d1 := hbk _ _ c1
      have d2 := hbk _ _ c2
      have hA2' := Lib.hid (hA2.out w3 _ _ _ hT3 hT3.x)
      clear hP3 hT3 hbk c0 c1 c2 hA2 HA1
      go_wp2_with fail
      refine hA2'.out.mono ?_
      rintro e w4 hP4
      have hP4' := hP4
      obtain ⟨rfl, -⟩ := hP4'
      obtain ⟨D2, hT4⟩ := HT3.out.radd hP4
      have HT4 := Lib.hid hT4
      clear hP4 hT4 hA2'
      go_wp2_with fail
      go_roundw
      case rel => exact ⟨k + 1, I1, D1, D2, by omega, by go_num, by rw [HT1.out]; exact HT4.out⟩
      case measure => simp [intOf]; omega
    · have hd : decide ((k : Int) < (n : Int)) = false := decide_eq_false (by omega)
      have hall : cs.take k = cs := List.take_of_length_le (by have := HX.out; omega)
      rw [hall] at HTo
      obtain ⟨A2, c2, rows, hB2, hO2, _, hl2⟩ := HTo.out.q.rd
      have q0 : wo.cell? ⟨w1.heap.size, 0, none⟩ = some (.slice A2 (madeC cs).length c2) := hB2.cell 0
      have hln := fun k => lenR_calls (HTo.out.r.ext ((Kp.refl _ wo).drewN k))
      obtain ⟨m, hm⟩ : ∃ m, (madeC cs).length = m := ⟨_, rfl⟩
      rw [hm] at q0 hln
      have HLn := Lib.hid hln
      clear hall hB2 hO2 hl2 hm hln
      go_wp2_with fail
      go_quiet ((go_at_call 25; exact Calls.quiet_of_same ((HLn.out _).mono fun _ _ h => ⟨h.1, h.2.symm⟩)))
      have hTn := Lib.hid (HTo.out.ext ((Kp.refl _ wo).drewN nq))
      clear HLn q0
      go_wp2_with fail
      go_returns
      exact ⟨_, _, _, _, _, rfl, hTn.out⟩


end Go.Proofs.YtgjbfkaepalkiaaGreatDoor

namespace Go.Proofs.YtgjbfkaepalkiaaGreatDoor
open Go.RowKit
set_option linter.unusedVariables false
set_option linter.unusedSimpArgs false
attribute [local go_sem] Oper.semAt_some

def a14 : List File := [⟨⟨#[97]⟩, ⟨#[]⟩⟩]
def b14 : List File := [⟨⟨#[98]⟩, ⟨#[]⟩⟩]
def ab14 : List File := [⟨⟨#[97]⟩, ⟨#[]⟩⟩, ⟨⟨#[98]⟩, ⟨#[]⟩⟩]
def cs14 : List Cm := [⟨[], [], ⟨#[]⟩⟩, ⟨[1], a14, ⟨#[]⟩⟩, ⟨[1], b14, ⟨#[]⟩⟩]
theorem cs14_made : madeC cs14 = cs14 := by kernel_rfl
theorem cs14_of : ofF cs14 2 3 = (⟨[2, 3], ab14, ⟨#[]⟩⟩, [], true) := by kernel_rfl
theorem cs14_small : ∀ c ∈ cs14, SmallC c := by
  intro c hc
  simp only [cs14, List.mem_cons, List.not_mem_nil, or_false] at hc
  rcases hc with rfl | rfl | rfl
  · exact ⟨by decide, by decide, fun y hy => by cases hy⟩
  · exact ⟨by decide, by decide, fun y hy => by simp only [a14, List.mem_singleton] at hy; subst hy; decide⟩
  · exact ⟨by decide, by decide, fun y hy => by simp only [b14, List.mem_singleton] at hy; subst hy; decide⟩
theorem cs14_good : GoodR cs14 := by have := madeC_good cs14_small; rwa [cs14_made] at this

theorem sameC_refl (c : Cm) : sameC c c = true := by
  unfold sameC
  rw [decide_eq_true rfl, sameB_refl]; simp

set_option maxHeartbeats 4000000 in
theorem awake14_calls (w : World) : Calls Tryz.prog 31 #[] w (SamePost w true) := by
  go_enter Tryz.func31, Tryz.ntmps31
  go_wp2_with fail
  have hB0 := Blk.new w 3 #[.int .i64 1]
  have hx0 : Ext w (w.alloc (.cells #[.int .i64 1] 3)) := (Kp.refl _ _).alloc _
  have hz0 : (w.alloc (.cells #[.int .i64 1] 3)).heap.size = w.heap.size + 1 := by simp
  generalize w.alloc (.cells #[.int .i64 1] 3) = W0 at hB0 hx0 hz0 ⊢
  have hB1 := Blk.new W0 39 #[.string ⟨#[97]⟩, .string ⟨#[]⟩]
  have hx1 : Ext W0 (W0.alloc (.cells #[.string ⟨#[97]⟩, .string ⟨#[]⟩] 39)) := (Kp.refl _ _).alloc _
  have hz1 : (W0.alloc (.cells #[.string ⟨#[97]⟩, .string ⟨#[]⟩] 39)).heap.size = W0.heap.size + 1 := by simp
  generalize W0.alloc (.cells #[.string ⟨#[97]⟩, .string ⟨#[]⟩] 39) = W1 at hB1 hx1 hz1 ⊢
  have hB2 := Blk.new W1 3 #[.int .i64 1]
  have hx2 : Ext W1 (W1.alloc (.cells #[.int .i64 1] 3)) := (Kp.refl _ _).alloc _
  have hz2 : (W1.alloc (.cells #[.int .i64 1] 3)).heap.size = W1.heap.size + 1 := by simp
  generalize W1.alloc (.cells #[.int .i64 1] 3) = W2 at hB2 hx2 hz2 ⊢
  have hB3 := Blk.new W2 39 #[.string ⟨#[98]⟩, .string ⟨#[]⟩]
  have hx3 : Ext W2 (W2.alloc (.cells #[.string ⟨#[98]⟩, .string ⟨#[]⟩] 39)) := (Kp.refl _ _).alloc _
  have hz3 : (W2.alloc (.cells #[.string ⟨#[98]⟩, .string ⟨#[]⟩] 39)).heap.size = W2.heap.size + 1 := by simp
  generalize W2.alloc (.cells #[.string ⟨#[98]⟩, .string ⟨#[]⟩] 39) = W3 at hB3 hx3 hz3 ⊢
  have hB4 := Blk.new W3 42 #[.slice none 0 0, .slice none 0 0, .string ⟨#[]⟩, .slice (some ⟨w.heap.size, 0, none⟩) 1 1, .slice (some ⟨w.heap.size + 1, 0, none⟩) 1 1, .string ⟨#[]⟩, .slice (some ⟨w.heap.size + 1 + 1, 0, none⟩) 1 1, .slice (some ⟨w.heap.size + 1 + 1 + 1, 0, none⟩) 1 1, .string ⟨#[]⟩]
  have hx4 : Ext W3 (W3.alloc (.cells #[.slice none 0 0, .slice none 0 0, .string ⟨#[]⟩, .slice (some ⟨w.heap.size, 0, none⟩) 1 1, .slice (some ⟨w.heap.size + 1, 0, none⟩) 1 1, .string ⟨#[]⟩, .slice (some ⟨w.heap.size + 1 + 1, 0, none⟩) 1 1, .slice (some ⟨w.heap.size + 1 + 1 + 1, 0, none⟩) 1 1, .string ⟨#[]⟩] 42)) := (Kp.refl _ _).alloc _
  have hz4 : (W3.alloc (.cells #[.slice none 0 0, .slice none 0 0, .string ⟨#[]⟩, .slice (some ⟨w.heap.size, 0, none⟩) 1 1, .slice (some ⟨w.heap.size + 1, 0, none⟩) 1 1, .string ⟨#[]⟩, .slice (some ⟨w.heap.size + 1 + 1, 0, none⟩) 1 1, .slice (some ⟨w.heap.size + 1 + 1 + 1, 0, none⟩) 1 1, .string ⟨#[]⟩] 42)).heap.size = W3.heap.size + 1 := by simp
  generalize W3.alloc (.cells #[.slice none 0 0, .slice none 0 0, .string ⟨#[]⟩, .slice (some ⟨w.heap.size, 0, none⟩) 1 1, .slice (some ⟨w.heap.size + 1, 0, none⟩) 1 1, .string ⟨#[]⟩, .slice (some ⟨w.heap.size + 1 + 1, 0, none⟩) 1 1, .slice (some ⟨w.heap.size + 1 + 1 + 1, 0, none⟩) 1 1, .string ⟨#[]⟩] 42) = W4 at hB4 hx4 hz4 ⊢
  have hs1 : W0.heap.size = w.heap.size + 1 := by omega
  rw [hs1] at hB1
  have hs2 : W1.heap.size = w.heap.size + 1 + 1 := by omega
  rw [hs2] at hB2
  have hs3 : W2.heap.size = w.heap.size + 1 + 1 + 1 := by omega
  rw [hs3] at hB3
  have hs4 : W3.heap.size = w.heap.size + 1 + 1 + 1 + 1 := by omega
  rw [hs4] at hB4
  have hC0 := ((((hB0.ext hx1).ext hx2).ext hx3).ext hx4)
  have hC1 := (((hB1.ext hx2).ext hx3).ext hx4)
  have hC2 := ((hB2.ext hx3).ext hx4)
  have hC3 := (hB3.ext hx4)
  have hC4 := hB4
  have HXW := Lib.hid ((((hx0.trans hx1).trans hx2).trans hx3).trans hx4)
  have hRk : RepK (fun k => k < W4.heap.size) W4 [⟨⟨none, 0, 0⟩, ⟨none, 0, 0⟩, ⟨#[]⟩⟩, ⟨⟨some ⟨w.heap.size, 0, none⟩, 1, 1⟩, ⟨some ⟨w.heap.size + 1, 0, none⟩, 1, 1⟩, ⟨#[]⟩⟩, ⟨⟨some ⟨w.heap.size + 1 + 1, 0, none⟩, 1, 1⟩, ⟨some ⟨w.heap.size + 1 + 1 + 1, 0, none⟩, 1, 1⟩, ⟨#[]⟩⟩] cs14 := ⟨⟨Rd.nil _ _, Rd.nil _ _, rfl⟩, ⟨rd_of_blk (E := EI) (n := 1) hC0 rfl (by omega), rd_of_blk (E := EF) (n := 1) (ys := a14) hC1 rfl (by omega), rfl⟩, ⟨rd_of_blk (E := EI) (n := 1) hC2 rfl (by omega), rd_of_blk (E := EF) (n := 1) (ys := b14) hC3 rfl (by omega), rfl⟩, trivial⟩
  have hRd : Rd EK (fun k => k < W4.heap.size) W4 (.slice (some ⟨w.heap.size + 1 + 1 + 1 + 1, 0, none⟩) 3 3) [⟨⟨none, 0, 0⟩, ⟨none, 0, 0⟩, ⟨#[]⟩⟩, ⟨⟨some ⟨w.heap.size, 0, none⟩, 1, 1⟩, ⟨some ⟨w.heap.size + 1, 0, none⟩, 1, 1⟩, ⟨#[]⟩⟩, ⟨⟨some ⟨w.heap.size + 1 + 1, 0, none⟩, 1, 1⟩, ⟨some ⟨w.heap.size + 1 + 1 + 1, 0, none⟩, 1, 1⟩, ⟨#[]⟩⟩] := rd_of_blk (E := EK) (n := 3) hC4 rfl (by omega)
  have HMd := Lib.hid (made14_calls _ _ cs14 _ W4 hRd hRk (fun k hk => hk) cs14_small (by decide))
  clear hB0 hx0 hz0 hC0 hB1 hx1 hz1 hC1 hB2 hx2 hz2 hC2 hB3 hx3 hz3 hC3 hB4 hx4 hz4 hC4 hs1 hs2 hs3 hs4 hRk hRd
  refine HMd.out.mono ?_
  rintro e w1 ⟨rb, wb, I, D, D', rfl, hT⟩
  rw [cs14_made] at hT
  have HT := Lib.hid hT.r
  have HX1 := Lib.hid (HXW.out.trans hT.x)
  clear HMd hT HXW
  have hm := mergeOf_calls HT.out cs14_good (by decide) 2 3
  rw [cs14_of] at hm
  have HM := Lib.hid hm
  clear hm
  go_wp2_with fail
  refine HM.out.mono ?_
  rintro e w2 ⟨s, u, rfl, hV, hU, hx2⟩
  obtain ⟨⟨pa, pn, pc⟩, ⟨ta, tn, tc⟩, nt⟩ := s
  obtain ⟨A, n, c, rfl⟩ := hU.1.slice
  have hn0 : n = 0 := by obtain ⟨_, _, hh, _⟩ := hU.1.rd; injection hh
  subst hn0
  have hRc := hV.rd
  have HRc := Lib.hid hRc
  have HX2 := Lib.hid hx2
  clear hV hU hRc hx2 HM
  dsimp only [KS.val, SliceV.val]
  go_wp2_with fail
  have hI := (Blk.new (w2.alloc (.cells #[.slice pa pn pc, .slice ta tn tc, .string nt] 42)) 3 #[.int .i64 2, .int .i64 3]).ext ((Kp.refl _ _).alloc (.cells #[.string ⟨#[97]⟩, .string ⟨#[]⟩, .string ⟨#[98]⟩, .string ⟨#[]⟩] 39))
  have hF := Blk.new ((w2.alloc (.cells #[.slice pa pn pc, .slice ta tn tc, .string nt] 42)).alloc (.cells #[.int .i64 2, .int .i64 3] 3)) 39 #[.string ⟨#[97]⟩, .string ⟨#[]⟩, .string ⟨#[98]⟩, .string ⟨#[]⟩]
  simp only [World.size_alloc] at hI hF
  have hy : Ext w2 (((w2.alloc (.cells #[.slice pa pn pc, .slice ta tn tc, .string nt] 42)).alloc (.cells #[.int .i64 2, .int .i64 3] 3)).alloc (.cells #[.string ⟨#[97]⟩, .string ⟨#[]⟩, .string ⟨#[98]⟩, .string ⟨#[]⟩] 39)) := (((Kp.refl _ _).alloc _).alloc _).alloc _
  generalize (((w2.alloc (.cells #[.slice pa pn pc, .slice ta tn tc, .string nt] 42)).alloc (.cells #[.int .i64 2, .int .i64 3] 3)).alloc (.cells #[.string ⟨#[97]⟩, .string ⟨#[]⟩, .string ⟨#[98]⟩, .string ⟨#[]⟩] 39)) = w3 at hI hF hy ⊢
  have hSC := sameCommit_calls ⟨⟨pa, pn, pc⟩, ⟨ta, tn, tc⟩, nt⟩ ⟨⟨some ⟨w2.heap.size + 1, 0, none⟩, 2, 2⟩, ⟨some ⟨w2.heap.size + 1 + 1, 0, none⟩, 2, 2⟩, ⟨#[]⟩⟩ ⟨[2, 3], ab14, ⟨#[]⟩⟩ ⟨[2, 3], ab14, ⟨#[]⟩⟩ _ (fun k => k < w3.heap.size) w3 (HRc.out.ext hy) ⟨rd_of_blk (E := EI) (n := 2) hI rfl (by omega), rd_of_blk (E := EF) (n := 2) (ys := ab14) hF rfl (by omega), rfl⟩
  rw [sameC_refl] at hSC
  have HSC := Lib.hid hSC
  have HX3 := Lib.hid ((HX1.out.trans HX2.out).trans hy)
  have HT3 := Lib.hid (HT.out.ext (HX2.out.trans hy))
  clear hI hF hy hSC HRc HX2 HX1 HT
  refine HSC.out.mono ?_
  rintro e w4 ⟨rfl, hx4⟩
  have hcl := mergeClean_calls (HT3.out.ext hx4) cs14_good (by decide) 2 3
  rw [show cleanB (ofF cs14 2 3) = true by rw [cs14_of]; rfl] at hcl
  have HCl := Lib.hid hcl
  have HX4 := Lib.hid (HX3.out.trans hx4)
  clear hcl HSC hx4 HX3 HT3
  go_wp2_with fail
  refine HCl.out.mono ?_
  rintro e w5 ⟨rfl, hx5⟩
  go_wp2_with fail
  go_ret
  exact ⟨rfl, HX4.out.trans hx5⟩

end Go.Proofs.YtgjbfkaepalkiaaGreatDoor

namespace Go.Proofs.YtgjbfkaepalkiaaGreatDoor
open Go.RowKit
set_option linter.unusedVariables false
set_option linter.unusedSimpArgs false
attribute [local go_sem] Oper.semAt_some

structure Ent where
  num : Int
  com : Int
  lane : Int
  code : Int
def EE : El Ent := ⟨fun x => [.int .i64 x.num, .int .i64 x.com, .int .i64 x.lane, .int .i64 x.code], 4, fun _ => rfl, fun x u hu => by simp only [List.mem_cons, List.not_mem_nil, or_false] at hu; rcases hu with rfl | rfl | rfl | rfl <;> rfl⟩
theorem tiE : TI EE Tryz.prog 69 79 32 :=
  TI.mk' (z := .agg #[.int .i64 0, .int .i64 0, .int .i64 0, .int .i64 0]) Tryz.underlying69 (by kernel_rfl) (by rfl) (by decide)
theorem RdA.ent {S : Fp} {w : World} {A : Option Addr} {xs : List Ent} (h : RdA EE S w A xs) {i : Nat} (hi : i < xs.length) :
    ∃ b off, A = some ⟨b, off, none⟩ ∧ S b ∧ b < w.heap.size ∧ w.cell? ⟨b, off + i * 4, none⟩ = some (.int .i64 xs[i].num) ∧ w.cell? ⟨b, off + i * 4 + 1, none⟩ = some (.int .i64 xs[i].com) ∧ w.cell? ⟨b, off + i * 4 + 2, none⟩ = some (.int .i64 xs[i].lane) ∧ w.cell? ⟨b, off + i * 4 + 3, none⟩ = some (.int .i64 xs[i].code) := by
  obtain ⟨b, off, hA, hs, hb, hc⟩ := h.at_ hi
  exact ⟨b, off, hA, hs, hb, hc 0 _ rfl, hc 1 _ rfl, hc 2 _ rfl, hc 3 _ rfl⟩
abbrev encE (x : Ent) : Array Value := #[.agg #[.int .i64 x.num, .int .i64 x.com, .int .i64 x.lane, .int .i64 x.code]]

set_option maxHeartbeats 400000 in
/-- cortegelaw0.Each's function. -/
theorem each1_calls (b : Nat) (v : Value) (xs : List Ent) (S : Fp) (W : World) (y : Value) (hb : W.cell? ⟨b, 0, none⟩ = some v) (hSb : S b) (hR : Rd EE S W v xs)
    (I Ix : List Ent → Fp → World → Prop) (D₀ : Fp) (hI : Frames I) (hIx : Frames Ix) (h0 : I [] D₀ W) (hD : ∀ k, D₀ k → k < W.heap.size ∧ ¬ S k)
    (hy : ∀ pre x D W1, I pre D W1 → (∀ k, D k → k < W1.heap.size) → (pre ++ [x]) <+: xs → Sub D₀ D W W1 → Kp (fun k => ¬ D₀ k) W W1 → CallV Tryz.prog y (encE x) W1 fun e W2 =>
      ∃ D', Sub D D' W1 W2 ∧ Kp (fun k => ¬ D k) W1 W2 ∧ (∀ k, D' k → k < W2.heap.size) ∧ ((e = .returned (.bool true) ∧ I (pre ++ [x]) D' W2) ∨ (e = .returned (.bool false) ∧ Ix (pre ++ [x]) D' W2))) :
    Calls Tryz.prog 80 #[y, .pointer (some ⟨b, 0, none⟩)] W fun e W' => (∃ v, e = .returned v) ∧ ∃ D', Sub D₀ D' W W' ∧ Kp (fun k => ¬ D₀ k) W W' ∧ (∀ k, D' k → k < W'.heap.size) ∧ (I xs D' W' ∨ ∃ pre, pre <+: xs ∧ Ix pre D' W') := by
  obtain ⟨A, c, rfl, hO⟩ := hR.open_
  have hlen := hO.len
  refine calls_of_body Tryz.func80 rfl ?_
  simp only [Tryz.ntmps80, List.size_toArray, List.length_cons, List.length_nil, Nat.reduceAdd, Nat.reduceSub, Array.replicate_succ, Array.replicate_zero, List.push_toArray, List.append_toArray, List.nil_append, List.cons_append]
  gi_wp2_with fail
  gi_loopw [3] (fun i wr => ∃ (k : Nat) (D : Fp), k ≤ xs.length ∧ i = .int .i64 k ∧ I (xs.take k) D wr ∧ (∀ j, D j → j < wr.heap.size) ∧ Sub D₀ D W wr ∧ Kp (fun j => ¬ D₀ j) W wr) (fun i _ => xs.length - (intOf i).toNat)
  case atStart => exact ⟨0, D₀, Nat.zero_le _, rfl, h0, fun j hj => (hD j hj).1, Sub.refl _ _, Kp.refl _ _⟩
  case round =>
    obtain ⟨k, D, hk, rfl, hIk, hDk, hSub, hKp⟩ := hrel
    have hks : Kp S W wr := hKp.mono fun j hj hs hd => (hD j hd).2 hs
    have hbr : wr.cell? ⟨b, 0, none⟩ = some (.slice A xs.length c) := (hks.cell (p := ⟨b, 0, none⟩) (cell_lt hb) hSb).trans hb
    by_cases hlt : k < xs.length
    · obtain ⟨b2, off, rfl, hS2, hb2, hc0, hc1, hc2, hc3⟩ := (hO.rd.kp hks).ent hlt
      gi_wp2_with (refine listIn_callV rfl rfl y rfl _ rfl ?_)
      refine (hy (xs.take k) xs[k] D _ hIk hDk (take_snoc_prefix xs hlt) hSub hKp).mono ?_
      rintro e W2 ⟨D', hs', hk', hd', h'⟩
      have hs2 : Sub D₀ D' W W2 := hSub.trans hs' hKp.size hk'.size
      have hk2 : Kp (fun j => ¬ D₀ j) W W2 := hKp.trans' hk' fun j hj hn hd => by
        rcases hSub j hd with h | h
        · exact hn h
        · omega
      rw [← take_snoc xs hlt] at h'
      rcases h' with ⟨rfl, hI2⟩ | ⟨rfl, hIx2⟩
      · refine ⟨_, rfl, ?_⟩
        gi_wp2_with fail
        go_roundw
        case rel => exact ⟨k + 1, D', by omega, by go_num, hI2, hd', hs2, hk2⟩
        case measure => simp [intOf]; omega
      · refine ⟨_, rfl, ?_⟩
        gi_wp2_with fail
        exact leaves0 (results_none rfl _ _ _) ⟨⟨_, rfl⟩, D', hs2, hk2, hd', .inr ⟨_, List.take_prefix _ _, hIx2⟩⟩
    · gi_wp2_with fail
      have hxs : xs.take k = xs := List.take_of_length_le (by omega)
      rw [hxs] at hIk
      exact leaves0 (results_none rfl _ _ _) ⟨⟨_, rfl⟩, D, hSub, hKp, hDk, .inl hIk⟩



theorem each_calls (v : Value) (xs : List Ent) (S : Fp) (w : World) (hR : Rd EE S w v xs) :
    Calls Tryz.prog 47 #[v] w fun e w' => ∃ s, e = .returned s ∧ SeqV Tryz.prog (fun k => S k ∨ k = w.heap.size) w' s encE xs ∧ Ext w w' ∧ w'.heap.size = w.heap.size + 1 := by
  go_enter Tryz.func47, Tryz.ntmps47
  obtain ⟨A, c, rfl, hO⟩ := hR.open_
  go_wp2_with fail
  go_ret
  refine ⟨.func (.func 80) #[] #[.pointer (some ⟨w.heap.size, 0, none⟩)], rfl, ⟨⟨_, _, _, rfl⟩, ?_⟩, (Kp.refl _ w).alloc _, by simp⟩
  intro W hW y I Ix D₀ hyf hI hIx h0 hD hy
  refine callF_fn (enters_of Tryz.func80 (by kernel_rfl) rfl) (each1_calls w.heap.size (.slice A xs.length c) xs (fun k => S k ∨ k = w.heap.size) W y ?_ (.inr rfl) ?_ I Ix D₀ hI hIx h0 hD hy)
  · exact (hW.cell (p := ⟨w.heap.size, 0, none⟩) (by simp) (.inr rfl)).trans (by simp)
  · exact ((hR.kp ((Kp.refl _ w).alloc _)).wide (fun k hk => .inl hk)).kp hW

/-- What Take keeps: how many are left. -/
def LeftI (b n : Nat) (I : List Ent → Fp → World → Prop) (pre : List Ent) (D : Fp) (W : World) : Prop :=
  ∃ Do, I pre Do W ∧ (∀ k, D k ↔ Do k ∨ k = b) ∧ ¬ Do b ∧ Blk W b 3 #[.int .i64 ((n : Int) - (pre.length : Int))] ∧ pre.length < n
theorem LeftI.frames {b n : Nat} {I : List Ent → Fp → World → Prop} (hI : Frames I) : Frames (LeftI b n I) := by
  rintro pre D W W' ⟨Do, h1, h2, h3, h4, h5⟩ hD hk
  exact ⟨Do, hI _ _ _ _ h1 (fun k hk => hD k ((h2 k).2 (.inl hk))) (hk.mono fun k _ hd => (h2 k).2 (.inl hd)), h2, h3, h4.kp hk ((h2 b).2 (.inr rfl)), h5⟩

set_option maxHeartbeats 800000 in
/-- seq.Take's function. -/
theorem takeE1_calls (b1 b2 : Nat) (s : Value) (ni : Int) (hn0 : ni ≤ 1000000) (xs : List Ent) (S : Fp) (W : World) (y : Value) (hyf : ∃ f a b, y = .func f a b) (h1 : W.cell? ⟨b1, 0, none⟩ = some s) (h2 : W.cell? ⟨b2, 0, none⟩ = some (.int .i64 ni)) (hS1 : S b1) (hS2 : S b2) (hSW : ∀ k, S k → k < W.heap.size)
    (hs : SeqV Tryz.prog S W s encE xs)
    (I Ix : List Ent → Fp → World → Prop) (D₀ : Fp) (hI : Frames I) (hIx : Frames Ix) (h0 : I [] D₀ W) (hD : ∀ k, D₀ k → k < W.heap.size ∧ ¬ S k)
    (hy : ∀ pre x D W1, I pre D W1 → (∀ k, D k → k < W1.heap.size) → (pre ++ [x]) <+: xs.take ni.toNat → Sub D₀ D W W1 → Kp (fun k => ¬ D₀ k) W W1 → CallV Tryz.prog y (encE x) W1 fun e W2 =>
      ∃ D', Sub D D' W1 W2 ∧ Kp (fun k => ¬ D k) W1 W2 ∧ (∀ k, D' k → k < W2.heap.size) ∧ ((e = .returned (.bool true) ∧ I (pre ++ [x]) D' W2) ∨ (e = .returned (.bool false) ∧ Ix (pre ++ [x]) D' W2))) :
    Calls Tryz.prog 126 #[y, .pointer (some ⟨b2, 0, none⟩), .pointer (some ⟨b1, 0, none⟩)] W fun e W' => (∃ v, e = .returned v) ∧ ∃ D', Sub D₀ D' W W' ∧ Kp (fun k => ¬ D₀ k) W W' ∧ (∀ k, D' k → k < W'.heap.size) ∧ (I (xs.take ni.toNat) D' W' ∨ ∃ pre, pre <+: xs.take ni.toNat ∧ Ix pre D' W') := by
  obtain ⟨sf, sa, sb, rfl⟩ := hs.isf
  obtain ⟨yf, ya, yb, rfl⟩ := hyf
  have hb1 := cell_lt h1
  have hb2 := cell_lt h2
  dsimp only at hb1 hb2
  have hnil := run_eql_func_nil (P := Tryz.prog) 73 ⟨_, _, _, Tryz.underlying73⟩
  refine calls_of_body Tryz.func126 rfl ?_
  simp only [Tryz.ntmps126, List.size_toArray, List.length_cons, List.length_nil, Nat.reduceAdd, Nat.reduceSub, Array.replicate_succ, Array.replicate_zero, List.push_toArray, List.append_toArray, List.nil_append, List.cons_append]
  by_cases hn : ni < 1
  · have hd1 : decide (ni < 1) = true := decide_eq_true hn
    have hn' : ni.toNat = 0 := by omega
    rw [hn']
    gi_wp2_with fail
    have hx : Ext W ((W.alloc (Obj.cells #[Value.func yf ya yb] 81)).alloc (Obj.cells #[Value.int IntKind.i64 ni] 3)) := ((Kp.refl _ _).alloc _).alloc _
    exact leaves0 (results_none rfl _ _ _) ⟨⟨_, rfl⟩, D₀, fun k hk => .inl hk, Kp.of_ext hx, fun k hk => hx.lt (hD k hk).1, .inl (hI _ _ _ _ h0 (fun k hk => (hD k hk).1) (Kp.of_ext hx))⟩
  · obtain ⟨n, rfl⟩ : ∃ n : Nat, ni = n := ⟨ni.toNat, by omega⟩
    rw [Int.toNat_natCast] at hy ⊢
    have hd1 : decide ((n : Int) < 1) = false := decide_eq_false (by omega)
    have hd2 : decide (n < 1) = false := decide_eq_false (by omega)
    gi_wp2_with fail
    clear hnil
    have hbox := (Blk.new W 81 #[Value.func yf ya yb]).ext ((Kp.refl _ _).alloc (.cells #[Value.int .i64 n] 3))
    have hleft := Blk.new (W.alloc (.cells #[Value.func yf ya yb] 81)) 3 #[Value.int .i64 n]
    simp only [World.size_alloc] at hleft
    have hx0 : Ext W ((W.alloc (.cells #[Value.func yf ya yb] 81)).alloc (.cells #[Value.int .i64 n] 3)) := ((Kp.refl _ W).alloc _).alloc _
    have hz0 : ((W.alloc (.cells #[Value.func yf ya yb] 81)).alloc (.cells #[Value.int .i64 n] 3)).heap.size = W.heap.size + 2 := by simp
    generalize hW0 : (W.alloc (.cells #[Value.func yf ya yb] 81)).alloc (.cells #[Value.int .i64 n] 3) = W0 at hbox hleft hx0 hz0 ⊢
    clear hW0
    refine range_wp (fv := .func sf sa sb) rfl (hs.later (Kp.of_ext hx0)) (fun k hk => by have := hSW k hk; omega) (fun _ => rfl) (LeftI (W.heap.size + 1) n I) (fun c pre D W' => c = .ret ∧ ∃ q, q <+: xs.take n ∧ ((q = xs.take n ∧ I q D W') ∨ Ix q D W'))
      (LeftI.frames hI) (fun c pre D W1 W2 ⟨hc, q, hq, h⟩ hd hk => ⟨hc, q, hq, h.imp (fun h => ⟨h.1, hI _ _ _ _ h.2 hd hk⟩) fun h => hIx _ _ _ _ h hd hk⟩) (fun k => D₀ k ∨ k = W.heap.size + 1) ⟨D₀, hI _ _ _ _ h0 (fun k hk => (hD k hk).1) (Kp.of_ext hx0), fun k => Iff.rfl, fun h => by have := (hD _ h).1; omega, by simpa using hleft, by simp; omega⟩ (fun k hk => ⟨by rcases hk with hk | rfl; exact hx0.lt (hD k hk).1; omega, fun h => by rcases hk with hk | rfl; exact (hD k hk).2 h; have := hSW _ h; omega⟩) ?round ?done ?stop
    case round =>
      intro l pre x D Wr hIr hDr hpre hsub hkp hl hlt hnl K hK
      gi_wp2_with fail
      refine hK _ _ ((Kp.refl _ Wr).alloc _) ?_
      intro W₂ hk2 hsz hrec
      clear hK hrec
      obtain ⟨Do, hIo, hDo, hno, hle, hpl⟩ := hIr
      have hWW : Kp (fun k => k ≠ l) Wr W₂ := (Kp.of_ext ((Kp.refl _ Wr).alloc _)).trans hk2
      have hx := (Blk.new Wr 79 #[.int .i64 x.num, .int .i64 x.com, .int .i64 x.lane, .int .i64 x.code]).kp hk2 (by simp; omega)
      have hbox2 := (hbox.kp hkp (by rintro (h | h); have := (hD _ h).1; omega; omega)).kp hWW (by omega)
      have hl2 := hle.kp hWW (by omega)
      have c0 : W₂.cell? ⟨W.heap.size + 1, 0, none⟩ = some (.int .i64 ((n : Int) - (pre.length : Int))) := hl2.cell0
      have f0 := hl2.frozen 0
      obtain ⟨p, hp⟩ : ∃ p, pre.length = p := ⟨_, rfl⟩
      rw [hp] at c0 hpl
      have hws : IntKind.i64.wrap ((n : Int) - (p : Int) - 1) = (n : Int) - (p : Int) - 1 := IntWalk.i64_in _ (by omega)
      have hset : Blk (W₂.setCell ⟨W.heap.size + 1, 0, none⟩ (.int .i64 ((n : Int) - (p : Int) - 1))) (W.heap.size + 1) 3 #[.int .i64 ((n : Int) - (p : Int) - 1)] := by have := hl2.set_ 0 (.int .i64 ((n : Int) - (p : Int) - 1)); simpa using this
      have hks : Kp (fun k => k ≠ W.heap.size + 1) W₂ (W₂.setCell ⟨W.heap.size + 1, 0, none⟩ (.int .i64 ((n : Int) - (p : Int) - 1))) := (Kp.refl _ W₂).setCell (.inr (by simp)) _
      have hI2 : I pre Do W₂ := hI _ _ _ _ hIo (fun k hk => hDr k ((hDo k).2 (.inl hk))) (hWW.mono fun k _ hk => by rintro rfl; exact hnl ((hDo _).2 (.inl hk)))
      have hD2 : ∀ k, Do k → k < W₂.heap.size := fun k hk => hWW.lt (hDr k ((hDo k).2 (.inl hk)))
      have hzr := hkp.size
      have hz2 := hWW.size
      have hk02 : Kp (fun k => ¬ D₀ k) W W₂ := ((Kp.of_ext hx0).trans' hkp fun k hk hn h => by rcases h with h | h; exact hn h; omega).trans' hWW fun k hk _ => by omega
      have hsW : ∀ k, Do k → D₀ k ∨ (W.heap.size ≤ k ∧ k < W₂.heap.size) := fun k hk => by
        rcases hsub k ((hDo k).2 (.inl hk)) with (h | h) | h
        · exact .inl h
        · subst h; exact absurd hk hno
        · exact .inr ⟨by omega, by omega⟩
      have HK2 := Lib.hid hks
      have HSET := Lib.hid hset
      clear hWW hkp hle hl2 hk2 hsz hbox hleft hset hks
      have hb0 := hbox2.cell0
      have x0 : W₂.cell? ⟨Wr.heap.size, 0, none⟩ = some (.int .i64 x.num) := hx.cell 0
      have x1 : W₂.cell? ⟨Wr.heap.size, 1, none⟩ = some (.int .i64 x.com) := hx.cell 1
      have x2 : W₂.cell? ⟨Wr.heap.size, 2, none⟩ = some (.int .i64 x.lane) := hx.cell 2
      have x3 : W₂.cell? ⟨Wr.heap.size, 3, none⟩ = some (.int .i64 x.code) := hx.cell 3
      have hne1 : Wr.heap.size ≠ W.heap.size + 1 := by omega
      have hne2 : W.heap.size ≠ W.heap.size + 1 := by omega
      gi_wp2_with (refine listInR_callV rfl rfl (.func yf ya yb) rfl _ rfl ?_)
      generalize (W₂.setCell ⟨W.heap.size + 1, 0, none⟩ (.int .i64 ((n : Int) - (p : Int) - 1))) = W3 at HK2 HSET ⊢
      have hz3 := HK2.out.size
      have hpf : (pre ++ [x]) <+: xs.take n := List.prefix_take_iff.2 ⟨hpre, by simp; omega⟩
      refine (hy pre x Do W3 (hI _ _ _ _ hI2 hD2 (HK2.out.mono fun k _ hk => by rintro rfl; exact hno hk)) (fun k hk => HK2.out.lt (hD2 k hk)) hpf (fun k hk => (hsW k hk).imp id fun h => ⟨h.1, by omega⟩) (hk02.trans' HK2.out fun k hk _ => by omega)).mono ?_
      rintro e W4 ⟨D', hs4, hk4, hl4, h4⟩
      have hz4 := hk4.size
      have hB4 := HSET.out.kp hk4 hno
      have c4 := hB4.cell0
      have hsub4 : Sub (fun k => D k ∨ (Wr.heap.size ≤ k ∧ k < (Wr.alloc (.cells #[.int .i64 x.num, .int .i64 x.com, .int .i64 x.lane, .int .i64 x.code] 79)).heap.size)) (fun k => D' k ∨ k = W.heap.size + 1) W₂ W4 := fun k hk => by
        rcases hk with hk | rfl
        · rcases hs4 k hk with h | h
          · exact .inl (.inl ((hDo k).2 (.inl h)))
          · exact .inr ⟨by omega, h.2⟩
        · exact .inl (.inl ((hDo _).2 (.inr rfl)))
      have hkp4 : Kp (fun k => ¬ (D k ∨ (Wr.heap.size ≤ k ∧ k < (Wr.alloc (.cells #[.int .i64 x.num, .int .i64 x.com, .int .i64 x.lane, .int .i64 x.code] 79)).heap.size))) W₂ W4 := (HK2.out.mono fun k _ hn => by rintro rfl; exact hn (.inl ((hDo _).2 (.inr rfl)))).trans' hk4 fun k _ hn h => hn (.inl ((hDo k).2 (.inl h)))
      have hlt4 : ∀ k, (D' k ∨ k = W.heap.size + 1) → k < W4.heap.size := fun k hk => by rcases hk with hk | rfl; exact hl4 k hk; omega
      have hno4 : ¬ D' (W.heap.size + 1) := fun h => by rcases hs4 _ h with h | h; exact hno h; omega
      have hpl1 : (pre ++ [x]).length = p + 1 := by rw [List.length_append, hp]; rfl
      rcases h4 with ⟨rfl, h4⟩ | ⟨rfl, h4⟩
      · refine ⟨_, rfl, ?_⟩
        by_cases hl1 : p + 1 < n
        · have hdl : decide ((n : Int) - (p : Int) - 1 < 1) = false := decide_eq_false (by omega)
          gi_wp2_with fail
          have e : (n : Int) - ((p + 1 : Nat) : Int) = (n : Int) - (p : Int) - 1 := by omega
          exact ⟨_, hsub4, hkp4, hlt4, D', h4, fun k => Iff.rfl, hno4, by rw [hpl1, e]; exact hB4, by rw [hpl1]; exact hl1⟩
        · have hdl : decide ((n : Int) - (p : Int) - 1 < 1) = true := decide_eq_true (by omega)
          gi_wp2_with fail
          have hfull : pre ++ [x] = xs.take n := hpf.eq_of_length_le (by rw [hpl1, List.length_take]; omega)
          exact ⟨D', fun k hk => hsub4 k (.inl hk), hkp4, hl4, rfl, _, hpf, .inl ⟨hfull, h4⟩⟩
      · refine ⟨_, rfl, ?_⟩
        gi_wp2_with fail
        exact ⟨D', fun k hk => hsub4 k (.inl hk), hkp4, hl4, rfl, _, hpf, .inr h4⟩
    case done =>
      intro q D' W' hId hsub hkp hlt hq hnq hblk
      obtain ⟨Do, hIo, hDo, hno, hle, hpl⟩ := hId
      gi_wp2_with fail
      have hzr := hkp.size
      have ht : xs.take n = xs := List.take_of_length_le (by omega)
      refine leaves1 hblk fun W3 hk3 hz3 => ⟨_, results_none rfl _ _ _, ⟨_, rfl⟩, Do, fun k hk => ?_, ((Kp.of_ext hx0).trans' hkp fun k hk hn h => by rcases h with h | h; exact hn h; omega).trans' hk3 (fun k hk _ => by omega), fun k hk => by have := hlt k ((hDo k).2 (.inl hk)); omega, .inl (by rw [ht]; exact hI _ _ _ _ hIo (fun k hk => hlt k ((hDo k).2 (.inl hk))) (hk3.mono fun k _ hk => by rintro rfl; exact hnq ((hDo _).2 (.inl hk))))⟩
      rcases hsub k ((hDo k).2 (.inl hk)) with (h | h) | h
      · exact .inl h
      · subst h; exact absurd hk hno
      · exact .inr ⟨by omega, by omega⟩
    case stop =>
      rintro q c pre D' W' hpre ⟨rfl, r, hr, hIr⟩ hsub hkp hlt hq hnq hblk
      gi_wp2_with fail
      have hzr := hkp.size
      have hkf : ∀ W3, Kp (fun k => k ≠ q) W' W3 → Kp (fun k => ¬ D₀ k) W W3 := fun W3 hk3 => ((Kp.of_ext hx0).trans' hkp fun k hk hn h => by rcases h with h | h; exact hn h; omega).trans' hk3 (fun k hk _ => by omega)
      have hkD : ∀ W3, Kp (fun k => k ≠ q) W' W3 → Kp D' W' W3 := fun W3 hk3 => hk3.mono fun k _ hk => by rintro rfl; exact hnq hk
      refine leaves1 hblk fun W3 hk3 hz3 => ⟨_, results_none rfl _ _ _, ⟨_, rfl⟩, D', fun k hk => ?_, hkf W3 hk3, fun k hk => by have := hlt k hk; omega, ?_⟩
      · rcases hsub k hk with (h | h) | h
        · exact .inl h
        · exact .inr ⟨by omega, by omega⟩
        · exact .inr ⟨by omega, by omega⟩
      · rcases hIr with ⟨rfl, hIr⟩ | hIr
        · exact .inl (hI _ _ _ _ hIr hlt (hkD W3 hk3))
        · exact .inr ⟨r, hr, hIx _ _ _ _ hIr hlt (hkD W3 hk3)⟩

theorem takeE_calls (s : Value) (n : Int) (hn : n ≤ 1000000) (xs : List Ent) (S : Fp) (w : World) (hs : SeqV Tryz.prog S w s encE xs) (hS : ∀ k, S k → k < w.heap.size) :
    Calls Tryz.prog 78 #[s, .int .i64 n] w fun e w' => ∃ u, e = .returned u ∧ SeqV Tryz.prog (fun k => S k ∨ (w.heap.size ≤ k ∧ k < w'.heap.size)) w' u encE (xs.take n.toNat) ∧ Ext w w' := by
  obtain ⟨sf, sa, sb, rfl⟩ := hs.isf
  go_enter Tryz.func78, Tryz.ntmps78
  go_wp2_with fail
  go_ret
  have hx : Ext w ((w.alloc (.cells #[.func sf sa sb] 73)).alloc (.cells #[.int .i64 n] 3)) := ((Kp.refl _ w).alloc _).alloc _
  refine ⟨.func (.func 126) #[] #[.pointer (some ⟨w.heap.size + 1, 0, none⟩), .pointer (some ⟨w.heap.size, 0, none⟩)], rfl, ⟨⟨_, _, _, rfl⟩, ?_⟩, hx⟩
  intro W hW y I Ix D₀ hyf hI hIx h0 hD hy
  have hz := hW.size
  simp only [World.size_alloc] at hz
  have hb1 := ((Blk.new w 73 #[.func sf sa sb]).ext ((Kp.refl _ _).alloc (.cells #[.int .i64 n] 3))).kp hW (.inr ⟨Nat.le_refl _, by simp; omega⟩)
  have hb2 := (Blk.new (w.alloc (.cells #[.func sf sa sb] 73)) 3 #[.int .i64 n]).kp hW (.inr ⟨by simp, by simp⟩)
  simp only [World.size_alloc] at hb2
  have hk : Kp S w W := (Kp.of_ext hx).trans' hW fun k _ h => .inl h
  refine callF_fn (enters_of Tryz.func126 (by kernel_rfl) rfl) (takeE1_calls w.heap.size (w.heap.size + 1) (.func sf sa sb) n hn xs (fun k => S k ∨ (w.heap.size ≤ k ∧ k < w.heap.size + 1 + 1)) W y hyf hb1.cell0 hb2.cell0 (.inr ⟨by omega, by omega⟩) (.inr ⟨by omega, by omega⟩) ?_ ((hs.later hk).wide fun k h => .inl h) I Ix D₀ hI hIx h0 ?_ hy)
  · rintro k (h | h)
    · have := hS k h; omega
    · omega
  · intro k hk
    have := hD k hk
    simpa using this

end Go.Proofs.YtgjbfkaepalkiaaGreatDoor

namespace Go.Proofs.YtgjbfkaepalkiaaGreatDoor
open Go.RowKit
set_option linter.unusedVariables false
set_option linter.unusedSimpArgs false

/-- A car. -/
structure Car where
  ent : Int
  com : Int
  merge : Cm
  code : Int
/-- A candidate's merge with a tip. -/
def carF (M : List Cm) (tip : Int) (e : Ent) (room : Bool) : Car :=
  if (ofF M tip e.com).2.2 = false ∨ (aheadF M tip).contains e.com = true then ⟨e.num, e.com, noC, 3⟩
  else if (ofF M tip e.com).2.1 ≠ [] then ⟨e.num, e.com, noC, 9⟩
  else if room = false ∧ findC M (ofF M tip e.com).1 = 0 then ⟨e.num, e.com, noC, 4⟩
  else ⟨e.num, e.com, (ofF M tip e.com).1, 7⟩
structure TSt where
  M : List Cm
  tip : Int
  l : List Car
  off : Bool
/-- A candidate more. -/
def stepT (room : Bool) (R : Nat) (s : TSt) (e : Ent) : TSt :=
  if s.off = true then s
  else if (carF s.M s.tip e (!s.l.isEmpty || room)).code = 7 then
    ⟨(addC s.M R (carF s.M s.tip e (!s.l.isEmpty || room)).merge).1, ((addC s.M R (carF s.M s.tip e (!s.l.isEmpty || room)).merge).2.1 : Int), s.l ++ [carF s.M s.tip e (!s.l.isEmpty || room)], false⟩
  else if s.l.isEmpty = true then ⟨s.M, s.tip, [carF s.M s.tip e (!s.l.isEmpty || room)], true⟩
  else ⟨s.M, s.tip, s.l, true⟩
def startT (M : List Cm) (tip : Int) : TSt := ⟨M, tip, [], false⟩
def runT (room : Bool) (R : Nat) (M : List Cm) (tip : Int) (es : List Ent) : TSt := es.foldl (stepT room R) (startT M tip)
/-- A train. -/
def trainF (M : List Cm) (tip : Int) (es : List Ent) (most : Int) : List Car :=
  (runT (decide (M.length < 60)) (60 + (min most 6).toNat) M tip (es.take (min most 6).toNat)).l

theorem runT_snoc {room : Bool} {R : Nat} {M : List Cm} {tip : Int} (es : List Ent) (e : Ent) : runT room R M tip (es ++ [e]) = stepT room R (runT room R M tip es) e := by simp [runT, List.foldl_append]
theorem stepT_off {room : Bool} {R : Nat} {s : TSt} {e : Ent} (h : s.off = true) : stepT room R s e = s := if_pos h
theorem foldT_off {room : Bool} {R : Nat} : ∀ (es : List Ent) {s : TSt}, s.off = true → es.foldl (stepT room R) s = s
  | [], _, _ => rfl
  | e :: es, s, h => by rw [List.foldl_cons, stepT_off h]; exact foldT_off es h
theorem runT_off {room : Bool} {R : Nat} {M : List Cm} {tip : Int} {pre es : List Ent} (hp : pre <+: es) (h : (runT room R M tip pre).off = true) : runT room R M tip es = runT room R M tip pre := by
  obtain ⟨q, rfl⟩ := hp
  unfold runT at h ⊢
  rw [List.foldl_append]
  exact foldT_off q h

section
variable {M : List Cm} {tip : Int} {e : Ent} {room : Bool}
theorem carF_num : (carF M tip e room).ent = e.num ∧ (carF M tip e room).com = e.com := by
  unfold carF
  split
  · exact ⟨rfl, rfl⟩
  · split
    · exact ⟨rfl, rfl⟩
    · split <;> exact ⟨rfl, rfl⟩
theorem carF_pend (h : (carF M tip e room).code = 7) : ((1 ≤ tip ∧ tip ≤ M.length) ∧ 1 ≤ e.com ∧ e.com ≤ M.length) ∧ (ofF M tip e.com).2.1 = [] ∧ (carF M tip e room).merge = (ofF M tip e.com).1 ∧ (aheadF M tip).contains e.com = false := by
  unfold carF at h ⊢
  split at h
  · cases h
  · rename_i h1
    split at h
    · cases h
    · rename_i h2
      split at h
      · cases h
      · rename_i h3
        rw [if_neg h1, if_neg h2, if_neg h3]
        have h4 : ¬ (ofF M tip e.com).2.2 = false := fun h => h1 (.inl h)
        have h5 : (getC M tip).isSome = true ∧ (getC M e.com).isSome = true := Classical.byContradiction fun hn => h4 (by rw [ofF_not hn])
        exact ⟨⟨(getC_isSome M tip).1 h5.1, (getC_isSome M e.com).1 h5.2⟩, Classical.byContradiction h2, rfl, by
          cases hc : (aheadF M tip).contains e.com with
          | false => rfl
          | true => exact absurd (.inr hc) h1⟩
theorem carF_else (h : (carF M tip e room).code ≠ 7) : (carF M tip e room).merge = noC := by
  unfold carF at h ⊢
  split
  · rfl
  · rename_i h1
    rw [if_neg h1] at h
    split
    · rfl
    · rename_i h2
      rw [if_neg h2] at h
      split
      · rfl
      · rename_i h3
        rw [if_neg h3] at h
        exact absurd rfl h
theorem carF_small (hG : GoodR M) (h : (carF M tip e room).code = 7) : SmallC (carF M tip e room).merge := by
  obtain ⟨⟨h1, h2⟩, h3, h4, _⟩ := carF_pend h
  rw [h4]
  exact (ofF_may hG h1 h2 h3).2
end

/-- What holds of a train that is made. -/
structure GoodT (n : Nat) (k : Nat) (s : TSt) : Prop where
  good : GoodR s.M
  len : s.M.length ≤ n + s.l.length
  few : s.l.length ≤ k
  on : s.off = false → s.l.length = k
theorem stepT_good {room : Bool} {R n k : Nat} {s : TSt} {e : Ent} (h : GoodT n k s) : GoodT n (k + 1) (stepT room R s e) := by
  unfold stepT
  split
  · rename_i h1
    exact ⟨h.good, h.len, by have := h.few; omega, fun h2 => by rw [h1] at h2; cases h2⟩
  · rename_i h1
    have hon := h.on (by simpa using h1)
    split
    · rename_i h2
      have hl := (addC_len s.M R (carF s.M s.tip e (!s.l.isEmpty || room)).merge).1
      have := h.len
      refine ⟨addC_good h.good (carF_small h.good h2) R, ?_, ?_, fun _ => ?_⟩
      · simp only [List.length_append, List.length_singleton]; omega
      · simp only [List.length_append, List.length_singleton]; omega
      · simp only [List.length_append, List.length_singleton]; omega
    · split
      · rename_i h3
        have h4 : s.l = [] := by simpa using h3
        have hl0 : s.l.length = 0 := by rw [h4]; rfl
        have := h.len
        exact ⟨h.good, by show s.M.length ≤ n + 1; omega, by show 1 ≤ k + 1; omega, fun h5 => by cases h5⟩
      · exact ⟨h.good, h.len, by have := h.few; show s.l.length ≤ k + 1; omega, fun h5 => by cases h5⟩
theorem runT_good {room : Bool} {R : Nat} {M : List Cm} {tip : Int} (hG : GoodR M) (es : List Ent) : GoodT M.length es.length (runT room R M tip es) := by
  refine snocInd (p := fun es => GoodT M.length es.length (runT room R M tip es)) ?_ (fun l x ih => ?_) es
  · exact ⟨hG, by show M.length ≤ M.length + 0; omega, Nat.le_refl _, fun _ => rfl⟩
  · rw [runT_snoc, List.length_append, List.length_singleton]
    exact stepT_good ih

end Go.Proofs.YtgjbfkaepalkiaaGreatDoor
