/-
  dag.Is. cortegelaw0.Low. OverFiles. What the merge laws share. merge.Of, merge.Clean. merge.Clean; SameCommit, OverInts, OverCommit. Plain: merges: which one is which does not matter; what is merged may be a commit. made, of the law package 14. cortegelaw14: awake. Plain: a merge put into the repository: merged again nothing changes. MergeAhead: the walk.
-/
import Derived.Test.YtgjbfkaepalkiaaGreatDoorDag
import Derived.Test.YtgjbfkaepalkiaaGreatDoorLaw0
import Derived.Test.YtgjbfkaepalkiaaGreatDoorConcat
import Derived.Test.YtgjbfkaepalkiaaGreatDoorMade
import Derived.Test.YtgjbfkaepalkiaaGreatDoorAwake13
import Derived.Deep.RegionHeld3
import Derived.Handy
import Derived.Test.YtgjbfkaepalkiaaGreatDoorGreat
import Derived.Test.YtgjbfkaepalkiaaGreatDoorRepo4
namespace Go.Proofs.YtgjbfkaepalkiaaGreatDoor
open Go.RowKit
set_option linter.unusedVariables false
set_option linter.unusedSimpArgs false
attribute [local go_sem] Oper.semAt_some

/-- One result that lies in a variable. -/
theorem results_cell1 {fn : Func} {t : Tmp} {ty : TypeId} (h : fn.results = #[.cell t ty]) {tmps : Array Value} {P : Program} {w : World} (ha : ∀ w, (isAgg ty).run P w = .ok false w)
    {p : Addr} {v : Value} (ht : tmps.getD t undef = .pointer (some p)) (hv : w.cell? p = some v) : (results fn tmps).run P w = .ok v w := by
  have ht' : tmps[t]?.getD undef = .pointer (some p) := by simpa using ht
  simp only [results, h]
  simp [Sem.run_bind, Result.andThen, ht', loadVar, ha, asAddr, load, Sem.run, hv]

section
variable {I D : Fp} {rb : Nat} {cs : List Cm} {room : Nat} {w : World}
set_option maxHeartbeats 1000000 in
theorem isR_calls (h : RepoX repoT I D w rb cs room) (hG : GoodR cs) (hn : cs.length ≤ 300) (a b : Int) : Calls Tryz.prog 30 #[.pointer (some ⟨rb, 0, none⟩), .int .i64 a, .int .i64 b] w fun e w' => e = .returned (.bool ((aheadF cs b).contains a)) ∧ Ext w w' := by
  have HA := Lib.hid fun W (hW : Ext w W) => ahead_calls (h.ext hW) hG hn b
  have hDI : ∀ k, (D k ∨ I k) → k < w.heap.size := fun k hk => hk.elim (h.ld k) (h.li k)
  clear h hG
  refine calls_of_body Tryz.func30 rfl ?_
  simp only [Tryz.ntmps30, List.size_toArray, List.length_cons, List.length_nil, Nat.reduceAdd, Nat.reduceSub, Array.replicate_succ, Array.replicate_zero, List.push_toArray, List.append_toArray, List.nil_append, List.cons_append]
  gi_wp2_with fail
  have hx0 : Ext w ((w.alloc (.cells #[.int .i64 a] 3)).alloc (.cells #[.bool false] 4)) := ((Kp.refl _ w).alloc _).alloc _
  have hB1 := (Blk.new w 3 #[.int .i64 a]).ext ((Kp.refl _ _).alloc (.cells #[.bool false] 4))
  have hB2 := Blk.new (w.alloc (.cells #[.int .i64 a] 3)) 4 #[.bool false]
  rw [World.size_alloc] at hB2
  generalize ((w.alloc (.cells #[.int .i64 a] 3)).alloc (.cells #[.bool false] 4)) = w0 at hx0 hB1 hB2 ⊢
  refine wide_call ((HA.out _ hx0).mono ?_)
  rintro e w1 ⟨u, rfl, hs, hx1⟩
  obtain ⟨sf, sa, sb, rfl⟩ := hs.isf
  have hb2l := hB2.lt
  have hz1 := hx1.size
  have hx01 := hx0.trans hx1
  have hC1 := hB1.ext hx1
  have hC2 := hB2.ext hx1
  clear HA hB1 hB2
  gi_wp2_with fail
  refine range_wp (fv := .func sf sa sb) rfl hs (fun k hk => by
    rcases hk with hk | hk
    · have := hDI k hk; have := hx01.size; omega
    · omega) (fun _ => rfl)
    (fun pre E W => Blk W w.heap.size 3 #[.int .i64 a] ∧ Blk W (w.heap.size + 1) 4 #[.bool false] ∧ a ∉ pre ∧ E w.heap.size ∧ E (w.heap.size + 1))
    (fun c pre E W => c = .ret ∧ Blk W (w.heap.size + 1) 4 #[.bool true] ∧ a ∈ pre ∧ E (w.heap.size + 1))
    (fun pre E W W' ⟨h1, h2, h3, h4, h5⟩ _ hk => ⟨h1.kp hk h4, h2.kp hk h5, h3, h4, h5⟩) (fun c pre E W W' ⟨h1, h2, h3, h5⟩ _ hk => ⟨h1, h2.kp hk h5, h3, h5⟩)
    (fun k => k = w.heap.size ∨ k = w.heap.size + 1) ⟨hC1, hC2, by simp, .inl rfl, .inr rfl⟩ (fun k hk => ⟨by omega, fun h => by
      rcases h with h | h
      · have := hDI k h; omega
      · omega⟩) ?round ?done ?stop
  case round =>
    intro l pre x E W hI hE hpre hsub hkp hl hlt hnl K hK
    gi_wp2_with fail
    refine hK _ _ (Kp.refl _ W) ?_
    intro W₂ hk2 hsz hrec
    obtain ⟨h1, h2, h3, h4, h5⟩ := hI
    have g1 := h1.kp hk2 (fun e => hnl (e ▸ h4))
    have g2 := h2.kp hk2 (fun e => hnl (e ▸ h5))
    have c1 := g1.cell0
    have c2 := g2.cell0
    have f2 := g2.frozen 0
    have HE := Lib.hid (show ∀ k, E k → k < W₂.heap.size from fun k hk => hk2.lt (hE k hk))
    clear hK hE hpre hsub hkp hrec hs h1 h2 hk2
    by_cases he : x = a
    · subst he
      have hde : (x == x) = true := by simp
      gi_wp2_with fail
      exact ⟨E, fun k hk => .inl (.inl hk), (Kp.refl _ _).setCell (.inr fun h => h (.inl h5)) _, fun k hk => by have := HE.out k hk; simpa using this, rfl, g2.set_ 0 _, by simp, h5⟩
    · have hde : (x == a) = false := by rw [beq_eq_false_iff_ne]; exact he
      gi_wp2_with fail
      refine ⟨E, fun k hk => .inl (.inl hk), Kp.refl _ _, HE.out, g1, g2, ?_, h4, h5⟩
      intro hm
      rcases List.mem_append.1 hm with hm | hm
      · exact h3 hm
      · exact he (List.mem_singleton.1 hm).symm
  case done =>
    intro q E W' hI hsub hkp hlt hq hnq hblk
    obtain ⟨h1, h2, h3, h4, h5⟩ := hI
    have c2 := h2.cell0
    have f2 := h2.frozen 0
    have hr : (aheadF cs b).contains a = false := by simpa using h3
    have HR := Lib.hid hr
    have hqb : w.heap.size + 1 ≠ q := fun e => hnq (e ▸ h5)
    have hblk' : (W'.setCell ⟨w.heap.size + 1, 0, none⟩ (.bool false)).heap[q]? = some (.deferred (some [])) := (Below.heap_setCell W' ⟨w.heap.size + 1, 0, none⟩ (.bool false) q (fun e => hqb e.symm)).trans hblk
    clear hs hr
    gi_wp2_with fail
    refine leaves1 (by first | exact hblk | exact hblk') fun W3 hk3 _ => ⟨_, results_cell1 rfl (fun w => Tryz.isAgg4 w) (p := ⟨w.heap.size + 1, 0, none⟩) (v := .bool false) (by rfl) ?_, by rw [HR.out], ?_⟩
    · exact (((h2.set_ 0 (.bool false)).kp hk3 hqb)).cell0
    · exact ((hx01.trans' hkp fun k hk _ h => by omega).setCell (.inl (by show w.heap.size ≤ w.heap.size + 1; omega)) _).trans' hk3 fun k hk _ => by omega
  case stop =>
    rintro q c pre E W' hpre ⟨rfl, h2, h3, h5⟩ hsub hkp hlt hq hnq hblk
    have hr : (aheadF cs b).contains a = true := by simpa using hpre.subset h3
    have HR := Lib.hid hr
    have hqb : w.heap.size + 1 ≠ q := fun e => hnq (e ▸ h5)
    clear hs hr
    gi_wp2_with fail
    refine leaves1 hblk fun W3 hk3 _ => ⟨_, results_cell1 rfl (fun w => Tryz.isAgg4 w) (p := ⟨w.heap.size + 1, 0, none⟩) (v := .bool true) (by rfl) (h2.kp hk3 hqb).cell0, by rw [HR.out], ?_⟩
    exact (hx01.trans' hkp fun k hk _ h => by omega).trans' hk3 fun k hk _ => by omega
end

end Go.Proofs.YtgjbfkaepalkiaaGreatDoor

namespace Go.Proofs.YtgjbfkaepalkiaaGreatDoor
open Go.RowKit
set_option linter.unusedVariables false
set_option linter.unusedSimpArgs false

theorem low_calls (x : Int) (n : Nat) (w : World) (hn : 0 < n) (hm : n ≤ 1000000) :
    Calls Tryz.prog 18 #[.int .i64 x, .int .i64 n] w fun e w' => (∃ k : Nat, k < n ∧ e = .returned (.int .i64 k)) ∧ w = w' := by
  obtain ⟨r, hr⟩ : ∃ r : Nat, IntKind.u64.wrap x = r := ⟨(IntKind.u64.wrap x).toNat, by
    have := IntKind.wrap_u64 x
    omega⟩
  have hlt : r % n < n := Nat.mod_lt _ hn
  have hmod : ((r : Int)).tmod (n : Int) = ((r % n : Nat) : Int) := rfl
  have hw : wrap64 ((r % n : Nat) : Int) = ((r % n : Nat) : Int) := IntWalk.wrap64_in _ (by omega)
  go_enter Tryz.func18, Tryz.ntmps18
  go_wp2_with fail
  go_ret
  refine ⟨⟨r % n, hlt, ?_⟩, rfl⟩
  first | rfl | (show Ending.returned (.int .i64 _) = _; rw [hw]) | (show Ending.returned (.int .i64 _) = _; rw [hmod, hw])

end Go.Proofs.YtgjbfkaepalkiaaGreatDoor

namespace Go.Proofs.YtgjbfkaepalkiaaGreatDoor
open Go.RowKit
set_option linter.unusedVariables false
set_option linter.unusedSimpArgs false
attribute [local go_sem] Oper.semAt_some

def overF : File := ⟨⟨#[111, 118, 101, 114]⟩, ⟨#[]⟩⟩
set_option maxHeartbeats 400000 in
/-- cortegelaw0.OverFiles. -/
theorem overFiles_calls (v : Value) (xs : List File) (w : World) (hO : Own EF 39 w v xs) (hb : xs.length ≤ 1000) :
    Calls Tryz.prog 24 #[v] w fun e w' => (∃ r, e = .returned r) ∧ Kp (fun k => v.ownBlock ≠ some k) w w' := by
  have hslice : (v = .slice none 0 0 ∧ xs = []) ∨ ∃ g n c, v = .slice (some ⟨g, 0, none⟩) n c ∧ xs.length = n := by
    rcases hO.2 with ⟨h, h0⟩ | ⟨g, cap, cur, h, _⟩
    · exact .inl ⟨h, List.eq_nil_of_length_eq_zero h0⟩
    · exact .inr ⟨g, _, cap, h, rfl⟩
  rcases hslice with ⟨rfl, rfl⟩ | ⟨g, n, c, rfl, hn⟩
  · go_enter Tryz.func24, Tryz.ntmps24
    go_wp2_with fail
    refine wp_loop_once ?_
    go_wp2_with (at_builtin; refine stop ?_)
    refine list_append (xs := []) (ys := [overF]) tiF rfl rfl rfl rfl (hO.kp ((Kp.refl _ w).alloc _) (fun _ _ => trivial)) (Own.made w 39 [overF] (by simp [maxLen])).rd (by simp) (by simp [maxLen]) ?_
    intro v' w' hO' hK' hB'
    go_wp2_with fail
    exact bodyPost_end (results_none rfl _ _ _) rfl ⟨⟨_, rfl⟩, ((Kp.refl _ w).alloc _).trans' hK' (fun _ _ h => h)⟩
  · rw [hn] at hb
    have HN := Lib.hid hn
    clear hn
    go_enter Tryz.func24, Tryz.ntmps24
    go_wp2_with fail
    go_loopw [2] (fun i wr => ∃ (k : Nat) (zs : List File), k ≤ n ∧ i = .int .i64 k ∧ zs.length = n ∧ Own EF 39 wr (.slice (some ⟨g, 0, none⟩) n c) zs ∧ Kp (fun k => k ≠ g) w wr) (fun i _ => n - (intOf i).toNat)
    case atStart => exact ⟨0, xs, Nat.zero_le _, rfl, HN.out, hO, Kp.refl _ _⟩
    case round =>
      obtain ⟨k, zs, hk, rfl, hz, hOr, hKr⟩ := hrel
      rename World => wo
      have HZ := Lib.hid hz
      by_cases hlt : k < n
      · have hd3 : decide ((k : Int) < (n : Int)) = true := decide_eq_true (by omega)
        have hlt' : (k : Int) < (n : Int) := by omega
        have h0 : (0 : Int) ≤ (k : Int) := by omega
        have hw : IntKind.i64.wrap ((k : Int) + 1) = (k : Int) + 1 := IntWalk.i64_in _ (by omega)
        obtain ⟨x, hx⟩ : ∃ x, zs[k]? = some x := ⟨_, List.getElem?_eq_getElem (by omega)⟩
        obtain ⟨c0, c1⟩ := hOr.file hx
        have f0 := hOr.free (k * 2)
        have f1 := hOr.free (k * 2 + 1)
        have HX := Lib.hid hx
        clear hz hx
        go_wp2_with fail
        go_roundw
        case rel => exact ⟨k + 1, zs.set k overF, by omega, by go_num, by rw [List.length_set]; exact HZ.out, hOr.setF (List.getElem?_eq_some_iff.1 HX.out).1 overF, (hKr.setCell (.inr (by simp)) _).setCell (.inr (by simp)) _⟩
        case measure => simp [intOf]; omega
      · have hd3 : decide ((k : Int) < (n : Int)) = false := decide_eq_false (by omega)
        clear hz
        go_wp2_with (at_builtin; refine stop ?_)
        refine list_append (v := .slice (some ⟨g, 0, none⟩) n c) (xs := zs) (ys := [overF]) tiF rfl rfl rfl rfl (hOr.kp ((Kp.refl _ wo).alloc _) (fun _ _ => trivial)) (Own.made wo 39 [overF] (by simp [maxLen])).rd (by rw [HZ.out]; simp; omega) (by rw [HZ.out]; simp [maxLen]; omega) ?_
        intro v' w' hO' hK' hB'
        go_wp2_with fail
        refine bodyPost_end (results_none rfl _ _ _) rfl ⟨⟨_, rfl⟩, ?_⟩
        refine ((hKr.alloc _).trans' hK' (fun k _ h e => h (by injection e with e; exact e.symm))).mono (fun k _ h e => h (by rw [e]; rfl))

end Go.Proofs.YtgjbfkaepalkiaaGreatDoor

namespace Go.Proofs.YtgjbfkaepalkiaaGreatDoor
open Go.RowKit
set_option linter.unusedVariables false
set_option linter.unusedSimpArgs false
attribute [local go_sem] Oper.semAt_some

theorem small_of_great {cs : List Cm} {m : Nat} (h : greatR cs m = false) : ∀ c ∈ cs, SmallC c := fun c hc => by
  obtain ⟨h1, h2, h3⟩ := (greatR_false h).2 c hc
  exact ⟨by omega, by omega, fun y hy => by have := (h3 y hy).1; omega⟩
theorem lowN_calls (x : Int) (n k : Nat) (w : World) (hk : 0 < n + k) (hn : n ≤ 1000) (hk2 : k ≤ 1000) :
    Calls Tryz.prog 18 #[.int .i64 x, .int .i64 ((n : Int) + (k : Int))] w fun e w' => (∃ j : Nat, j < n + k ∧ e = .returned (.int .i64 j)) ∧ w = w' := by
  have h := low_calls x (n + k) w hk (by omega)
  rw [Int.natCast_add] at h
  exact h

theorem best_empty (a b : Int) : bestF [] a b = [] := by
  have h : ∀ n, aheadF [] n = [] := fun n => by
    unfold aheadF getC
    rw [if_neg (by simp)]
  unfold bestF commonF
  rw [h a]
  rfl
theorem tree_of_get {cs : List Cm} {n : Int} {c : Cm} (h : getC cs n = some c) : treeC cs n = c.tree := by unfold treeC; rw [h]; rfl
theorem get_in {cs : List Cm} {n : Int} (h : 1 ≤ n ∧ n ≤ cs.length) : ∃ c, getC cs n = some c := Option.isSome_iff_exists.1 ((getC_isSome cs n).2 h)
theorem low1_calls (x : Int) (n : Nat) (w : World) (hn : 0 < n) (hm : n ≤ 1000) :
    Calls Tryz.prog 18 #[.int .i64 x, .int .i64 (n : Int)] w fun e w' => (∃ j : Nat, j < n ∧ e = .returned (.int .i64 j)) ∧ w = w' := low_calls x n w hn (by omega)
/-- Get, of one that is there. -/
theorem getOk_calls {I D : Fp} {rb : Nat} {cs : List Cm} {room : Nat} {w : World} (h : RepoX repoT I D w rb cs room) (n : Int) (hs : SmallR cs) (hn : 1 ≤ n ∧ n ≤ cs.length) : Calls Tryz.prog 29 #[.pointer (some ⟨rb, 0, none⟩), .int .i64 n] w fun e w' =>
    ∃ (pa ta : Option Addr) (pn pc tn tc : Nat) (nt : ByteArray), e = .returned (.tuple #[.agg #[.slice pa pn pc, .slice ta tn tc, .string nt], .bool true]) ∧ New EF 39 w.heap.size w' (.slice ta tn tc) (treeC cs n) ∧ Ext w w' := by
  obtain ⟨c0, hc0⟩ := get_in hn
  refine (getR_calls h n hs).mono ?_
  rintro e w' ⟨sv, ok, c, rfl, ⟨k, rfl, hN⟩, hx, hok⟩
  obtain ⟨⟨pa, pn, pc⟩, ⟨ta, tn, tc⟩, nt⟩ := k
  rcases hok with ⟨rfl, hc⟩ | ⟨_, hc, _⟩
  · exact ⟨pa, ta, pn, pc, tn, tc, nt, rfl, by rw [tree_of_get hc]; exact hN.t, hx⟩
  · rw [hc0] at hc; cases hc

theorem rd_of_blk {α : Type} {E : El α} {t : TypeId} {w : World} {g n : Nat} {ys : List α} (h : Blk w g t (E.flat ys).toArray) (hn : ys.length = n) (hm : n ≤ 1000) : Rd E (fun k => k < w.heap.size) w (.slice (some ⟨g, 0, none⟩) n n) ys := by
  subst hn
  have hO : Own E t w (.slice (some ⟨g, 0, none⟩) ys.length ys.length) ys := Own.of_blk (zs := []) (by rw [List.append_nil]; exact h) (by simp) (Nat.le_refl _) (by unfold maxLen; omega)
  exact hO.rd.wide fun k hk => hO.lt hk

end Go.Proofs.YtgjbfkaepalkiaaGreatDoor

namespace Go.Proofs.YtgjbfkaepalkiaaGreatDoor
open Go.RowKit
set_option linter.unusedVariables false
set_option linter.unusedSimpArgs false
attribute [local go_sem] Oper.semAt_some

/-- The parents of a merge. -/
def parF (t c : Int) : List Int := if t = c then [t] else [t, c]
/-- What two commits are merged to; where they conflict; whether they are there. -/
def ofF (cs : List Cm) (t c : Int) : Cm × List ByteArray × Bool :=
  if (getC cs t).isSome = true ∧ (getC cs c).isSome = true then
    if (joinOf textM (deepF cs 4 t c) (treeC cs t) (treeC cs c)).2 = [] then (⟨parF t c, (joinOf textM (deepF cs 4 t c) (treeC cs t) (treeC cs c)).1, ⟨#[]⟩⟩, [], true)
    else (noC, (joinOf textM (deepF cs 4 t c) (treeC cs t) (treeC cs c)).2, true)
  else (noC, [], false)
theorem ofF_not {cs : List Cm} {t c : Int} (h : ¬ ((getC cs t).isSome = true ∧ (getC cs c).isSome = true)) : ofF cs t c = (noC, [], false) := if_neg h
theorem ofF_bad {cs : List Cm} {t c : Int} (h : (getC cs t).isSome = true ∧ (getC cs c).isSome = true) (h2 : (joinOf textM (deepF cs 4 t c) (treeC cs t) (treeC cs c)).2 ≠ []) : ofF cs t c = (noC, (joinOf textM (deepF cs 4 t c) (treeC cs t) (treeC cs c)).2, true) := by
  unfold ofF; rw [if_pos h, if_neg h2]
theorem ofF_ok {cs : List Cm} {t c : Int} (h : (getC cs t).isSome = true ∧ (getC cs c).isSome = true) (h2 : (joinOf textM (deepF cs 4 t c) (treeC cs t) (treeC cs c)).2 = []) : ofF cs t c = (⟨parF t c, (joinOf textM (deepF cs 4 t c) (treeC cs t) (treeC cs c)).1, ⟨#[]⟩⟩, [], true) := by
  unfold ofF; rw [if_pos h, if_pos h2]

/-- A row of a merge's parents: in a block of its own, of two cells at most. -/
def ParW (n : Nat) (w : World) (v : SliceV) (ps : List Int) : Prop :=
  (v = ⟨none, 0, 0⟩ ∧ ps = []) ∨ ∃ (g : Nat) (xs : List Int), n ≤ g ∧ Blk w g 3 (EI.flat xs).toArray ∧ v = ⟨some ⟨g, 0, none⟩, ps.length, ps.length⟩ ∧ ps = xs.take ps.length ∧ ps.length ≤ xs.length ∧ xs.length ≤ 2
theorem ParW.less {n m : Nat} {w : World} {v : SliceV} {ps : List Int} (h : ParW n w v ps) (hm : m ≤ n) : ParW m w v ps := by
  rcases h with h | ⟨g, xs, h1, h2⟩
  · exact .inl h
  · exact .inr ⟨g, xs, by omega, h2⟩
theorem ParW.kp {n : Nat} {w w' : World} {v : SliceV} {ps : List Int} {S : Fp} (h : ParW n w v ps) (hk : Kp S w w') (hS : ∀ g, n ≤ g → S g) : ParW n w' v ps := by
  rcases h with h | ⟨g, xs, h1, h2, h3⟩
  · exact .inl h
  · exact .inr ⟨g, xs, h1, h2.kp hk (hS g h1), h3⟩
theorem ParW.ext {n : Nat} {w w' : World} {v : SliceV} {ps : List Int} (h : ParW n w v ps) (hk : Ext w w') : ParW n w' v ps := h.kp hk fun _ _ => trivial
theorem ParW.rd {n : Nat} {w : World} {v : SliceV} {ps : List Int} (h : ParW n w v ps) : Rd EI (fun k => n ≤ k ∧ k < w.heap.size) w v.val ps := by
  rcases h with ⟨rfl, rfl⟩ | ⟨g, xs, h1, h2, rfl, h4, h5, h6⟩
  · exact Rd.nil _ _
  · refine ⟨some ⟨g, 0, none⟩, ps.length, rfl, Nat.le_refl _, by unfold maxLen; omega, (fun h => by cases h), fun _ => ⟨g, 0, rfl, ⟨h1, h2.lt⟩, h2.lt, fun j u hu => ?_⟩⟩
    rw [Nat.zero_add, h2.cell j]
    have hfl : EI.flat ps = (EI.flat xs).take ps.length := by
      have e1 : ∀ l : List Int, EI.flat l = l.map (fun x => Value.int .i64 x) := fun l => by
        induction l with
        | nil => rfl
        | cons a l ih => show _ :: EI.flat l = _; rw [ih]; rfl
      rw [e1, e1, ← List.map_take, ← h4]
    rw [hfl] at hu
    rw [List.getElem?_take] at hu
    split at hu
    · simpa using hu
    · cases hu
/-- A merge's value. -/
structure MergeV (n : Nat) (w : World) (s : KS) (c : Cm) : Prop where
  p : ParW n w s.p c.parents
  t : New EF 39 n w s.t.val c.tree
  note : s.note = c.note
theorem MergeV.rd {n : Nat} {w : World} {s : KS} {c : Cm} (h : MergeV n w s c) : RdC (fun k => n ≤ k ∧ k < w.heap.size) w s c :=
  ⟨h.p.rd, h.t.1.rd.wide fun k hk => ⟨h.t.2 k hk, h.t.1.lt hk⟩, h.note⟩
theorem MergeV.ext {n : Nat} {w w' : World} {s : KS} {c : Cm} (h : MergeV n w s c) (hk : Ext w w') : MergeV n w' s c := ⟨h.p.ext hk, h.t.ext hk, h.note⟩
theorem MergeV.less {n m : Nat} {w : World} {s : KS} {c : Cm} (h : MergeV n w s c) (hm : m ≤ n) : MergeV m w s c := ⟨h.p.less hm, h.t.less hm, h.note⟩
theorem MergeV.none_ (n : Nat) (w : World) : MergeV n w ⟨⟨none, 0, 0⟩, ⟨none, 0, 0⟩, ⟨#[]⟩⟩ noC := ⟨.inl ⟨rfl, rfl⟩, New.nil _ _ _, rfl⟩

def MrgPost (w : World) (r : Cm × List ByteArray × Bool) (e : Ending) (w' : World) : Prop := ∃ (s : KS) (u : Value), e = .returned (.tuple #[s.val, u, .bool r.2.2]) ∧ MergeV w.heap.size w' s r.1 ∧ New ES 9 w.heap.size w' u r.2.1 ∧ Ext w w'

theorem results_cell_tmp2 {fn : Func} {p u x : Tmp} {ty : TypeId} (h : fn.results = #[.cell p ty, .tmp u, .tmp x]) (tmps : Array Value) (P : Program) (w : World) :
    (results fn tmps).run P w =
      ((asAddr (tmps.getD p undef)).run P w).andThen fun a w₁ => ((loadVar ty a).run P w₁).andThen fun v w₂ => .ok (.tuple #[v, tmps.getD u undef, tmps.getD x undef]) w₂ := by
  simp only [results, h]
  simp [Sem.run_bind, Result.andThen]

section
variable {I D : Fp} {rb : Nat} {cs : List Cm} {room : Nat} {w : World}
set_option maxHeartbeats 4000000 in
theorem mergeOf_calls (h : RepoX repoT I D w rb cs room) (hG : GoodR cs) (hn : cs.length ≤ 300) (t c : Int) : Calls Tryz.prog 33 #[.pointer (some ⟨rb, 0, none⟩), .int .i64 t, .int .i64 c] w (MrgPost w (ofF cs t c)) := by
  have HG1 := Lib.hid fun W (hW : Ext w W) n => getR_calls (h.ext hW) n hG.small
  have HB := Lib.hid fun W (hW : Ext w W) => baseR_calls (h.ext hW) hG hn t c
  have HMT := Lib.hid fun n => treeC_may hG n
  have HMD := Lib.hid (deepF_may hG 4 t c)
  have HNot := Lib.hid (ofF_not (cs := cs) (t := t) (c := c))
  have HBad := Lib.hid (ofF_bad (cs := cs) (t := t) (c := c))
  have HOk := Lib.hid (ofF_ok (cs := cs) (t := t) (c := c))
  have HTr : Hid (∀ (n : Int) (ok : Bool) (x : Cm), ((ok = true ∧ getC cs n = some x) ∨ (ok = false ∧ getC cs n = none ∧ x = noC)) → (getC cs n).isSome = ok ∧ treeC cs n = x.tree) := Lib.hid fun n ok x hh => by
    unfold treeC
    rcases hh with ⟨rfl, h⟩ | ⟨rfl, h, rfl⟩
    · rw [h]; exact ⟨rfl, rfl⟩
    · rw [h]; exact ⟨rfl, rfl⟩
  clear h hG
  generalize ofF cs t c = r at HNot HBad HOk
  go_enter Tryz.func33, Tryz.ntmps33
  go_wp2_with fail
  have hx0 : Ext w (w.alloc (.cells #[.slice none 0 0, .slice none 0 0, .string ⟨#[]⟩] 42)) := (Kp.refl _ w).alloc _
  have hB0 := Blk.new w 42 #[.slice none 0 0, .slice none 0 0, .string ⟨#[]⟩]
  have hz0 : (w.alloc (.cells #[.slice none 0 0, .slice none 0 0, .string ⟨#[]⟩] 42)).heap.size = w.heap.size + 1 := by simp
  generalize (w.alloc (.cells #[.slice none 0 0, .slice none 0 0, .string ⟨#[]⟩] 42)) = w0 at hx0 hB0 hz0 ⊢
  refine (HG1.out w0 hx0 t).mono ?_
  rintro e w1 ⟨sv, ok1, x1, rfl, ⟨k, rfl, hN1⟩, hx1, hok1⟩
  obtain ⟨⟨pa, pn, pc⟩, ⟨ta, tn, tc⟩, nt⟩ := k
  have hT1 := HTr.out t ok1 x1 hok1
  have hNt := hN1.t
  dsimp only [KS.val, SliceV.val] at hNt ⊢
  clear hN1 hok1
  go_wp2_with fail
  have hx2 : Ext w1 (w1.alloc (.cells #[.slice pa pn pc, .slice ta tn tc, .string nt] 42)) := (Kp.refl _ w1).alloc _
  have hB1 := Blk.new w1 42 #[.slice pa pn pc, .slice ta tn tc, .string nt]
  have hNt2 := hNt.ext hx2
  have hxw2 := hx0.trans (hx1.trans hx2)
  have hB02 := hB0.ext (hx1.trans hx2)
  have hz1 := hx1.size
  obtain ⟨b1, hb1⟩ : ∃ b1, w1.heap.size = b1 := ⟨_, rfl⟩
  have hz2 : (w1.alloc (.cells #[.slice pa pn pc, .slice ta tn tc, .string nt] 42)).heap.size = b1 + 1 := by simp [hb1]
  generalize (w1.alloc (.cells #[.slice pa pn pc, .slice ta tn tc, .string nt] 42)) = w2 at hx2 hB1 hNt2 hxw2 hB02 hz2 ⊢
  rw [hb1] at hB1 hz1 ⊢
  clear hb1
  refine (HG1.out w2 hxw2 c).mono ?_
  rintro e w3 ⟨sv, ok2, x2, rfl, ⟨k, rfl, hN3⟩, hx3, hok2⟩
  obtain ⟨⟨pa2, pn2, pc2⟩, ⟨ta2, tn2, tc2⟩, nt2⟩ := k
  have hT2 := HTr.out c ok2 x2 hok2
  have hNc := hN3.t
  dsimp only [KS.val, SliceV.val] at hNc ⊢
  have hx4 : Ext w3 (w3.alloc (.cells #[.slice pa2 pn2 pc2, .slice ta2 tn2 tc2, .string nt2] 42)) := (Kp.refl _ w3).alloc _
  have hB3 := Blk.new w3 42 #[.slice pa2 pn2 pc2, .slice ta2 tn2 tc2, .string nt2]
  have HNc := Lib.hid (hNc.ext hx4)
  have HNt := Lib.hid (hNt2.ext (hx3.trans hx4))
  have hB03 := hB02.ext hx3
  have HB04 := Lib.hid (hB02.ext (hx3.trans hx4))
  have HB14 := Lib.hid (hB1.ext (hx3.trans hx4))
  have hxw4 := hxw2.trans (hx3.trans hx4)
  have hz3 := hx3.size
  have HT1 := Lib.hid hT1
  have HT2 := Lib.hid hT2
  clear hN3 hok2 HG1 HTr hNt hx1 hx2 hNt2 hB0 hB02 hB1 hNc hT1 hT2
  obtain ⟨b3, hb3⟩ : ∃ b3, w3.heap.size = b3 := ⟨_, rfl⟩
  have hz4 : (w3.alloc (.cells #[.slice pa2 pn2 pc2, .slice ta2 tn2 tc2, .string nt2] 42)).heap.size = b3 + 1 := by simp [hb3]
  rw [hb3] at hB3 hz3
  have HB34 := Lib.hid hB3
  have HX4 := Lib.hid hxw4
  have c30 : (w3.alloc (.cells #[.slice pa2 pn2 pc2, .slice ta2 tn2 tc2, .string nt2] 42)).cell? ⟨w.heap.size, 0, none⟩ = some (.slice none 0 0) := HB04.out.cell 0
  have c31 : (w3.alloc (.cells #[.slice pa2 pn2 pc2, .slice ta2 tn2 tc2, .string nt2] 42)).cell? ⟨w.heap.size, 1, none⟩ = some (.slice none 0 0) := HB04.out.cell 1
  have c32 : (w3.alloc (.cells #[.slice pa2 pn2 pc2, .slice ta2 tn2 tc2, .string nt2] 42)).cell? ⟨w.heap.size, 2, none⟩ = some (.string ⟨#[]⟩) := HB04.out.cell 2
  have f30 := HB04.out.frozen 0
  have f31 := HB04.out.frozen 1
  have f32 := HB04.out.frozen 2
  have hne3 : w.heap.size ≠ b3 := by have := hB03.lt; omega
  clear hB03
  clear hB3 hx3 hx4 hxw4 hxw2
  by_cases hok : ok1 = true ∧ ok2 = true
  · obtain ⟨rfl, rfl⟩ := hok
    have hboth : (getC cs t).isSome = true ∧ (getC cs c).isSome = true := ⟨HT1.out.1, HT2.out.1⟩
    have HBad' := Lib.hid (HBad.out hboth)
    have HOk' := Lib.hid (HOk.out hboth)
    clear HNot HBad HOk hboth
    have HNt' : Hid (RdF (w3.alloc (.cells #[.slice pa2 pn2 pc2, .slice ta2 tn2 tc2, .string nt2] 42)) (.slice ta tn tc) (treeC cs t)) := Lib.hid (by rw [HT1.out.2]; exact HNt.out.rdF)
    have HNc' : Hid (RdF (w3.alloc (.cells #[.slice pa2 pn2 pc2, .slice ta2 tn2 tc2, .string nt2] 42)) (.slice ta2 tn2 tc2) (treeC cs c)) := Lib.hid (by rw [HT2.out.2]; exact HNc.out.rdF)
    clear HT1 HT2 HNt HNc
    go_wp2_with fail
    try rw [hb3]
    clear c30 c31 c32 f30 f31 f32
    generalize (w3.alloc (.cells #[.slice pa2 pn2 pc2, .slice ta2 tn2 tc2, .string nt2] 42)) = w4 at HB04 HB14 HB34 HNc' HNt' HX4 hz4 ⊢
    have HS : Hid (∀ W, Ext w4 W → W.cell? ⟨b1, 1, none⟩ = some (.slice ta tn tc) ∧ W.cell? ⟨b3, 1, none⟩ = some (.slice ta2 tn2 tc2)) := Lib.hid fun W hW => ⟨(HB14.out.ext hW).cell 1, (HB34.out.ext hW).cell 1⟩
    have HBs := Lib.hid fun W (hW : Ext w4 W) => HB.out W (HX4.out.trans hW)
    clear HB
    go_region_held3 (fun W => W.cell? ⟨b1, 1, none⟩ = some (.slice ta tn tc) ∧ W.cell? ⟨b3, 1, none⟩ = some (.slice ta2 tn2 tc2))
      (first | exact HS.out _ hx6 | exact HS.out _ hx5 | exact HS.out _ ((Kp.refl _ w4).drew) | fail)
      (first
        | (go_at_call 19; ((with_reducible refine Calls.mono (HBs.out _ ?_) ?_)); (exact (Kp.refl _ w4).drew); rintro e w5 ⟨u5, rfl, hN5, hx5'⟩; have hx5 : Ext w4 w5 := ((Kp.refl _ w4).drew).trans hx5')
        | (go_at_call 71; have hJ := ofM_calls _ _ _ _ _ _ w5 hN5.rdF (HNt'.out.ext hx5) (HNc'.out.ext hx5) HMD.out (HMT.out t) (HMT.out c); ((with_reducible refine Calls.mono hJ ?_)); rintro e w6 ⟨u6, s6, rfl, hN6, hM6, hx6'⟩; have hx6 : Ext w4 w6 := hx5.trans hx6')
        | fail)
    have hB06 := HB04.out.ext hx6
    have c60 : w6.cell? ⟨w.heap.size, 0, none⟩ = some (.slice none 0 0) := hB06.cell 0
    have c61 : w6.cell? ⟨w.heap.size, 1, none⟩ = some (.slice none 0 0) := hB06.cell 1
    have c62 : w6.cell? ⟨w.heap.size, 2, none⟩ = some (.string ⟨#[]⟩) := hB06.cell 2
    have f60 := hB06.frozen 0
    have f61 := hB06.frozen 1
    have f62 := hB06.frozen 2
    have HB06 := Lib.hid hB06
    have HX6 := Lib.hid (HX4.out.trans hx6)
    have hz5 := hx5.size
    have hz46 := hx6.size
    have hN6' := Lib.hid hN6
    have hM6' := Lib.hid hM6
    obtain ⟨A6, n6, d6, rfl⟩ := hN6.1.slice
    obtain ⟨Z6, e6, rfl, _⟩ := hM6.1.rd.open_
    have hzw := HX4.out.size
    have hl0 := HB04.out.lt
    clear HS HBs hN5 hx5 hx5' hx6 hx6' hN6 hM6 hB06 HNt' HNc' HMD HMT
    obtain ⟨j, hj⟩ : ∃ j, joinOf textM (deepF cs 4 t c) (treeC cs t) (treeC cs c) = j := ⟨_, rfl⟩
    rw [hj] at HBad' HOk' hN6' hM6' ⊢
    clear hj
    obtain ⟨j1, j2⟩ := j
    dsimp only at HBad' HOk' hN6' hM6' ⊢
    cases j2 with
    | cons y ys =>
      have hr := HBad'.out (by simp)
      subst hr
      have hd0 : decide ((0 : Int) < ((y :: ys).length : Int)) = true := decide_eq_true (by rw [List.length_cons]; omega)
      have hd1 : decide ((0 : Int) < (ys.length : Int) + 1) = true := decide_eq_true (by omega)
      clear HBad' HOk'
      go_wp2_with fail
      have HB7 : Blk (((w6.setCell ⟨w.heap.size, 0, none⟩ (.slice none 0 0)).setCell ⟨w.heap.size, 1, none⟩ (.slice none 0 0)).setCell ⟨w.heap.size, 2, none⟩ (.string ⟨#[]⟩)) w.heap.size 42 #[.slice none 0 0, .slice none 0 0, .string ⟨#[]⟩] := ((HB06.out.set_ 0 _).set_ 1 _).set_ 2 _
      refine bodyPost_ret (by rw [results_cell_tmp2 rfl]; simp only [Array.getD_eq_getD_getElem?]; simp [asAddr]; rw [run_loadVar_row _ _ _ _ _ _ _ HB7 Tryz.underlying42 (by rfl) (by kernel_rfl)]; rfl) rfl ?_
      have hk7 : Kp (fun k => k ≠ w.heap.size) w6 (((w6.setCell ⟨w.heap.size, 0, none⟩ (.slice none 0 0)).setCell ⟨w.heap.size, 1, none⟩ (.slice none 0 0)).setCell ⟨w.heap.size, 2, none⟩ (.string ⟨#[]⟩)) := (((Kp.refl _ w6).setCell (.inr (by simp)) _).setCell (.inr (by simp)) _).setCell (.inr (by simp)) _
      refine ⟨_, _, rfl, MergeV.none_ _ _, (hM6'.out.kp hk7 fun g e => by have := hM6'.out.2 g e; omega).less (by omega), HX6.out.trans' hk7 fun k hk _ => by omega⟩
    | nil =>
      have hr := HOk'.out rfl
      subst hr
      clear HBad' HOk'
      by_cases htc : t = c
      · subst htc
        have hde : (t == t) = true := by simp
        have hB07 := HB06.out.ext ((Kp.refl All w6).alloc (.cells #[.int .i64 t, .int .i64 t] 3))
        have hC07 := Blk.new w6 3 #[.int .i64 t, .int .i64 t]
        have c70 := hB07.cell 0
        have c71 := hB07.cell 1
        have c72 := hB07.cell 2
        have f70 := hB07.frozen 0
        have f71 := hB07.frozen 1
        have f72 := hB07.frozen 2
        go_wp2_with fail
        have HB8 : Blk ((((w6.alloc (.cells #[.int .i64 t, .int .i64 t] 3)).setCell ⟨w.heap.size, 0, none⟩ (.slice (some ⟨w6.heap.size, 0, none⟩) 1 1)).setCell ⟨w.heap.size, 1, none⟩ (.slice A6 n6 d6)).setCell ⟨w.heap.size, 2, none⟩ (.string ⟨#[]⟩)) w.heap.size 42 #[.slice (some ⟨w6.heap.size, 0, none⟩) 1 1, .slice A6 n6 d6, .string ⟨#[]⟩] := ((hB07.set_ 0 _).set_ 1 _).set_ 2 _
        refine bodyPost_ret (by rw [results_cell_tmp2 rfl]; simp only [Array.getD_eq_getD_getElem?]; simp [asAddr]; rw [run_loadVar_row _ _ _ _ _ _ _ HB8 Tryz.underlying42 (by rfl) (by kernel_rfl)]; rfl) rfl ?_
        have hk8 : Kp (fun k => k ≠ w.heap.size) (w6.alloc (.cells #[.int .i64 t, .int .i64 t] 3)) ((((w6.alloc (.cells #[.int .i64 t, .int .i64 t] 3)).setCell ⟨w.heap.size, 0, none⟩ (.slice (some ⟨w6.heap.size, 0, none⟩) 1 1)).setCell ⟨w.heap.size, 1, none⟩ (.slice A6 n6 d6)).setCell ⟨w.heap.size, 2, none⟩ (.string ⟨#[]⟩)) := (((Kp.refl _ _).setCell (.inr (by simp)) _).setCell (.inr (by simp)) _).setCell (.inr (by simp)) _
        refine ⟨⟨⟨some ⟨w6.heap.size, 0, none⟩, 1, 1⟩, ⟨A6, n6, d6⟩, ⟨#[]⟩⟩, _, rfl, ⟨.inr ⟨w6.heap.size, [t, t], by omega, hC07.kp hk8 (by omega), by unfold parF; simp, by unfold parF; simp, by unfold parF; simp, by simp⟩, ?_, rfl⟩, New.nil _ _ _, (HX6.out.alloc _).trans' hk8 fun k hk _ => by omega⟩
        exact ((hN6'.out.ext ((Kp.refl _ _).alloc _)).kp hk8 fun g e => by have := hN6'.out.2 g e; omega).less (by omega)
      · have hde : (t == c) = false := by rw [beq_eq_false_iff_ne]; exact htc
        have hB07 := HB06.out.ext ((Kp.refl All w6).alloc (.cells #[.int .i64 t, .int .i64 c] 3))
        have hC07 := Blk.new w6 3 #[.int .i64 t, .int .i64 c]
        have c70 := hB07.cell 0
        have c71 := hB07.cell 1
        have c72 := hB07.cell 2
        have f70 := hB07.frozen 0
        have f71 := hB07.frozen 1
        have f72 := hB07.frozen 2
        go_wp2_with fail
        have HB8 : Blk ((((w6.alloc (.cells #[.int .i64 t, .int .i64 c] 3)).setCell ⟨w.heap.size, 0, none⟩ (.slice (some ⟨w6.heap.size, 0, none⟩) 2 2)).setCell ⟨w.heap.size, 1, none⟩ (.slice A6 n6 d6)).setCell ⟨w.heap.size, 2, none⟩ (.string ⟨#[]⟩)) w.heap.size 42 #[.slice (some ⟨w6.heap.size, 0, none⟩) 2 2, .slice A6 n6 d6, .string ⟨#[]⟩] := ((hB07.set_ 0 _).set_ 1 _).set_ 2 _
        refine bodyPost_ret (by rw [results_cell_tmp2 rfl]; simp only [Array.getD_eq_getD_getElem?]; simp [asAddr]; rw [run_loadVar_row _ _ _ _ _ _ _ HB8 Tryz.underlying42 (by rfl) (by kernel_rfl)]; rfl) rfl ?_
        have hk8 : Kp (fun k => k ≠ w.heap.size) (w6.alloc (.cells #[.int .i64 t, .int .i64 c] 3)) ((((w6.alloc (.cells #[.int .i64 t, .int .i64 c] 3)).setCell ⟨w.heap.size, 0, none⟩ (.slice (some ⟨w6.heap.size, 0, none⟩) 2 2)).setCell ⟨w.heap.size, 1, none⟩ (.slice A6 n6 d6)).setCell ⟨w.heap.size, 2, none⟩ (.string ⟨#[]⟩)) := (((Kp.refl _ _).setCell (.inr (by simp)) _).setCell (.inr (by simp)) _).setCell (.inr (by simp)) _
        refine ⟨⟨⟨some ⟨w6.heap.size, 0, none⟩, 2, 2⟩, ⟨A6, n6, d6⟩, ⟨#[]⟩⟩, _, rfl, ⟨.inr ⟨w6.heap.size, [t, c], by omega, hC07.kp hk8 (by omega), by unfold parF; rw [if_neg htc]; rfl, by unfold parF; rw [if_neg htc]; rfl, by unfold parF; rw [if_neg htc]; simp, by simp⟩, ?_, rfl⟩, New.nil _ _ _, (HX6.out.alloc _).trans' hk8 fun k hk _ => by omega⟩
        exact ((hN6'.out.ext ((Kp.refl _ _).alloc _)).kp hk8 fun g e => by have := hN6'.out.2 g e; omega).less (by omega)
  · have hr := HNot.out (fun hh => hok ⟨HT1.out.1.symm.trans hh.1, HT2.out.1.symm.trans hh.2⟩)
    subst hr
    clear HNot HBad HOk
    cases ok1 with
    | false =>
          go_wp2_with fail
          have HB5 : Blk ((((w3.alloc (.cells #[.slice pa2 pn2 pc2, .slice ta2 tn2 tc2, .string nt2] 42)).setCell ⟨w.heap.size, 0, none⟩ (.slice none 0 0)).setCell ⟨w.heap.size, 1, none⟩ (.slice none 0 0)).setCell ⟨w.heap.size, 2, none⟩ (.string ⟨#[]⟩)) w.heap.size 42 #[.slice none 0 0, .slice none 0 0, .string ⟨#[]⟩] := ((HB04.out.set_ 0 _).set_ 1 _).set_ 2 _
          refine bodyPost_ret (by rw [results_cell_tmp2 rfl]; simp only [Array.getD_eq_getD_getElem?]; simp [asAddr]; rw [run_loadVar_row _ _ _ _ _ _ _ HB5 Tryz.underlying42 (by rfl) (by kernel_rfl)]; rfl) rfl ?_
          exact ⟨_, _, rfl, MergeV.none_ _ _, New.nil _ _ _, ((HX4.out.setCell (.inl (Nat.le_refl _)) _).setCell (.inl (Nat.le_refl _)) _).setCell (.inl (Nat.le_refl _)) _⟩
    | true =>
      cases ok2 with
      | true => exact absurd ⟨rfl, rfl⟩ hok
      | false =>
          go_wp2_with fail
          have HB5 : Blk ((((w3.alloc (.cells #[.slice pa2 pn2 pc2, .slice ta2 tn2 tc2, .string nt2] 42)).setCell ⟨w.heap.size, 0, none⟩ (.slice none 0 0)).setCell ⟨w.heap.size, 1, none⟩ (.slice none 0 0)).setCell ⟨w.heap.size, 2, none⟩ (.string ⟨#[]⟩)) w.heap.size 42 #[.slice none 0 0, .slice none 0 0, .string ⟨#[]⟩] := ((HB04.out.set_ 0 _).set_ 1 _).set_ 2 _
          refine bodyPost_ret (by rw [results_cell_tmp2 rfl]; simp only [Array.getD_eq_getD_getElem?]; simp [asAddr]; rw [run_loadVar_row _ _ _ _ _ _ _ HB5 Tryz.underlying42 (by rfl) (by kernel_rfl)]; rfl) rfl ?_
          exact ⟨_, _, rfl, MergeV.none_ _ _, New.nil _ _ _, ((HX4.out.setCell (.inl (Nat.le_refl _)) _).setCell (.inl (Nat.le_refl _)) _).setCell (.inl (Nat.le_refl _)) _⟩
end

end Go.Proofs.YtgjbfkaepalkiaaGreatDoor

namespace Go.Proofs.YtgjbfkaepalkiaaGreatDoor
open Go.RowKit
set_option linter.unusedVariables false
set_option linter.unusedSimpArgs false
attribute [local go_sem] Oper.semAt_some

set_option maxHeartbeats 1000000 in
theorem sameCommit_calls (s s' : KS) (c d : Cm) (S T : Fp) (w : World) (hR : RdC S w s c) (hR' : RdC T w s' d) :
    Calls Tryz.prog 35 #[s.val, s'.val] w (SamePost w (sameC c d)) := by
  have hI := fun W (hW : Ext w W) => sameInts_calls s.p.val s'.p.val c.parents d.parents S T W (hR.ext hW).p (hR'.ext hW).p
  have hF := fun W (hW : Ext w W) => sameFiles_calls s.t.val s'.t.val c.tree d.tree S T W (hR.ext hW).t (hR'.ext hW).t
  have hv : sameC c d = (decide (c.parents = d.parents) && (sameB c.tree d.tree && (c.note.toList == d.note.toList))) := rfl
  obtain ⟨A, a, B, b, rfl, hA, hB⟩ := hR.open_
  obtain ⟨A', a', B', b', rfl, hA', hB'⟩ := hR'.open_
  dsimp only [SliceV.val] at hI hF
  show Calls _ _ #[.agg #[.slice A c.parents.length a, .slice B c.tree.length b, .string c.note], .agg #[.slice A' d.parents.length a', .slice B' d.tree.length b', .string d.note]] w _
  obtain ⟨n, hn⟩ : ∃ n, c.parents.length = n := ⟨_, rfl⟩
  obtain ⟨m, hm⟩ : ∃ m, c.tree.length = m := ⟨_, rfl⟩
  obtain ⟨nt, hnt⟩ : ∃ m, c.note = m := ⟨_, rfl⟩
  obtain ⟨n', hn'⟩ : ∃ n, d.parents.length = n := ⟨_, rfl⟩
  obtain ⟨m', hm'⟩ : ∃ m, d.tree.length = m := ⟨_, rfl⟩
  obtain ⟨nt', hnt'⟩ : ∃ m, d.note = m := ⟨_, rfl⟩
  obtain ⟨q, hq⟩ : ∃ q, sameC c d = q := ⟨_, rfl⟩
  rw [hq] at hv
  rw [hn, hn'] at hI
  rw [hm, hm'] at hF
  rw [hnt, hnt'] at hv
  rw [hn, hm, hnt, hn', hm', hnt', hq]
  generalize decide (c.parents = d.parents) = b1 at hI hv
  generalize sameB c.tree d.tree = b2 at hF hv
  have HI := Lib.hid hI
  have HF := Lib.hid hF
  have HV := Lib.hid hv
  clear hI hF hA hB hR hA' hB' hR' hn hm hnt hn' hm' hnt' hq hv
  cases h3 : (nt.toList == nt'.toList) with
  | false =>
    have hr : q = false := by rw [HV.out, h3]; simp
    clear HI HF HV
    go_enter Tryz.func35, Tryz.ntmps35
    go_wp2_with fail
    go_ret
    exact ⟨by rw [hr]; rfl, ((Kp.refl _ w).alloc _).alloc _⟩
  | true =>
    have HV' := Lib.hid (show q = (b1 && b2) by rw [HV.out, h3]; simp)
    clear HV
    go_enter Tryz.func35, Tryz.ntmps35
    go_wp2_with fail
    refine (HI.out _ (by first | exact ((Kp.refl _ w).alloc _).alloc _)).mono ?_
    rintro e w1 ⟨rfl, hx1⟩
    clear HI
    have hx : Ext w w1 := (((Kp.refl _ w).alloc _).alloc _).trans hx1
    have hb1 := ((Blk.new w 42 #[.slice A n a, .slice B m b, .string nt]).ext ((Kp.refl _ _).alloc (.cells #[.slice A' n' a', .slice B' m' b', .string nt'] 42))).ext hx1
    have hb2 := (Blk.new (w.alloc (.cells #[.slice A n a, .slice B m b, .string nt] 42)) 42 #[.slice A' n' a', .slice B' m' b', .string nt']).ext hx1
    rw [World.size_alloc] at hb2
    have c1 : w1.cell? ⟨w.heap.size, 1, none⟩ = some (.slice B m b) := hb1.cell 1
    have d1 : w1.cell? ⟨w.heap.size + 1, 1, none⟩ = some (.slice B' m' b') := hb2.cell 1
    clear hx1 hb1 hb2
    cases b1 with
    | false =>
      go_wp2_with fail
      go_ret
      exact ⟨by rw [HV'.out]; rfl, hx⟩
    | true =>
      go_wp2_with fail
      refine (HF.out _ hx).mono ?_
      rintro e w2 ⟨rfl, hx2⟩
      go_wp2_with fail
      go_ret
      exact ⟨by rw [HV'.out]; simp, hx.trans hx2⟩

def cleanB (r : Cm × List ByteArray × Bool) : Bool := r.2.2 && r.2.1.isEmpty
theorem clean_of {w : World} {P : Program} {f : FuncId} {args : Array Value} {r : Cm × List ByteArray × Bool} (h : Calls P f args w (MrgPost w r)) : Calls P f args w fun e w' => ∃ (pa ta A : Option Addr) (pn pc tn tc e' : Nat) (nt : ByteArray), e = .returned (.tuple #[.agg #[.slice pa pn pc, .slice ta tn tc, .string nt], .slice A r.2.1.length e', .bool r.2.2]) ∧ Ext w w' := by
  refine h.mono ?_
  rintro e w' ⟨s, u, rfl, hV, hU, hx⟩
  obtain ⟨⟨pa, pn, pc⟩, ⟨ta, tn, tc⟩, nt⟩ := s
  obtain ⟨A, c, rfl, _⟩ := hU.1.rd.open_
  exact ⟨pa, ta, A, pn, pc, tn, tc, c, nt, rfl, hx⟩
section
variable {I D : Fp} {rb : Nat} {cs : List Cm} {room : Nat} {w : World}
theorem mergeClean_calls (h : RepoX repoT I D w rb cs room) (hG : GoodR cs) (hn : cs.length ≤ 300) (t c : Int) : Calls Tryz.prog 37 #[.pointer (some ⟨rb, 0, none⟩), .int .i64 t, .int .i64 c] w (SamePost w (cleanB (ofF cs t c))) := by
  have HM := Lib.hid (clean_of (mergeOf_calls h hG hn t c))
  clear h hG
  unfold cleanB
  obtain ⟨⟨m, bad, ok⟩, hr⟩ : ∃ r, ofF cs t c = r := ⟨_, rfl⟩
  rw [hr] at HM ⊢
  clear hr
  dsimp only at HM ⊢
  go_enter Tryz.func37, Tryz.ntmps37
  go_wp2_with fail
  refine HM.out.mono ?_
  rintro e w1 ⟨pa, ta, A, pn, pc, tn, tc, e', nt, rfl, hx1⟩
  clear HM
  cases ok with
  | false =>
    go_wp2_with fail
    go_ret
    exact ⟨by first | rfl | simp, hx1.alloc _⟩
  | true =>
    cases bad with
    | nil =>
      go_wp2_with fail
      go_ret
      exact ⟨by first | rfl | simp, hx1.alloc _⟩
    | cons y ys =>
      have hd : (((y :: ys).length : Int) == 0) = false := by rw [beq_eq_false_iff_ne, List.length_cons]; omega
      have hd' : ((ys.length : Int) + 1 == 0) = false := by rw [beq_eq_false_iff_ne]; omega
      go_wp2_with fail
      go_ret
      exact ⟨by first | rfl | simp, hx1.alloc _⟩
end

end Go.Proofs.YtgjbfkaepalkiaaGreatDoor

namespace Go.Proofs.YtgjbfkaepalkiaaGreatDoor
open Go.RowKit
set_option linter.unusedVariables false
set_option linter.unusedSimpArgs false

theorem ofF_swap {cs : List Cm} {t c : Int} (ht : 1 ≤ t ∧ t ≤ cs.length) (hc : 1 ≤ c ∧ c ≤ cs.length) : (ofF cs c t).1.tree = (ofF cs t c).1.tree ∧ (ofF cs c t).2 = (ofF cs t c).2 := by
  have h1 := (getC_isSome cs t).2 ht
  have h2 := (getC_isSome cs c).2 hc
  have hj : joinOf textM (deepF cs 4 c t) (treeC cs c) (treeC cs t) = joinOf textM (deepF cs 4 t c) (treeC cs t) (treeC cs c) := by rw [deepF_swap, joinOf_swap]
  by_cases hb : (joinOf textM (deepF cs 4 t c) (treeC cs t) (treeC cs c)).2 = []
  · rw [ofF_ok ⟨h1, h2⟩ hb, ofF_ok ⟨h2, h1⟩ (by rw [hj]; exact hb), hj]
    exact ⟨rfl, rfl⟩
  · rw [ofF_bad ⟨h1, h2⟩ hb, ofF_bad ⟨h2, h1⟩ (by rw [hj]; exact hb), hj]
    exact ⟨rfl, rfl⟩
theorem ofF_there {cs : List Cm} {t c : Int} (ht : 1 ≤ t ∧ t ≤ cs.length) (hc : 1 ≤ c ∧ c ≤ cs.length) : (ofF cs t c).2.2 = true := by
  have h1 := (getC_isSome cs t).2 ht
  have h2 := (getC_isSome cs c).2 hc
  by_cases hb : (joinOf textM (deepF cs 4 t c) (treeC cs t) (treeC cs c)).2 = []
  · rw [ofF_ok ⟨h1, h2⟩ hb]
  · rw [ofF_bad ⟨h1, h2⟩ hb]
theorem ofF_conf {cs : List Cm} {t c : Int} (h : (ofF cs t c).2.1 ≠ []) : (ofF cs t c).1 = noC := by
  unfold ofF at h ⊢
  split
  · rename_i h1
    rw [if_pos h1] at h
    split
    · rename_i h2; rw [if_pos h2] at h; exact absurd rfl h
    · rfl
  · rfl
theorem ofF_clean {cs : List Cm} {t c : Int} (ht : 1 ≤ t ∧ t ≤ cs.length) (hc : 1 ≤ c ∧ c ≤ cs.length) (h : (ofF cs t c).2.1 = []) : (ofF cs t c).1 = ⟨parF t c, (joinOf textM (deepF cs 4 t c) (treeC cs t) (treeC cs c)).1, ⟨#[]⟩⟩ ∧ (joinOf textM (deepF cs 4 t c) (treeC cs t) (treeC cs c)).2 = [] := by
  have h1 := (getC_isSome cs t).2 ht
  have h2 := (getC_isSome cs c).2 hc
  by_cases hb : (joinOf textM (deepF cs 4 t c) (treeC cs t) (treeC cs c)).2 = []
  · rw [ofF_ok ⟨h1, h2⟩ hb]; exact ⟨rfl, hb⟩
  · rw [ofF_bad ⟨h1, h2⟩ hb] at h; exact absurd h hb
theorem parF_may (t c : Int) : (decide ((parF t c).length ≤ 2) && (!(decide ((parF t c).length = 2) && decide ((parF t c)[0]? = (parF t c)[1]?)))) = true := by
  unfold parF
  by_cases h : t = c
  · rw [if_pos h]; rfl
  · rw [if_neg h]
    have : ¬ (some t = some c) := fun e => h (by injection e)
    simp [this]
theorem ofF_may {cs : List Cm} (hG : GoodR cs) {t c : Int} (ht : 1 ≤ t ∧ t ≤ cs.length) (hc : 1 ≤ c ∧ c ≤ cs.length) (h : (ofF cs t c).2.1 = []) : mayC (ofF cs t c).1 = true ∧ SmallC (ofF cs t c).1 := by
  obtain ⟨h1, h2⟩ := ofF_clean ht hc h
  have hm : mayB (joinOf textM (deepF cs 4 t c) (treeC cs t) (treeC cs c)).1 = true := joinOf_tree ((may3_iff _ _ _).2 ⟨deepF_may hG _ _ _, treeC_may hG _, treeC_may hG _⟩) h2
  rw [h1]
  have hp := parF_may t c
  refine ⟨?_, ?_, Nat.le_trans (may_len hm) (by omega), may_size hm⟩
  · rw [Bool.and_eq_true] at hp
    unfold mayC
    rw [hm, hp.1, hp.2]; rfl
  · unfold parF
    dsimp only
    split <;> simp
theorem ofF_empty (a b : Int) : cleanB (ofF [] a b) = false := by
  rw [ofF_not (fun h => by have := (getC_isSome [] a).1 h.1; simp at this; omega)]
  rfl

end Go.Proofs.YtgjbfkaepalkiaaGreatDoor

namespace Go.Proofs.YtgjbfkaepalkiaaGreatDoor
open Go.RowKit
set_option linter.unusedVariables false
set_option linter.unusedSimpArgs false
attribute [local go_sem] Oper.semAt_some

set_option maxHeartbeats 2000000 in
theorem made14_calls (v : Value) (ss : List KS) (cs : List Cm) (S : Fp) (w : World) (hR : Rd EK S w v ss) (hK : RepK S w ss cs) (hS : ∀ k, S k → k < w.heap.size) (hs : ∀ c ∈ cs, SmallC c) (hn : cs.length ≤ 100) :
    Calls Tryz.prog 32 #[v] w (MadePost S w cs) := by
  obtain ⟨A, c, rfl, hO⟩ := hR.open_
  have hlen := hO.len
  have hl := hK.len
  have HO := Lib.hid fun W (hW : Ext w W) => hO.kp (hW.mono fun _ _ _ => trivial)
  have HK := Lib.hid fun W (hW : Ext w W) => hK.ext hW
  obtain ⟨n, hxn⟩ : ∃ n, cs.length = n := ⟨_, rfl⟩
  rw [hxn] at hl hn
  rw [hl] at hlen ⊢
  have HX := Lib.hid hxn
  have HL := Lib.hid hl
  have HS := Lib.hid hS
  have HSm := Lib.hid hs
  clear hR hO hK hxn hl hS hs
  go_enter Tryz.func32, Tryz.ntmps32
  go_wp2_with fail
  refine (newR_calls 60 w (by omega)).mono ?_
  rintro e w1 hP1
  have hP1' := hP1
  obtain ⟨rfl, -⟩ := hP1'
  have HP1 := Lib.hid hP1
  go_wp2_with fail
  refine (refNew_calls 60 w1 (by omega)).mono ?_
  rintro e w2 hP2
  have hP2' := hP2
  obtain ⟨rfl, -⟩ := hP2'
  have HT := Lib.hid (TwoR.start HS.out HP1.out hP2)
  clear hP1 hP2 HP1
  go_wp2_with fail
  go_loopw [6] (fun i wr => ∃ (k : Nat) (I D D' : Fp), k ≤ n ∧ i = .int .i64 k ∧ TwoR S w wr w.heap.size w1.heap.size (madeC (cs.take k)) (madeC (cs.take k)) I D D') (fun i _ => n - (intOf i).toNat)
  case atStart => exact ⟨0, _, _, _, Nat.zero_le _, rfl, HT.out⟩
  case round =>
    obtain ⟨k, I, D, D', hk, rfl, hT⟩ := hrel
    rename World => wo
    have HTo := Lib.hid hT
    have hx := hT.x
    clear hT HT
    by_cases hlt : k < n
    · have hd : decide ((k : Int) < (n : Int)) = true := decide_eq_true (by omega)
      have hkc : k < cs.length := by have := HX.out; omega
      have hkr : k < ss.length := by have := HL.out; omega
      obtain ⟨b, off, rfl, hSb, hb, c0, c1, c2⟩ := (HO.out wo hx).rd.kom hkr
      have hRx := (HK.out wo hx).get k hkr hkc
      have hsm := HSm.out cs[k] (List.getElem_mem hkc)
      have hgood : GoodR (madeC (cs.take k)) := madeC_good fun c hc => HSm.out c (List.take_subset _ _ hc)
      have hml : (madeC (cs.take k)).length ≤ 1000 := by have := madeC_len (cs.take k); rw [List.length_take] at this; omega
      have HT1 : Hid (madeC (cs.take (k + 1)) = (addC (madeC (cs.take k)) 60 cs[k]).1) := Lib.hid (by rw [take_snoc cs hkc, madeC_snoc])
      have hA1 := addR_calls HTo.out.r ss[k] cs[k] S hRx hsm hml (by omega)
      have hlt' : (k : Int) < (n : Int) := by omega
      have h0 : (0 : Int) ≤ (k : Int) := by omega
      have hw : IntKind.i64.wrap ((k : Int) + 1) = (k : Int) + 1 := IntWalk.i64_in _ (by omega)
      have hA2 : Hid (∀ w3 I1 D1 D2, TwoR S w w3 w.heap.size w1.heap.size I1 (madeC (cs.take k)) D1 D2 D' → Ext w w3 → Calls Tryz.prog 57 #[.pointer (some ⟨w1.heap.size, 0, none⟩), ss[k].val] w3 (RefAddPost refT S D' w3 w1.heap.size (madeC (cs.take k)) 60 cs[k])) := Lib.hid fun w3 I1 D1 D2 h hx3 => refAdd_calls h.q ss[k] cs[k] ((HK.out w3 hx3).get k hkr hkc) hsm hml (by omega)
      have hSb' := HS.out b hSb
      obtain ⟨xk, hrk⟩ : ∃ x, ss[k] = x := ⟨_, rfl⟩
      rw [hrk] at c0 c1 c2 hA1 hA2
      obtain ⟨⟨pa, pn, pc⟩, ⟨ta, tn, tc⟩, nt⟩ := xk
      dsimp only [KS.val, SliceV.val] at c0 c1 c2 hA1 hA2
      generalize cs[k] = ck at HT1 hA1 hA2 hRx hsm
      have HA1 := Lib.hid hA1
      clear hRx hrk hsm hgood hA1
      go_wp2_with fail
      refine HA1.out.mono ?_
      rintro e w3 hP3
      have hP3' := hP3
      obtain ⟨rfl, -⟩ := hP3'
      obtain ⟨I1, D1, hT3⟩ := HTo.out.add HS.out hP3
      have HT3 := Lib.hid hT3
      have hbk : ∀ (i : Nat) (v : Value), wo.cell? ⟨b, i, none⟩ = some v → w3.cell? ⟨b, i, none⟩ = some v := fun i v h => by
        obtain ⟨_, _, _, _, _, _, h4⟩ := hP3
        exact (h4.cell (p := ⟨b, i, none⟩) hb fun hd => by have := HTo.out.lowD _ hd; dsimp only at this; omega).trans h
      have d0 := hbk _ _ c0
      have d1 := hbk _ _ c1
      have d2 := hbk _ _ c2
      have hA2' := Lib.hid (hA2.out w3 _ _ _ hT3 hT3.x)
      clear hP3 hT3 hbk c0 c1 c2 hA2 HA1
      go_wp2_with fail
      refine hA2'.out.mono ?_
      rintro e w4 hP4
      have hP4' := hP4
      obtain ⟨rfl, -⟩ := hP4'
      obtain ⟨D2, hT4⟩ := HT3.out.radd hP4
      have HT4 := Lib.hid hT4
      clear hP4 hT4 hA2'
      go_wp2_with fail
      go_roundw
      case rel => exact ⟨k + 1, I1, D1, D2, by omega, by go_num, by rw [HT1.out]; exact HT4.out⟩
      case measure => simp [intOf]; omega
    · have hd : decide ((k : Int) < (n : Int)) = false := decide_eq_false (by omega)
      have hall : cs.take k = cs := List.take_of_length_le (by have := HX.out; omega)
      rw [hall] at HTo
      obtain ⟨A2, c2, rows, hB2, hO2, _, hl2⟩ := HTo.out.q.rd
      have q0 : wo.cell? ⟨w1.heap.size, 0, none⟩ = some (.slice A2 (madeC cs).length c2) := hB2.cell 0
      have hln := fun k => lenR_calls (HTo.out.r.ext ((Kp.refl _ wo).drewN k))
      obtain ⟨m, hm⟩ : ∃ m, (madeC cs).length = m := ⟨_, rfl⟩
      rw [hm] at q0 hln
      have HLn := Lib.hid hln
      clear hall hB2 hO2 hl2 hm hln
      go_wp2_with fail
      go_quiet ((go_at_call 25; exact Calls.quiet_of_same ((HLn.out _).mono fun _ _ h => ⟨h.1, h.2.symm⟩)))
      have hTn := Lib.hid (HTo.out.ext ((Kp.refl _ wo).drewN nq))
      clear HLn q0
      go_wp2_with fail
      go_returns
      exact ⟨_, _, _, _, _, rfl, hTn.out⟩


end Go.Proofs.YtgjbfkaepalkiaaGreatDoor

namespace Go.Proofs.YtgjbfkaepalkiaaGreatDoor
open Go.RowKit
set_option linter.unusedVariables false
set_option linter.unusedSimpArgs false
attribute [local go_sem] Oper.semAt_some

def a14 : List File := [⟨⟨#[97]⟩, ⟨#[]⟩⟩]
def b14 : List File := [⟨⟨#[98]⟩, ⟨#[]⟩⟩]
def ab14 : List File := [⟨⟨#[97]⟩, ⟨#[]⟩⟩, ⟨⟨#[98]⟩, ⟨#[]⟩⟩]
def cs14 : List Cm := [⟨[], [], ⟨#[]⟩⟩, ⟨[1], a14, ⟨#[]⟩⟩, ⟨[1], b14, ⟨#[]⟩⟩]
theorem cs14_made : madeC cs14 = cs14 := by kernel_rfl
theorem cs14_of : ofF cs14 2 3 = (⟨[2, 3], ab14, ⟨#[]⟩⟩, [], true) := by kernel_rfl
theorem cs14_small : ∀ c ∈ cs14, SmallC c := by
  intro c hc
  simp only [cs14, List.mem_cons, List.not_mem_nil, or_false] at hc
  rcases hc with rfl | rfl | rfl
  · exact ⟨by decide, by decide, fun y hy => by cases hy⟩
  · exact ⟨by decide, by decide, fun y hy => by simp only [a14, List.mem_singleton] at hy; subst hy; decide⟩
  · exact ⟨by decide, by decide, fun y hy => by simp only [b14, List.mem_singleton] at hy; subst hy; decide⟩
theorem cs14_good : GoodR cs14 := by have := madeC_good cs14_small; rwa [cs14_made] at this

theorem sameC_refl (c : Cm) : sameC c c = true := by
  unfold sameC
  rw [decide_eq_true rfl, sameB_refl]; simp

set_option maxHeartbeats 4000000 in
theorem awake14_calls (w : World) : Calls Tryz.prog 31 #[] w (SamePost w true) := by
  go_enter Tryz.func31, Tryz.ntmps31
  go_wp2_with fail
  have hB0 := Blk.new w 3 #[.int .i64 1]
  have hx0 : Ext w (w.alloc (.cells #[.int .i64 1] 3)) := (Kp.refl _ _).alloc _
  have hz0 : (w.alloc (.cells #[.int .i64 1] 3)).heap.size = w.heap.size + 1 := by simp
  generalize w.alloc (.cells #[.int .i64 1] 3) = W0 at hB0 hx0 hz0 ⊢
  have hB1 := Blk.new W0 39 #[.string ⟨#[97]⟩, .string ⟨#[]⟩]
  have hx1 : Ext W0 (W0.alloc (.cells #[.string ⟨#[97]⟩, .string ⟨#[]⟩] 39)) := (Kp.refl _ _).alloc _
  have hz1 : (W0.alloc (.cells #[.string ⟨#[97]⟩, .string ⟨#[]⟩] 39)).heap.size = W0.heap.size + 1 := by simp
  generalize W0.alloc (.cells #[.string ⟨#[97]⟩, .string ⟨#[]⟩] 39) = W1 at hB1 hx1 hz1 ⊢
  have hB2 := Blk.new W1 3 #[.int .i64 1]
  have hx2 : Ext W1 (W1.alloc (.cells #[.int .i64 1] 3)) := (Kp.refl _ _).alloc _
  have hz2 : (W1.alloc (.cells #[.int .i64 1] 3)).heap.size = W1.heap.size + 1 := by simp
  generalize W1.alloc (.cells #[.int .i64 1] 3) = W2 at hB2 hx2 hz2 ⊢
  have hB3 := Blk.new W2 39 #[.string ⟨#[98]⟩, .string ⟨#[]⟩]
  have hx3 : Ext W2 (W2.alloc (.cells #[.string ⟨#[98]⟩, .string ⟨#[]⟩] 39)) := (Kp.refl _ _).alloc _
  have hz3 : (W2.alloc (.cells #[.string ⟨#[98]⟩, .string ⟨#[]⟩] 39)).heap.size = W2.heap.size + 1 := by simp
  generalize W2.alloc (.cells #[.string ⟨#[98]⟩, .string ⟨#[]⟩] 39) = W3 at hB3 hx3 hz3 ⊢
  have hB4 := Blk.new W3 42 #[.slice none 0 0, .slice none 0 0, .string ⟨#[]⟩, .slice (some ⟨w.heap.size, 0, none⟩) 1 1, .slice (some ⟨w.heap.size + 1, 0, none⟩) 1 1, .string ⟨#[]⟩, .slice (some ⟨w.heap.size + 1 + 1, 0, none⟩) 1 1, .slice (some ⟨w.heap.size + 1 + 1 + 1, 0, none⟩) 1 1, .string ⟨#[]⟩]
  have hx4 : Ext W3 (W3.alloc (.cells #[.slice none 0 0, .slice none 0 0, .string ⟨#[]⟩, .slice (some ⟨w.heap.size, 0, none⟩) 1 1, .slice (some ⟨w.heap.size + 1, 0, none⟩) 1 1, .string ⟨#[]⟩, .slice (some ⟨w.heap.size + 1 + 1, 0, none⟩) 1 1, .slice (some ⟨w.heap.size + 1 + 1 + 1, 0, none⟩) 1 1, .string ⟨#[]⟩] 42)) := (Kp.refl _ _).alloc _
  have hz4 : (W3.alloc (.cells #[.slice none 0 0, .slice none 0 0, .string ⟨#[]⟩, .slice (some ⟨w.heap.size, 0, none⟩) 1 1, .slice (some ⟨w.heap.size + 1, 0, none⟩) 1 1, .string ⟨#[]⟩, .slice (some ⟨w.heap.size + 1 + 1, 0, none⟩) 1 1, .slice (some ⟨w.heap.size + 1 + 1 + 1, 0, none⟩) 1 1, .string ⟨#[]⟩] 42)).heap.size = W3.heap.size + 1 := by simp
  generalize W3.alloc (.cells #[.slice none 0 0, .slice none 0 0, .string ⟨#[]⟩, .slice (some ⟨w.heap.size, 0, none⟩) 1 1, .slice (some ⟨w.heap.size + 1, 0, none⟩) 1 1, .string ⟨#[]⟩, .slice (some ⟨w.heap.size + 1 + 1, 0, none⟩) 1 1, .slice (some ⟨w.heap.size + 1 + 1 + 1, 0, none⟩) 1 1, .string ⟨#[]⟩] 42) = W4 at hB4 hx4 hz4 ⊢
  have hs1 : W0.heap.size = w.heap.size + 1 := by omega
  rw [hs1] at hB1
  have hs2 : W1.heap.size = w.heap.size + 1 + 1 := by omega
  rw [hs2] at hB2
  have hs3 : W2.heap.size = w.heap.size + 1 + 1 + 1 := by omega
  rw [hs3] at hB3
  have hs4 : W3.heap.size = w.heap.size + 1 + 1 + 1 + 1 := by omega
  rw [hs4] at hB4
  have hC0 := ((((hB0.ext hx1).ext hx2).ext hx3).ext hx4)
  have hC1 := (((hB1.ext hx2).ext hx3).ext hx4)
  have hC2 := ((hB2.ext hx3).ext hx4)
  have hC3 := (hB3.ext hx4)
  have hC4 := hB4
  have HXW := Lib.hid ((((hx0.trans hx1).trans hx2).trans hx3).trans hx4)
  have hRk : RepK (fun k => k < W4.heap.size) W4 [⟨⟨none, 0, 0⟩, ⟨none, 0, 0⟩, ⟨#[]⟩⟩, ⟨⟨some ⟨w.heap.size, 0, none⟩, 1, 1⟩, ⟨some ⟨w.heap.size + 1, 0, none⟩, 1, 1⟩, ⟨#[]⟩⟩, ⟨⟨some ⟨w.heap.size + 1 + 1, 0, none⟩, 1, 1⟩, ⟨some ⟨w.heap.size + 1 + 1 + 1, 0, none⟩, 1, 1⟩, ⟨#[]⟩⟩] cs14 := ⟨⟨Rd.nil _ _, Rd.nil _ _, rfl⟩, ⟨rd_of_blk (E := EI) (n := 1) hC0 rfl (by omega), rd_of_blk (E := EF) (n := 1) (ys := a14) hC1 rfl (by omega), rfl⟩, ⟨rd_of_blk (E := EI) (n := 1) hC2 rfl (by omega), rd_of_blk (E := EF) (n := 1) (ys := b14) hC3 rfl (by omega), rfl⟩, trivial⟩
  have hRd : Rd EK (fun k => k < W4.heap.size) W4 (.slice (some ⟨w.heap.size + 1 + 1 + 1 + 1, 0, none⟩) 3 3) [⟨⟨none, 0, 0⟩, ⟨none, 0, 0⟩, ⟨#[]⟩⟩, ⟨⟨some ⟨w.heap.size, 0, none⟩, 1, 1⟩, ⟨some ⟨w.heap.size + 1, 0, none⟩, 1, 1⟩, ⟨#[]⟩⟩, ⟨⟨some ⟨w.heap.size + 1 + 1, 0, none⟩, 1, 1⟩, ⟨some ⟨w.heap.size + 1 + 1 + 1, 0, none⟩, 1, 1⟩, ⟨#[]⟩⟩] := rd_of_blk (E := EK) (n := 3) hC4 rfl (by omega)
  have HMd := Lib.hid (made14_calls _ _ cs14 _ W4 hRd hRk (fun k hk => hk) cs14_small (by decide))
  clear hB0 hx0 hz0 hC0 hB1 hx1 hz1 hC1 hB2 hx2 hz2 hC2 hB3 hx3 hz3 hC3 hB4 hx4 hz4 hC4 hs1 hs2 hs3 hs4 hRk hRd
  refine HMd.out.mono ?_
  rintro e w1 ⟨rb, wb, I, D, D', rfl, hT⟩
  rw [cs14_made] at hT
  have HT := Lib.hid hT.r
  have HX1 := Lib.hid (HXW.out.trans hT.x)
  clear HMd hT HXW
  have hm := mergeOf_calls HT.out cs14_good (by decide) 2 3
  rw [cs14_of] at hm
  have HM := Lib.hid hm
  clear hm
  go_wp2_with fail
  refine HM.out.mono ?_
  rintro e w2 ⟨s, u, rfl, hV, hU, hx2⟩
  obtain ⟨⟨pa, pn, pc⟩, ⟨ta, tn, tc⟩, nt⟩ := s
  obtain ⟨A, n, c, rfl⟩ := hU.1.slice
  have hn0 : n = 0 := by obtain ⟨_, _, hh, _⟩ := hU.1.rd; injection hh
  subst hn0
  have hRc := hV.rd
  have HRc := Lib.hid hRc
  have HX2 := Lib.hid hx2
  clear hV hU hRc hx2 HM
  dsimp only [KS.val, SliceV.val]
  go_wp2_with fail
  have hI := (Blk.new (w2.alloc (.cells #[.slice pa pn pc, .slice ta tn tc, .string nt] 42)) 3 #[.int .i64 2, .int .i64 3]).ext ((Kp.refl _ _).alloc (.cells #[.string ⟨#[97]⟩, .string ⟨#[]⟩, .string ⟨#[98]⟩, .string ⟨#[]⟩] 39))
  have hF := Blk.new ((w2.alloc (.cells #[.slice pa pn pc, .slice ta tn tc, .string nt] 42)).alloc (.cells #[.int .i64 2, .int .i64 3] 3)) 39 #[.string ⟨#[97]⟩, .string ⟨#[]⟩, .string ⟨#[98]⟩, .string ⟨#[]⟩]
  simp only [World.size_alloc] at hI hF
  have hy : Ext w2 (((w2.alloc (.cells #[.slice pa pn pc, .slice ta tn tc, .string nt] 42)).alloc (.cells #[.int .i64 2, .int .i64 3] 3)).alloc (.cells #[.string ⟨#[97]⟩, .string ⟨#[]⟩, .string ⟨#[98]⟩, .string ⟨#[]⟩] 39)) := (((Kp.refl _ _).alloc _).alloc _).alloc _
  generalize (((w2.alloc (.cells #[.slice pa pn pc, .slice ta tn tc, .string nt] 42)).alloc (.cells #[.int .i64 2, .int .i64 3] 3)).alloc (.cells #[.string ⟨#[97]⟩, .string ⟨#[]⟩, .string ⟨#[98]⟩, .string ⟨#[]⟩] 39)) = w3 at hI hF hy ⊢
  have hSC := sameCommit_calls ⟨⟨pa, pn, pc⟩, ⟨ta, tn, tc⟩, nt⟩ ⟨⟨some ⟨w2.heap.size + 1, 0, none⟩, 2, 2⟩, ⟨some ⟨w2.heap.size + 1 + 1, 0, none⟩, 2, 2⟩, ⟨#[]⟩⟩ ⟨[2, 3], ab14, ⟨#[]⟩⟩ ⟨[2, 3], ab14, ⟨#[]⟩⟩ _ (fun k => k < w3.heap.size) w3 (HRc.out.ext hy) ⟨rd_of_blk (E := EI) (n := 2) hI rfl (by omega), rd_of_blk (E := EF) (n := 2) (ys := ab14) hF rfl (by omega), rfl⟩
  rw [sameC_refl] at hSC
  have HSC := Lib.hid hSC
  have HX3 := Lib.hid ((HX1.out.trans HX2.out).trans hy)
  have HT3 := Lib.hid (HT.out.ext (HX2.out.trans hy))
  clear hI hF hy hSC HRc HX2 HX1 HT
  refine HSC.out.mono ?_
  rintro e w4 ⟨rfl, hx4⟩
  have hcl := mergeClean_calls (HT3.out.ext hx4) cs14_good (by decide) 2 3
  rw [show cleanB (ofF cs14 2 3) = true by rw [cs14_of]; rfl] at hcl
  have HCl := Lib.hid hcl
  have HX4 := Lib.hid (HX3.out.trans hx4)
  clear hcl HSC hx4 HX3 HT3
  go_wp2_with fail
  refine HCl.out.mono ?_
  rintro e w5 ⟨rfl, hx5⟩
  go_wp2_with fail
  go_ret
  exact ⟨rfl, HX4.out.trans hx5⟩

end Go.Proofs.YtgjbfkaepalkiaaGreatDoor

namespace Go.Proofs.YtgjbfkaepalkiaaGreatDoor
open Go.RowKit
set_option linter.unusedVariables false
set_option linter.unusedSimpArgs false

theorem sameC_eq {x c : Cm} (h : sameC x c = true) : x = c := by
  unfold sameC at h
  rw [Bool.and_eq_true, Bool.and_eq_true, decide_eq_true_eq, sameB_iff, beq_iff_eq] at h
  obtain ⟨h1, h2, h3⟩ := h
  obtain ⟨p, t, n⟩ := x
  obtain ⟨p', t', n'⟩ := c
  dsimp only at h1 h2 h3
  have h4 : n = n' := toList_inj h3
  rw [h1, h2, h4]
/-- What adding a commit comes to that may be, of parents that are there, where there is room. -/
theorem add_ok {cs : List Cm} {c : Cm} (hm : mayC c = true) (hp : ∀ p ∈ c.parents, 1 ≤ p ∧ p ≤ cs.length) (hr : cs.length < 60) :
    (addC cs 60 c).2.2 = 0 ∧ 1 ≤ (addC cs 60 c).2.1 ∧ getC (addC cs 60 c).1 ((addC cs 60 c).2.1 : Int) = some c ∧ (∃ r, (addC cs 60 c).1 = cs ++ r) := by
  have hb : (c.parents.any fun p => decide (p < 1) || decide ((cs.length : Int) < p)) = false := by
    rw [List.any_eq_false]
    intro p hp'
    have := hp p hp'
    simp
    omega
  by_cases hf : 0 < findC cs c
  · have he : addC cs 60 c = (cs, findC cs c, 0) := by
      unfold addC
      rw [if_neg (by rw [hm]; simp), if_neg (by rw [hb]; simp), if_pos hf]
    rw [he]
    refine ⟨rfl, hf, ?_, [], by simp⟩
    dsimp only
    unfold findC at hf ⊢
    cases hx : cs.findIdx? (fun x => sameC x c) with
    | none => rw [hx] at hf; exact absurd hf (by simp)
    | some i =>
      obtain ⟨hi, hs, _⟩ := List.findIdx?_eq_some_iff_getElem.1 hx
      dsimp only
      rw [show ((i + 1 : Nat) : Int) = (i : Int) + 1 by omega, getC_nat hi, sameC_eq hs]
  · have he : addC cs 60 c = (cs ++ [c], cs.length + 1, 0) := by
      unfold addC
      rw [if_neg (by rw [hm]; simp), if_neg (by rw [hb]; simp), if_neg hf, if_neg (by omega)]
    rw [he]
    refine ⟨rfl, by dsimp only; omega, ?_, [c], rfl⟩
    dsimp only
    rw [show ((cs.length + 1 : Nat) : Int) = (cs.length : Int) + 1 by omega, getC_nat (by simp)]
    simp
/-- A commit's parents are among those that it came of. -/
theorem parent_in {cs : List Cm} (hG : GoodR cs) {n p : Int} (hn : 1 ≤ n ∧ n ≤ cs.length) (hp : p ∈ parentsC cs n) : p ∈ aheadF cs n := by
  have h1 := aheadF_self hn
  have h2 : (getC cs n).isSome = true := (getC_isSome cs n).2 hn
  unfold aheadF at h1 ⊢
  rw [if_pos h2] at h1 ⊢
  exact goA_closed hG h1 hp
/-- Of one that came of the other. -/
theorem ofF_is {cs : List Cm} (hG : GoodR cs) {t c : Int} (ht : 1 ≤ t ∧ t ≤ cs.length) (hc : 1 ≤ c ∧ c ≤ cs.length) (h : t ∈ aheadF cs c) : (ofF cs t c).2 = ([], true) ∧ (ofF cs t c).1.tree = treeC cs c := by
  have h1 := (getC_isSome cs t).2 ht
  have h2 := (getC_isSome cs c).2 hc
  have hd : deepF cs 4 t c = treeC cs t := deepF_one (bestF_is hG h)
  have hj : joinOf textM (deepF cs 4 t c) (treeC cs t) (treeC cs c) = (treeC cs c, []) := by rw [hd]; exact joinOf_right (treeC_may hG _) (treeC_may hG _)
  rw [ofF_ok ⟨h1, h2⟩ (by rw [hj]), hj]
  exact ⟨rfl, rfl⟩
section
variable {M : List Cm} (hG : GoodR M) {t c : Int} (ht : 1 ≤ t ∧ t ≤ M.length) (hc : 1 ≤ c ∧ c ≤ M.length) (hb : (ofF M t c).2.1 = []) (hr : M.length < 60)
include hG ht hc hb hr in
theorem merge_add : (addC M 60 (ofF M t c).1).2.2 = 0 ∧ 1 ≤ (addC M 60 (ofF M t c).1).2.1 ∧ GoodR (addC M 60 (ofF M t c).1).1 ∧ (addC M 60 (ofF M t c).1).1.length ≤ 61 ∧
    (ofF (addC M 60 (ofF M t c).1).1 ((addC M 60 (ofF M t c).1).2.1 : Int) c).2 = ([], true) ∧ (ofF (addC M 60 (ofF M t c).1).1 ((addC M 60 (ofF M t c).1).2.1 : Int) c).1.tree = (ofF M t c).1.tree ∧
    (ofF (addC M 60 (ofF M t c).1).1 t ((addC M 60 (ofF M t c).1).2.1 : Int)).2 = ([], true) ∧ (ofF (addC M 60 (ofF M t c).1).1 t ((addC M 60 (ofF M t c).1).2.1 : Int)).1.tree = (ofF M t c).1.tree := by
  obtain ⟨hmay, hsm⟩ := ofF_may hG ht hc hb
  have hpar : (ofF M t c).1.parents = parF t c := by rw [(ofF_clean ht hc hb).1]
  have hps : ∀ p ∈ (ofF M t c).1.parents, 1 ≤ p ∧ p ≤ M.length := fun p hp => by
    rw [hpar] at hp
    unfold parF at hp
    split at hp
    · rw [List.mem_singleton] at hp; subst hp; exact ht
    · simp only [List.mem_cons, List.not_mem_nil, or_false] at hp
      rcases hp with rfl | rfl
      · exact ht
      · exact hc
  obtain ⟨a1, a2, a3, r, a4⟩ := add_ok hmay hps hr
  have hG' := addC_good hG hsm 60
  have hl := addC_len M 60 (ofF M t c).1
  generalize addC M 60 (ofF M t c).1 = z at a1 a2 a3 a4 hG' hl ⊢
  obtain ⟨M', n, e⟩ := z
  dsimp only at a1 a2 a3 a4 hG' hl ⊢
  have hn := (getC_isSome M' n).1 (by rw [a3]; rfl)
  have hMl : (M.length : Int) ≤ M'.length := by omega
  have ht' : 1 ≤ t ∧ t ≤ (M'.length : Int) := by omega
  have hc' : 1 ≤ c ∧ c ≤ (M'.length : Int) := by omega
  have hpn : parentsC M' n = parF t c := by unfold parentsC; rw [a3]; exact hpar
  have htn : treeC M' n = (ofF M t c).1.tree := by unfold treeC; rw [a3]; rfl
  have hti : t ∈ aheadF M' n := parent_in hG' hn (by rw [hpn]; unfold parF; split <;> simp)
  have hci : c ∈ aheadF M' n := parent_in hG' hn (by rw [hpn]; unfold parF; split <;> simp [*])
  have h1 := ofF_is hG' ht' hn hti
  have h2 := ofF_is hG' hc' hn hci
  have h3 := ofF_swap hc' hn
  refine ⟨a1, a2, hG', by omega, ?_, ?_, h1.1, by rw [h1.2, htn]⟩
  · rw [h3.2, h2.1]
  · rw [h3.1, h2.2, htn]
end

end Go.Proofs.YtgjbfkaepalkiaaGreatDoor

namespace Go.Proofs.YtgjbfkaepalkiaaGreatDoor
open Go.RowKit
set_option linter.unusedVariables false
set_option linter.unusedSimpArgs false
attribute [local go_sem] Oper.semAt_some

set_option maxHeartbeats 4000000 in
theorem mergeAhead_calls (v : Value) (ss : List KS) (cs : List Cm) (a b : Int) (S : Fp) (w : World) (hR : Rd EK S w v ss) (hK : RepK S w ss cs) (hS : ∀ k, S k → k < w.heap.size) :
    Calls Tryz.prog 9 #[v, .int .i64 a, .int .i64 b] w (SamePost w true) := by
  have HGr : Hid (Calls Tryz.prog 15 #[v, .int .i64 16] w (SamePost w (greatR cs 16))) := Lib.hid (greatR_calls v ss cs 16 S w hR hK (by omega))
  have HMd := Lib.hid fun W (hW : Ext w W) (hs : ∀ c ∈ cs, SmallC c) (hn : cs.length ≤ 100) => made14_calls v ss cs S W (hR.kp (hW.mono fun _ _ _ => trivial)) (hK.ext hW) (fun k hk => hW.lt (hS k hk)) hs hn
  obtain ⟨A, c, rfl, hO⟩ := hR.open_
  have hl := hK.len
  clear hO hR hK hS
  cases hg : greatR cs 16 with
  | true =>
    rw [hg] at HGr
    clear HMd hg hl
    go_enter Tryz.func9, Tryz.ntmps9
    go_wp2_with fail
    refine HGr.out.mono ?_
    rintro e w1 ⟨rfl, hx1⟩
    clear HGr
    go_wp2_with fail
    refine (awake14_calls w1).mono ?_
    rintro e w2 ⟨rfl, hx2⟩
    go_wp2_with fail
    go_ret
    exact ⟨rfl, hx1.trans hx2⟩
  | false =>
    rw [hg] at HGr
    have hsm := small_of_great hg
    have hn16 := (greatR_false hg).1
    have hgood : GoodR (madeC cs) := madeC_good hsm
    have hml := madeC_len cs
    have HM2 := Lib.hid fun W (hW : Ext w W) => HMd.out W hW hsm (by omega)
    have HGood := Lib.hid hgood
    have hm300 : (madeC cs).length ≤ 300 := by omega
    have hsl : ss.length ≤ 16 := by omega
    have HM16 : Hid ((madeC cs).length ≤ 16) := Lib.hid (by omega)
    clear HMd hg hsm hgood hml hl hn16
    obtain ⟨n, hn⟩ : ∃ n, ss.length = n := ⟨_, rfl⟩
    rw [hn] at HGr HM2 hsl ⊢
    clear hn
    go_enter Tryz.func9, Tryz.ntmps9
    go_wp2_with fail
    refine HGr.out.mono ?_
    rintro e w1 ⟨rfl, hx1⟩
    have hMd := Lib.hid (HM2.out w1 hx1)
    clear HGr HM2
    go_wp2_with fail
    refine hMd.out.mono ?_
    rintro e w2 ⟨rb, wb, I, D, D', rfl, hT⟩
    have HT := Lib.hid hT.r
    have hx2 := hx1.trans hT.x
    have HXB := Lib.hid hx2
    have HDlo := Lib.hid fun k hk => Nat.le_trans hx1.size (hT.lowD k hk)
    clear hMd hT hx1 hx2
    generalize madeC cs = M at HT HGood hm300 HM16
    obtain ⟨m, hm⟩ : ∃ m, M.length = m := ⟨_, rfl⟩
    have HM := Lib.hid hm
    have hln := lenR_calls HT.out
    rw [hm] at hln hm300
    have HLn := Lib.hid hln
    clear hm hln
    go_wp2_with fail
    refine HLn.out.mono ?_
    rintro e w2' ⟨rfl, rfl⟩
    by_cases hm0 : m = 0
    · have hd0 : ((m : Int) == 0) = true := by rw [beq_iff_eq]; omega
      clear HLn
      go_wp2_with fail
      refine (awake14_calls w2).mono ?_
      rintro e w4 ⟨rfl, hx4⟩
      go_wp2_with fail
      go_ret
      exact ⟨rfl, HXB.out.trans hx4⟩
    · have hd0 : ((m : Int) == 0) = false := by rw [beq_eq_false_iff_ne]; omega
      go_wp2_with fail
      refine HLn.out.mono ?_
      rintro e w2' ⟨rfl, rfl⟩
      go_wp2_with fail
      refine (low1_calls a m w2 (by omega) (by omega)).mono ?_
      rintro e w2' ⟨⟨ka, hka, rfl⟩, rfl⟩
      have hwa : IntKind.i64.wrap (1 + (ka : Int)) = 1 + (ka : Int) := IntWalk.i64_in _ (by omega)
      go_wp2_with fail
      refine HLn.out.mono ?_
      rintro e w2' ⟨rfl, rfl⟩
      go_wp2_with fail
      refine (low1_calls b m w2 (by omega) (by omega)).mono ?_
      rintro e w2' ⟨⟨kb, hkb, rfl⟩, rfl⟩
      obtain ⟨a', ha'⟩ : ∃ a', 1 + (ka : Int) = a' := ⟨_, rfl⟩
      obtain ⟨b', hb'⟩ : ∃ b', 1 + (kb : Int) = b' := ⟨_, rfl⟩
      have hwb : IntKind.i64.wrap (1 + (kb : Int)) = b' := (IntWalk.i64_in _ (by omega)).trans hb'
      rw [ha'] at hwa
      try rw [ha']
      have haR : 1 ≤ a' ∧ a' ≤ (M.length : Int) := by have := HM.out; omega
      have hbR : 1 ≤ b' ∧ b' ≤ (M.length : Int) := by have := HM.out; omega
      have HAR := Lib.hid haR
      have HBR := Lib.hid hbR
      clear ha' hka hb' hkb haR hbR HLn hd0
      go_wp2_with fail
      clear hwa hwb
      have hMl : Hid (M.length ≤ 300) := Lib.hid (by have := HM.out; omega)
      have hth := ofF_there HAR.out HBR.out
      have hm60 : M.length < 60 := by have := HM16.out; omega
      have HIs : Hid ((aheadF M b').contains a' = true → (ofF M a' b').2.1 = [] ∧ (ofF M a' b').1.tree = treeC M b') := Lib.hid fun h => by have h1 := ofF_is HGood.out HAR.out HBR.out (by simpa using h); exact ⟨by rw [h1.1], h1.2⟩
      have HAdd : Hid ((ofF M a' b').2.1 = [] → _) := Lib.hid fun h => merge_add HGood.out HAR.out HBR.out h hm60
      have HSm : Hid ((ofF M a' b').2.1 = [] → SmallC (ofF M a' b').1) := Lib.hid fun h => (ofF_may HGood.out HAR.out HBR.out h).2
      have hm1 := mergeOf_calls HT.out HGood.out hMl.out a' b'
      have HGt := Lib.hid fun W (hW : Ext w2 W) => getOk_calls (HT.out.ext hW) b' HGood.out.small HBR.out
      have HIsC := Lib.hid fun W (hW : Ext w2 W) => isR_calls (HT.out.ext hW) HGood.out hMl.out a' b'
      obtain ⟨⟨m1, bad, ok1⟩, hr1⟩ : ∃ r, ofF M a' b' = r := ⟨_, rfl⟩
      rw [hr1] at hm1 hth HIs HAdd HSm
      dsimp only at hth HIs HAdd HSm
      subst hth
      have HM1 := Lib.hid hm1
      clear hm1 hr1 hm60
      refine HM1.out.mono ?_
      rintro e w3 ⟨s1, u, rfl, hV, hU, hx3⟩
      obtain ⟨⟨pa1, pn1, pc1⟩, ⟨ta1, tn1, tc1⟩, nt1⟩ := s1
      obtain ⟨Z, ze, rfl, _⟩ := hU.1.rd.open_
      have hbx : Ext w3 (w3.alloc (.cells #[.slice pa1 pn1 pc1, .slice ta1 tn1 tc1, .string nt1] 42)) := (Kp.refl _ _).alloc _
      have HB1 := Lib.hid (Blk.new w3 42 #[.slice pa1 pn1 pc1, .slice ta1 tn1 tc1, .string nt1])
      have HV1 := Lib.hid (hV.ext hbx)
      have HX3 := Lib.hid (hx3.trans hbx)
      have hz3 := hx3.size
      have hb3l : w3.heap.size < (w3.alloc (.cells #[.slice pa1 pn1 pc1, .slice ta1 tn1 tc1, .string nt1] 42)).heap.size := by simp
      have hGt := Lib.hid (HGt.out _ HX3.out)
      clear HM1 HGt hV hU hx3 hbx
      dsimp only [KS.val, SliceV.val]
      go_wp2_with fail
      generalize (w3.alloc (.cells #[.slice pa1 pn1 pc1, .slice ta1 tn1 tc1, .string nt1] 42)) = w4 at HB1 HV1 HX3 hb3l hGt ⊢
      refine hGt.out.mono ?_
      rintro e w5 ⟨pa2, ta2, pn2, pc2, tn2, tc2, nt2, rfl, hN2, hx5⟩
      have hby : Ext w5 (w5.alloc (.cells #[.slice pa2 pn2 pc2, .slice ta2 tn2 tc2, .string nt2] 42)) := (Kp.refl _ _).alloc _
      have hB2 := Blk.new w5 42 #[.slice pa2 pn2 pc2, .slice ta2 tn2 tc2, .string nt2]
      have HB16 := Lib.hid (HB1.out.ext (hx5.trans hby))
      have HB26 := Lib.hid hB2
      have HV16 := Lib.hid (HV1.out.ext (hx5.trans hby))
      have HN26 := Lib.hid (hN2.ext hby)
      have HX6 := Lib.hid (HX3.out.trans (hx5.trans hby))
      have hIs := Lib.hid (HIsC.out _ HX6.out)
      clear hGt HB1 HV1 HX3 hN2 hx5 hby hB2 HIsC
      go_wp2_with fail
      generalize (w5.alloc (.cells #[.slice pa2 pn2 pc2, .slice ta2 tn2 tc2, .string nt2] 42)) = w6 at HB16 HB26 HV16 HN26 HX6 hIs ⊢
      refine hIs.out.mono ?_
      rintro e w7 ⟨rfl, hx7⟩
      have hB17 := HB16.out.ext hx7
      have hB27 := HB26.out.ext hx7
      have c71 : w7.cell? ⟨w3.heap.size, 1, none⟩ = some (.slice ta1 tn1 tc1) := hB17.cell 1
      have d71 : w7.cell? ⟨w5.heap.size, 1, none⟩ = some (.slice ta2 tn2 tc2) := hB27.cell 1
      have HB17 := Lib.hid hB17
      have HV17 := Lib.hid (HV16.out.ext hx7)
      have HN27 := Lib.hid (HN26.out.ext hx7)
      have HX7 := Lib.hid (HX6.out.trans hx7)
      clear hIs HB16 HB26 HV16 HN26 HX6 hx7 hB17 hB27
      obtain ⟨q, hq⟩ : ∃ q, (aheadF M b').contains a' = q := ⟨_, rfl⟩
      rw [hq] at HIs ⊢
      clear hq
      cases q with
      | false =>
        have HX8 := HX7
        have HV8 := HV17
        have HB8 := HB17
        obtain ⟨w8, hw8⟩ : ∃ w8, w7 = w8 := ⟨_, rfl⟩
        rw [hw8] at HX8 HV8 HB8 c71 d71 ⊢
        clear HIs HV17 HB17 HN27 HX7 c71 d71 hw8
        cases bad with
        | cons y ys =>
          have hd0 : decide ((0 : Int) < ((y :: ys).length : Int)) = true := decide_eq_true (by rw [List.length_cons]; omega)
          have hd1 : decide ((0 : Int) < (ys.length : Int) + 1) = true := decide_eq_true (by omega)
          clear HAdd HSm HV8 HB8
          go_wp2_with fail
          refine (awake14_calls w8).mono ?_
          rintro e w9 ⟨rfl, hx9⟩
          go_wp2_with fail
          go_ret
          exact ⟨rfl, (HXB.out.trans HX8.out).trans hx9⟩
        | nil =>
          obtain ⟨a1, a2, a3, a4, a5, a6, a7, a8⟩ := HAdd.out (by first | rfl | trivial)
          have hB8 := HB8.out
          have c80 : w8.cell? ⟨w3.heap.size, 0, none⟩ = some (.slice pa1 pn1 pc1) := hB8.cell 0
          have c81 : w8.cell? ⟨w3.heap.size, 1, none⟩ = some (.slice ta1 tn1 tc1) := hB8.cell 1
          have c82 : w8.cell? ⟨w3.heap.size, 2, none⟩ = some (.string nt1) := hB8.cell 2
          have hAd := addR_calls (HT.out.ext HX8.out) ⟨⟨pa1, pn1, pc1⟩, ⟨ta1, tn1, tc1⟩, nt1⟩ m1 _ HV8.out.rd (HSm.out (by first | rfl | trivial)) (by have := HM.out; omega) (by omega)
          have HAd := Lib.hid hAd
          dsimp only [KS.val, SliceV.val] at HAd
          clear hAd HAdd HSm hB8
          go_wp2_with fail
          refine HAd.out.mono ?_
          rintro e w9 hP9
          obtain ⟨rfl, I9, D9, hT9, _, _, hk9⟩ := hP9
          have hDl : ∀ k, D k → k < w2.heap.size := fun k hk => HT.out.ld k hk
          have hkw : Kp (fun k => w2.heap.size ≤ k) w8 w9 := hk9.mono fun k _ hw hd => by have := hDl k hd; omega
          have hB9 := HB8.out.kp hkw (by omega)
          have HV9 : Hid (New EF 39 w2.heap.size w9 (.slice ta1 tn1 tc1) m1.tree) := Lib.hid (HV8.out.t.kp hkw fun g e => HV8.out.t.2 g e)
          have HB9 := Lib.hid hB9
          have hx9 : Ext w w9 := (HXB.out.trans HX8.out).trans' hk9 fun k hk _ hd => by have := HDlo.out k hd; omega
          have HX9 := Lib.hid hx9
          clear HAd hk9 hkw hB9 hx9 c80 c81 c82 HB8 HV8 HX8
          generalize addC M 60 m1 = z at a1 a2 a3 a4 a5 a6 a7 a8 hT9 ⊢
          obtain ⟨M9, n9, e9⟩ := z
          dsimp only at a1 a2 a3 a4 a5 a6 a7 a8 hT9 ⊢
          subst a1
          have hn1 : decide ((n9 : Int) < 1) = false := decide_eq_false (by omega)
          have hA := mergeOf_calls hT9 a3 (by omega) (n9 : Int) b'
          have hBk := fun W (hW : Ext w9 W) => mergeOf_calls (hT9.ext hW) a3 (by omega) a' (n9 : Int)
          obtain ⟨⟨mA, bA, okA⟩, hrA⟩ : ∃ r, ofF M9 (n9 : Int) b' = r := ⟨_, rfl⟩
          rw [hrA] at hA a5 a6
          obtain ⟨⟨mB, bB, okB⟩, hrB⟩ : ∃ r, ofF M9 a' (n9 : Int) = r := ⟨_, rfl⟩
          rw [hrB] at hBk a7 a8
          dsimp only at a5 a6 a7 a8
          injection a5 with p1 p2
          injection a7 with p3 p4
          subst p1 p2 p3 p4
          have HA := Lib.hid hA
          have HBk := Lib.hid hBk
          have HtA := Lib.hid a6
          have HtB := Lib.hid a8
          clear hA hBk hrA hrB a2 a3 a4 a6 a8 hT9
          go_wp2_with fail
          refine HA.out.mono ?_
          rintro e w10 ⟨s3, u3, rfl, hV3, hU3, hx10⟩
          obtain ⟨⟨pa3, pn3, pc3⟩, ⟨ta3, tn3, tc3⟩, nt3⟩ := s3
          obtain ⟨Z3, ze3, rfl, _⟩ := hU3.1.rd.open_
          have hbz : Ext w10 (w10.alloc (.cells #[.slice pa3 pn3 pc3, .slice ta3 tn3 tc3, .string nt3] 42)) := (Kp.refl _ _).alloc _
          have HB3 := Lib.hid (Blk.new w10 42 #[.slice pa3 pn3 pc3, .slice ta3 tn3 tc3, .string nt3])
          have hv3 := (hV3.rd.ext hbz).t
          rw [HtA.out] at hv3
          have HV3 := Lib.hid hv3
          have HX11 := Lib.hid (hx10.trans hbz)
          have hb10 : w10.heap.size < (w10.alloc (.cells #[.slice pa3 pn3 pc3, .slice ta3 tn3 tc3, .string nt3] 42)).heap.size := by simp
          have hBk2 := Lib.hid (HBk.out _ HX11.out)
          clear HA HBk hV3 hU3 hx10 hbz hv3 HtA
          dsimp only [KS.val, SliceV.val]
          go_wp2_with fail
          generalize (w10.alloc (.cells #[.slice pa3 pn3 pc3, .slice ta3 tn3 tc3, .string nt3] 42)) = w11 at HB3 HV3 HX11 hb10 hBk2 ⊢
          refine hBk2.out.mono ?_
          rintro e w12 ⟨s4, u4, rfl, hV4, hU4, hx12⟩
          obtain ⟨⟨pa4, pn4, pc4⟩, ⟨ta4, tn4, tc4⟩, nt4⟩ := s4
          obtain ⟨Z4, ze4, rfl, _⟩ := hU4.1.rd.open_
          have hbu : Ext w12 (w12.alloc (.cells #[.slice pa4 pn4 pc4, .slice ta4 tn4 tc4, .string nt4] 42)) := (Kp.refl _ _).alloc _
          have hB4 := Blk.new w12 42 #[.slice pa4 pn4 pc4, .slice ta4 tn4 tc4, .string nt4]
          have hv4 := (hV4.rd.ext hbu).t
          rw [HtB.out] at hv4
          have HV4 := Lib.hid hv4
          have HX13 := Lib.hid (HX11.out.trans (hx12.trans hbu))
          have hB3' := HB3.out.ext (hx12.trans hbu)
          have hB1' := HB9.out.ext HX13.out
          have e1 : (w12.alloc (.cells #[.slice pa4 pn4 pc4, .slice ta4 tn4 tc4, .string nt4] 42)).cell? ⟨w3.heap.size, 1, none⟩ = some (.slice ta1 tn1 tc1) := hB1'.cell 1
          have e3 : (w12.alloc (.cells #[.slice pa4 pn4 pc4, .slice ta4 tn4 tc4, .string nt4] 42)).cell? ⟨w10.heap.size, 1, none⟩ = some (.slice ta3 tn3 tc3) := hB3'.cell 1
          have HB313 := Lib.hid hB3'
          have HB113 := Lib.hid hB1'
          have HB413 := Lib.hid hB4
          have HV313 := Lib.hid (HV3.out.kp (Kp.of_ext (hx12.trans hbu)))
          have hS1 := sameFiles_calls _ _ _ _ _ _ (w12.alloc (.cells #[.slice pa4 pn4 pc4, .slice ta4 tn4 tc4, .string nt4] 42)) HV313.out ((HV9.out.ext HX13.out).rdF)
          rw [sameB_refl] at hS1
          have HS1 := Lib.hid hS1
          clear hBk2 HB3 HV3 HX11 hV4 hU4 hx12 hbu hB4 hv4 hB3' hB1' hS1 HtB
          dsimp only [KS.val, SliceV.val]
          go_wp2_with fail
          generalize (w12.alloc (.cells #[.slice pa4 pn4 pc4, .slice ta4 tn4 tc4, .string nt4] 42)) = w13 at HB313 HB113 HB413 HV313 HV4 HX13 HS1 e1 e3 ⊢
          refine HS1.out.mono ?_
          rintro e w14 ⟨rfl, hx14⟩
          have f1 : w14.cell? ⟨w3.heap.size, 1, none⟩ = some (.slice ta1 tn1 tc1) := (HB113.out.ext hx14).cell 1
          have f4 : w14.cell? ⟨w12.heap.size, 1, none⟩ = some (.slice ta4 tn4 tc4) := (HB413.out.ext hx14).cell 1
          have hS2 := sameFiles_calls _ _ _ _ _ _ w14 (HV4.out.kp (Kp.of_ext hx14)) ((HV9.out.ext (HX13.out.trans hx14)).rdF)
          rw [sameB_refl] at hS2
          have HS2 := Lib.hid hS2
          have HX14 := Lib.hid (HX13.out.trans hx14)
          clear HS1 hx14 e1 e3 hS2 HV4 HV313 HB313 HB113 HB413 HX13 HV9
          go_wp2_with fail
          refine HS2.out.mono ?_
          rintro e w15 ⟨rfl, hx15⟩
          have HX15 := Lib.hid ((HX9.out.trans HX14.out).trans hx15)
          clear HS2 hx15 f1 f4
          go_wp2_with fail
          refine (awake14_calls w15).mono ?_
          rintro e w16 ⟨rfl, hx16⟩
          go_wp2_with fail
          go_ret
          exact ⟨rfl, HX15.out.trans hx16⟩
      | true =>
        obtain ⟨hbad, htr⟩ := HIs.out rfl
        subst hbad
        have hS7 := sameFiles_calls _ _ _ _ _ _ w7 HV17.out.t.rdF HN27.out.rdF
        rw [htr, sameB_refl] at hS7
        have HS7 := Lib.hid hS7
        clear hS7 htr HIs
        go_wp2_with fail
        refine HS7.out.mono ?_
        rintro e w8 ⟨rfl, hx8⟩
        have HX8 := Lib.hid (HX7.out.trans hx8)
        have HV8 := Lib.hid (HV17.out.ext hx8)
        have HB8 := Lib.hid (HB17.out.ext hx8)
        clear HS7 hx8 c71 d71 HX7 HV17 HB17 HN27
        obtain ⟨a1, a2, a3, a4, a5, a6, a7, a8⟩ := HAdd.out (by first | rfl | trivial)
        have hB8 := HB8.out
        have c80 : w8.cell? ⟨w3.heap.size, 0, none⟩ = some (.slice pa1 pn1 pc1) := hB8.cell 0
        have c81 : w8.cell? ⟨w3.heap.size, 1, none⟩ = some (.slice ta1 tn1 tc1) := hB8.cell 1
        have c82 : w8.cell? ⟨w3.heap.size, 2, none⟩ = some (.string nt1) := hB8.cell 2
        have hAd := addR_calls (HT.out.ext HX8.out) ⟨⟨pa1, pn1, pc1⟩, ⟨ta1, tn1, tc1⟩, nt1⟩ m1 _ HV8.out.rd (HSm.out (by first | rfl | trivial)) (by have := HM.out; omega) (by omega)
        have HAd := Lib.hid hAd
        dsimp only [KS.val, SliceV.val] at HAd
        clear hAd HAdd HSm hB8
        go_wp2_with fail
        refine HAd.out.mono ?_
        rintro e w9 hP9
        obtain ⟨rfl, I9, D9, hT9, _, _, hk9⟩ := hP9
        have hDl : ∀ k, D k → k < w2.heap.size := fun k hk => HT.out.ld k hk
        have hkw : Kp (fun k => w2.heap.size ≤ k) w8 w9 := hk9.mono fun k _ hw hd => by have := hDl k hd; omega
        have hB9 := HB8.out.kp hkw (by omega)
        have HV9 : Hid (New EF 39 w2.heap.size w9 (.slice ta1 tn1 tc1) m1.tree) := Lib.hid (HV8.out.t.kp hkw fun g e => HV8.out.t.2 g e)
        have HB9 := Lib.hid hB9
        have hx9 : Ext w w9 := (HXB.out.trans HX8.out).trans' hk9 fun k hk _ hd => by have := HDlo.out k hd; omega
        have HX9 := Lib.hid hx9
        clear HAd hk9 hkw hB9 hx9 c80 c81 c82 HB8 HV8 HX8
        generalize addC M 60 m1 = z at a1 a2 a3 a4 a5 a6 a7 a8 hT9 ⊢
        obtain ⟨M9, n9, e9⟩ := z
        dsimp only at a1 a2 a3 a4 a5 a6 a7 a8 hT9 ⊢
        subst a1
        have hn1 : decide ((n9 : Int) < 1) = false := decide_eq_false (by omega)
        have hA := mergeOf_calls hT9 a3 (by omega) (n9 : Int) b'
        have hBk := fun W (hW : Ext w9 W) => mergeOf_calls (hT9.ext hW) a3 (by omega) a' (n9 : Int)
        obtain ⟨⟨mA, bA, okA⟩, hrA⟩ : ∃ r, ofF M9 (n9 : Int) b' = r := ⟨_, rfl⟩
        rw [hrA] at hA a5 a6
        obtain ⟨⟨mB, bB, okB⟩, hrB⟩ : ∃ r, ofF M9 a' (n9 : Int) = r := ⟨_, rfl⟩
        rw [hrB] at hBk a7 a8
        dsimp only at a5 a6 a7 a8
        injection a5 with p1 p2
        injection a7 with p3 p4
        subst p1 p2 p3 p4
        have HA := Lib.hid hA
        have HBk := Lib.hid hBk
        have HtA := Lib.hid a6
        have HtB := Lib.hid a8
        clear hA hBk hrA hrB a2 a3 a4 a6 a8 hT9
        go_wp2_with fail
        refine HA.out.mono ?_
        rintro e w10 ⟨s3, u3, rfl, hV3, hU3, hx10⟩
        obtain ⟨⟨pa3, pn3, pc3⟩, ⟨ta3, tn3, tc3⟩, nt3⟩ := s3
        obtain ⟨Z3, ze3, rfl, _⟩ := hU3.1.rd.open_
        have hbz : Ext w10 (w10.alloc (.cells #[.slice pa3 pn3 pc3, .slice ta3 tn3 tc3, .string nt3] 42)) := (Kp.refl _ _).alloc _
        have HB3 := Lib.hid (Blk.new w10 42 #[.slice pa3 pn3 pc3, .slice ta3 tn3 tc3, .string nt3])
        have hv3 := (hV3.rd.ext hbz).t
        rw [HtA.out] at hv3
        have HV3 := Lib.hid hv3
        have HX11 := Lib.hid (hx10.trans hbz)
        have hb10 : w10.heap.size < (w10.alloc (.cells #[.slice pa3 pn3 pc3, .slice ta3 tn3 tc3, .string nt3] 42)).heap.size := by simp
        have hBk2 := Lib.hid (HBk.out _ HX11.out)
        clear HA HBk hV3 hU3 hx10 hbz hv3 HtA
        dsimp only [KS.val, SliceV.val]
        go_wp2_with fail
        generalize (w10.alloc (.cells #[.slice pa3 pn3 pc3, .slice ta3 tn3 tc3, .string nt3] 42)) = w11 at HB3 HV3 HX11 hb10 hBk2 ⊢
        refine hBk2.out.mono ?_
        rintro e w12 ⟨s4, u4, rfl, hV4, hU4, hx12⟩
        obtain ⟨⟨pa4, pn4, pc4⟩, ⟨ta4, tn4, tc4⟩, nt4⟩ := s4
        obtain ⟨Z4, ze4, rfl, _⟩ := hU4.1.rd.open_
        have hbu : Ext w12 (w12.alloc (.cells #[.slice pa4 pn4 pc4, .slice ta4 tn4 tc4, .string nt4] 42)) := (Kp.refl _ _).alloc _
        have hB4 := Blk.new w12 42 #[.slice pa4 pn4 pc4, .slice ta4 tn4 tc4, .string nt4]
        have hv4 := (hV4.rd.ext hbu).t
        rw [HtB.out] at hv4
        have HV4 := Lib.hid hv4
        have HX13 := Lib.hid (HX11.out.trans (hx12.trans hbu))
        have hB3' := HB3.out.ext (hx12.trans hbu)
        have hB1' := HB9.out.ext HX13.out
        have e1 : (w12.alloc (.cells #[.slice pa4 pn4 pc4, .slice ta4 tn4 tc4, .string nt4] 42)).cell? ⟨w3.heap.size, 1, none⟩ = some (.slice ta1 tn1 tc1) := hB1'.cell 1
        have e3 : (w12.alloc (.cells #[.slice pa4 pn4 pc4, .slice ta4 tn4 tc4, .string nt4] 42)).cell? ⟨w10.heap.size, 1, none⟩ = some (.slice ta3 tn3 tc3) := hB3'.cell 1
        have HB313 := Lib.hid hB3'
        have HB113 := Lib.hid hB1'
        have HB413 := Lib.hid hB4
        have HV313 := Lib.hid (HV3.out.kp (Kp.of_ext (hx12.trans hbu)))
        have hS1 := sameFiles_calls _ _ _ _ _ _ (w12.alloc (.cells #[.slice pa4 pn4 pc4, .slice ta4 tn4 tc4, .string nt4] 42)) HV313.out ((HV9.out.ext HX13.out).rdF)
        rw [sameB_refl] at hS1
        have HS1 := Lib.hid hS1
        clear hBk2 HB3 HV3 HX11 hV4 hU4 hx12 hbu hB4 hv4 hB3' hB1' hS1 HtB
        dsimp only [KS.val, SliceV.val]
        go_wp2_with fail
        generalize (w12.alloc (.cells #[.slice pa4 pn4 pc4, .slice ta4 tn4 tc4, .string nt4] 42)) = w13 at HB313 HB113 HB413 HV313 HV4 HX13 HS1 e1 e3 ⊢
        refine HS1.out.mono ?_
        rintro e w14 ⟨rfl, hx14⟩
        have f1 : w14.cell? ⟨w3.heap.size, 1, none⟩ = some (.slice ta1 tn1 tc1) := (HB113.out.ext hx14).cell 1
        have f4 : w14.cell? ⟨w12.heap.size, 1, none⟩ = some (.slice ta4 tn4 tc4) := (HB413.out.ext hx14).cell 1
        have hS2 := sameFiles_calls _ _ _ _ _ _ w14 (HV4.out.kp (Kp.of_ext hx14)) ((HV9.out.ext (HX13.out.trans hx14)).rdF)
        rw [sameB_refl] at hS2
        have HS2 := Lib.hid hS2
        have HX14 := Lib.hid (HX13.out.trans hx14)
        clear HS1 hx14 e1 e3 hS2 HV4 HV313 HB313 HB113 HB413 HX13 HV9
        go_wp2_with fail
        refine HS2.out.mono ?_
        rintro e w15 ⟨rfl, hx15⟩
        have HX15 := Lib.hid ((HX9.out.trans HX14.out).trans hx15)
        clear HS2 hx15 f1 f4
        go_wp2_with fail
        refine (awake14_calls w15).mono ?_
        rintro e w16 ⟨rfl, hx16⟩
        go_wp2_with fail
        go_ret
        exact ⟨rfl, HX15.out.trans hx16⟩

end Go.Proofs.YtgjbfkaepalkiaaGreatDoor
