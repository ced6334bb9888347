/-
  Plain: the base of two commits: which one is which does not matter; it is a tree; of one that the other came of it is that one's tree. fold: tree, Deep, Base. cortegelaw13: awake.
-/
import Derived.Test.YtgjbfkaepalkiaaGreatDoorDagQ
import Derived.Test.YtgjbfkaepalkiaaGreatDoorSides9P
import Derived.Test.YtgjbfkaepalkiaaGreatDoorBestW
import Derived.Test.YtgjbfkaepalkiaaGreatDoorSwapM
import Derived.Test.YtgjbfkaepalkiaaGreatDoorMade
namespace Go.Proofs.YtgjbfkaepalkiaaGreatDoor
open Go.RowKit
set_option linter.unusedVariables false
set_option linter.unusedSimpArgs false

theorem goA_iff {cs : List Cm} (T : Int → Prop) : ∀ {k : Nat} {mk : Int → Bool}, (∀ x : Int, 1 ≤ x → x ≤ k → mk x = true → T x) → (∀ c, T c → ∀ p ∈ parentsC cs c, T p) → ∀ x ∈ goA cs k mk, T x
  | 0, _, _, _, x, h => by cases h
  | k + 1, mk, hm, hc, x, h => by
    unfold goA at h
    split at h
    · rename_i h1
      have hT : T ((k : Int) + 1) := hm _ (by omega) (by omega) h1
      rcases List.mem_cons.1 h with rfl | h
      · exact hT
      · refine goA_iff T (fun y a b hy => ?_) hc x h
        simp only [Bool.or_eq_true, List.contains_eq_mem, decide_eq_true_eq] at hy
        rcases hy with hy | hy
        · exact hm y a (by omega) hy
        · exact hc _ hT y hy
    · exact goA_iff T (fun y a b hy => hm y a (by omega) hy) hc x h
theorem goA_mark {cs : List Cm} : ∀ {k : Nat} {mk : Int → Bool} {x : Int}, 1 ≤ x → x ≤ k → mk x = true → x ∈ goA cs k mk
  | 0, _, x, h1, h2, _ => by omega
  | k + 1, mk, x, h1, h2, h3 => by
    unfold goA
    by_cases he : x = (k : Int) + 1
    · subst he
      rw [if_pos h3]
      exact List.mem_cons_self ..
    · split
      · exact List.mem_cons_of_mem _ (goA_mark h1 (by omega) (by simp [h3]))
      · exact goA_mark h1 (by omega) h3
theorem goA_closed {cs : List Cm} (hG : GoodR cs) : ∀ {k : Nat} {mk : Int → Bool} {c p : Int}, c ∈ goA cs k mk → p ∈ parentsC cs c → p ∈ goA cs k mk
  | 0, _, c, p, h, _ => by cases h
  | k + 1, mk, c, p, h, hp => by
    have hpl := parents_lt hG hp
    have hcl := goA_le c h
    unfold goA at h ⊢
    split at h
    · rename_i h1
      rw [if_pos h1]
      rcases List.mem_cons.1 h with rfl | h
      · exact List.mem_cons_of_mem _ (goA_mark hpl.1 (by omega) (by simp [hp]))
      · exact List.mem_cons_of_mem _ (goA_closed hG h hp)
    · rename_i h1
      rw [if_neg h1]
      exact goA_closed hG h hp
theorem aheadF_self {cs : List Cm} {n : Int} (h : 1 ≤ n ∧ n ≤ cs.length) : n ∈ aheadF cs n := by
  unfold aheadF
  rw [if_pos ((getC_isSome cs n).2 h)]
  exact goA_mark h.1 (by omega) (by simp)
theorem aheadF_sub {cs : List Cm} (hG : GoodR cs) {a b : Int} (h : a ∈ aheadF cs b) : ∀ x ∈ aheadF cs a, x ∈ aheadF cs b := fun x hx => by
  have hb : (getC cs b).isSome = true := by
    unfold aheadF at h
    split at h
    · assumption
    · cases h
  have hc : ∀ c ∈ aheadF cs b, ∀ p ∈ parentsC cs c, p ∈ aheadF cs b := fun c hc p hp => by
    unfold aheadF at hc ⊢
    rw [if_pos hb] at hc ⊢
    exact goA_closed hG hc hp
  have ha : (getC cs a).isSome = true := by
    unfold aheadF at hx
    split at hx
    · assumption
    · cases hx
  rw [show aheadF cs a = goA cs a.toNat (fun x => decide (x = a)) from if_pos ha] at hx
  exact goA_iff (fun y => y ∈ aheadF cs b) (fun y h1 h2 h3 => by have := of_decide_eq_true h3; subst this; exact h) hc x hx

theorem desc_unique : ∀ {l m : List Int}, l.Pairwise (· > ·) → m.Pairwise (· > ·) → (∀ x, x ∈ l ↔ x ∈ m) → l = m
  | [], [], _, _, _ => rfl
  | [], y :: m, _, _, h => by have := (h y).2 (List.mem_cons_self ..); cases this
  | x :: l, [], _, _, h => by have := (h x).1 (List.mem_cons_self ..); cases this
  | x :: l, y :: m, h1, h2, h => by
    have a1 := (List.pairwise_cons.1 h1).1
    have a2 := (List.pairwise_cons.1 h2).1
    have e : x = y := by
      rcases List.mem_cons.1 ((h x).1 (List.mem_cons_self ..)) with e | e
      · exact e
      · rcases List.mem_cons.1 ((h y).2 (List.mem_cons_self ..)) with e' | e'
        · exact e'.symm
        · have b1 := a2 x e
          have b2 := a1 y e'
          omega
    subst e
    rw [desc_unique (List.pairwise_cons.1 h1).2 (List.pairwise_cons.1 h2).2 fun z => ?_]
    constructor
    · intro hz
      rcases List.mem_cons.1 ((h z).1 (List.mem_cons_of_mem _ hz)) with e | e
      · have b := a1 z hz; omega
      · exact e
    · intro hz
      rcases List.mem_cons.1 ((h z).2 (List.mem_cons_of_mem _ hz)) with e | e
      · have b := a2 z hz; omega
      · exact e
theorem commonF_swap (cs : List Cm) (a b : Int) : commonF cs b a = commonF cs a b := by
  unfold commonF
  congr 1
  refine desc_unique ((aheadF_sorted cs b).sublist List.filter_sublist) ((aheadF_sorted cs a).sublist List.filter_sublist) fun x => ?_
  simp only [List.mem_filter, List.contains_eq_mem, decide_eq_true_eq]
  exact And.comm
theorem bestF_swap (cs : List Cm) (a b : Int) : bestF cs b a = bestF cs a b := by
  unfold bestF
  rw [commonF_swap]
theorem bestGo_cov {cs : List Cm} : ∀ {l cov : List Int}, (∀ x ∈ l, x ∈ cov) → bestGo cs l cov = []
  | [], _, _ => rfl
  | n :: r, cov, h => by
    unfold bestGo
    rw [if_pos (by simpa using h n (List.mem_cons_self ..))]
    exact bestGo_cov fun x hx => h x (List.mem_cons_of_mem _ hx)
/-- Of two of which the one came of the other. -/
theorem bestF_is {cs : List Cm} (hG : GoodR cs) {a b : Int} (h : a ∈ aheadF cs b) : bestF cs a b = [a] := by
  have hb := aheadF_le a h
  have ha : 1 ≤ a ∧ a ≤ cs.length := by omega
  have hf : ((aheadF cs a).filter fun n => (aheadF cs b).contains n) = aheadF cs a := List.filter_eq_self.2 fun x hx => by simpa using aheadF_sub hG h x hx
  unfold bestF commonF
  rw [hf, List.reverse_reverse]
  obtain ⟨k, hk⟩ : ∃ k : Nat, a = (k : Int) + 1 := ⟨(a - 1).toNat, by omega⟩
  have he : aheadF cs a = a :: goA cs k (fun x => decide (x = a) || (parentsC cs a).contains x) := by
    unfold aheadF
    rw [if_pos ((getC_isSome cs a).2 ha)]
    subst hk
    rw [show ((k : Int) + 1).toNat = k + 1 by omega]
    show (if decide ((k : Int) + 1 = (k : Int) + 1) = true then _ else _) = _
    rw [if_pos (by simp)]
  have hg : bestGo cs (aheadF cs a) [] = a :: bestGo cs (goA cs k (fun x => decide (x = a) || (parentsC cs a).contains x)) ([] ++ aheadF cs a) := by
    conv => lhs; rw [he]
    rfl
  rw [hg, bestGo_cov (fun x hx => by rw [List.nil_append, he]; exact List.mem_cons_of_mem _ hx)]
  rfl

/-- One tree of all that two have in common, so deep. -/
def deepF (cs : List Cm) : Nat → Int → Int → List File
  | 0, _, _ => []
  | d + 1, a, b => match bestF cs a b with
    | [] => []
    | m :: rest => (rest.take 2).foldl (fun out n => virtOf textM (deepF cs d m n) out (treeC cs n)) (treeC cs m)
theorem deepF_swap (cs : List Cm) (d : Nat) (a b : Int) : deepF cs d b a = deepF cs d a b := by
  cases d with
  | zero => rfl
  | succ d => unfold deepF; rw [bestF_swap]
theorem treeC_may {cs : List Cm} (hG : GoodR cs) (n : Int) : mayB (treeC cs n) = true := by
  unfold treeC
  cases hc : getC cs n with
  | none => exact nil_may
  | some c =>
    obtain ⟨h1, h2, h3⟩ := getC_some hc
    obtain ⟨hk, rfl⟩ := List.getElem?_eq_some_iff.1 h3
    exact mayC_tree (hG _ hk).2.1
theorem foldV_may {cs : List Cm} {f : Int → List File} : ∀ {l : List Int} {t : List File}, mayB t = true → mayB (l.foldl (fun out n => virtOf textM (f n) out (treeC cs n)) t) = true
  | [], t, h => h
  | n :: l, t, h => by rw [List.foldl_cons]; exact foldV_may (virtOf_tree _ _ _)
theorem deepF_may {cs : List Cm} (hG : GoodR cs) (d : Nat) (a b : Int) : mayB (deepF cs d a b) = true := by
  cases d with
  | zero => exact nil_may
  | succ d =>
    unfold deepF
    split
    · exact nil_may
    · exact foldV_may (treeC_may hG _)
theorem deepF_nil {cs : List Cm} {d : Nat} {a b : Int} (h : bestF cs a b = []) : deepF cs d a b = [] := by
  cases d with
  | zero => rfl
  | succ d => unfold deepF; rw [h]
theorem deepF_one {cs : List Cm} {d : Nat} {a b m : Int} (h : bestF cs a b = [m]) : deepF cs (d + 1) a b = treeC cs m := by
  unfold deepF; rw [h]; rfl

/-! ### Two merges of the same two commits -/
/-- Five commits: a root, two that came of it, two merges of these. -/
def crossC (root one two both : List File) : List Cm := [⟨[], root, ⟨#[]⟩⟩, ⟨[1], one, ⟨#[]⟩⟩, ⟨[1], two, ⟨#[]⟩⟩, ⟨[2, 3], both, ⟨#[]⟩⟩, ⟨[3, 2], both, ⟨#[]⟩⟩]
theorem cross_best (root one two both : List File) : bestF (crossC root one two both) 4 5 = [2, 3] := by rfl
theorem cross_low (root one two both : List File) : bestF (crossC root one two both) 2 3 = [1] := by rfl
theorem cross_deep (d : Nat) (root one two both : List File) : deepF (crossC root one two both) (d + 2) 4 5 = virtOf textM root one two := by
  rw [deepF, cross_best]
  show virtOf textM (deepF _ (d + 1) 2 3) (treeC _ 2) (treeC _ 3) = _
  rw [deepF_one (cross_low ..)]
  rfl

end Go.Proofs.YtgjbfkaepalkiaaGreatDoor

namespace Go.Proofs.YtgjbfkaepalkiaaGreatDoor
open Go.RowKit
set_option linter.unusedVariables false
set_option linter.unusedSimpArgs false
attribute [local go_sem] Oper.semAt_some

theorem may_len {xs : List File} (h : mayB xs = true) : xs.length ≤ 1000 := by have := ((mayB_iff _).1 h).few; omega
theorem may_size {xs : List File} (h : mayB xs = true) : ∀ y ∈ xs, y.path.size ≤ 1000000 := fun y hy => by
  have h1 := (((mayB_iff _).1 h).each y hy).1
  unfold pathB at h1
  simp only [Bool.and_eq_true, decide_eq_true_eq] at h1
  have := h1.1.1.2
  omega
/-- join.Virtual, join.Of, of trees. -/
theorem virtM_calls (v1 v2 v3 : Value) (xs ys zs : List File) (w : World) (hA : RdF w v1 xs) (hB : RdF w v2 ys) (hC : RdF w v3 zs) (g1 : mayB xs = true) (g2 : mayB ys = true) (g3 : mayB zs = true) :
    Calls Tryz.prog 59 #[v1, v2, v3] w (VirtPost w (virtOf textM xs ys zs)) :=
  virtOf_calls textM v1 v2 v3 xs ys zs _ w hA hB hC (may_len g1) (may_len g2) (may_len g3) (may_size g1) (may_size g2) (may_size g3) (fun _ => gathF_size _ _ (may_size g1) (may_size g2) (may_size g3)) fun h p _ => may3_merge h p
theorem ofM_calls (v1 v2 v3 : Value) (xs ys zs : List File) (w : World) (hA : RdF w v1 xs) (hB : RdF w v2 ys) (hC : RdF w v3 zs) (g1 : mayB xs = true) (g2 : mayB ys = true) (g3 : mayB zs = true) :
    Calls Tryz.prog 71 #[v1, v2, v3] w (JoinPost w (joinOf textM xs ys zs).1 (joinOf textM xs ys zs).2) :=
  joinOf_calls textM v1 v2 v3 xs ys zs _ w hA hB hC (may_len g1) (may_len g2) (may_len g3) (may_size g1) (may_size g2) (may_size g3) (fun _ => gathF_size _ _ (may_size g1) (may_size g2) (may_size g3)) fun h p _ => may3_merge h p

section
variable {I D : Fp} {rb : Nat} {cs : List Cm} {room : Nat} {w : World}
def FilesPost (w : World) (xs : List File) (e : Ending) (w' : World) : Prop := ∃ u, e = .returned u ∧ New EF 39 w.heap.size w' u xs ∧ Ext w w'

theorem treeF_calls (h : RepoX repoT I D w rb cs room) (n : Int) (hs : SmallR cs) : Calls Tryz.prog 58 #[.pointer (some ⟨rb, 0, none⟩), .int .i64 n] w (FilesPost w (treeC cs n)) := by
  have hG := getR_calls h n hs
  have HG := Lib.hid hG
  clear hG h hs
  go_enter Tryz.func58, Tryz.ntmps58
  go_wp2_with fail
  refine HG.out.mono ?_
  rintro e w1 ⟨sv, ok, c, rfl, ⟨k, rfl, hN⟩, hx1, hok⟩
  have htc : treeC cs n = c.tree := by
    unfold treeC
    rcases hok with ⟨_, h⟩ | ⟨_, h, rfl⟩
    · rw [h]; rfl
    · rw [h]; rfl
  have HTC := Lib.hid htc
  obtain ⟨⟨pa, pn, pc⟩, ⟨ta, tn, tc⟩, nt⟩ := k
  have HN := Lib.hid hN
  have HX := Lib.hid hx1
  clear HG hok htc hN hx1
  dsimp only [SliceV.val, KS.val] at HN ⊢
  go_wp2_with fail
  go_ret
  rw [HTC.out]
  exact ⟨_, rfl, HN.out.t.ext ((Kp.refl _ _).alloc _), HX.out.alloc _⟩

/-- What Deep does, so deep. -/
def DeepSt (cs : List Cm) (rb : Nat) (w : World) (d : Nat) : Prop := ∀ (deep : Int), (min deep 4).toNat = d → ∀ (a b : Int) (W : World), Ext w W →
  Calls Tryz.prog 20 #[.pointer (some ⟨rb, 0, none⟩), .int .i64 a, .int .i64 b, .int .i64 deep] W (FilesPost W (deepF cs d a b))

theorem deep0_calls (h : RepoX repoT I D w rb cs room) (hG : GoodR cs) (hn : cs.length ≤ 300) : DeepSt cs rb w 0 := by
  intro deep hd a b W hW
  have HB := Lib.hid (best_calls (h.ext hW) hG hn a b)
  obtain ⟨m, hm⟩ : ∃ m, min deep 4 = m := ⟨_, rfl⟩
  rw [hm] at hd
  have hd1 : decide (m < 1) = true := decide_eq_true (by omega)
  have hl := bestF_len cs a b
  clear h hG
  show Calls _ _ _ W (FilesPost W [])
  go_enter Tryz.func20, Tryz.ntmps20
  go_wp2_with fail
  refine HB.out.mono ?_
  rintro e w1 ⟨u, rfl, hN, hx1⟩
  obtain ⟨A, n, c, rfl⟩ := hN.1.slice
  clear HB hN
  go_wp2_with fail
  go_ret
  exact ⟨_, rfl, New.nil _ _ _, hx1⟩

set_option maxHeartbeats 2000000 in
theorem deepS_calls (h : RepoX repoT I D w rb cs room) (hG : GoodR cs) (hn : cs.length ≤ 300) (d : Nat) (hd3 : d ≤ 3) (IH : DeepSt cs rb w d) : DeepSt cs rb w (d + 1) := by
  intro deep hd a b W hW
  have HB := Lib.hid (best_calls (h.ext hW) hG hn a b)
  have hm : min deep 4 = (d : Int) + 1 := by omega
  have hd1 : decide ((d : Int) + 1 < 1) = false := decide_eq_false (by omega)
  have hl := bestF_len cs a b
  have HIH := Lib.hid IH
  have HT := Lib.hid fun W' (hx : Ext w W') n => treeF_calls (h.ext hx) n hG.small
  have HMT := Lib.hid fun n => treeC_may hG n
  have HMD := Lib.hid fun a b => deepF_may hG d a b
  have hv : deepF cs (d + 1) a b = match bestF cs a b with
    | [] => []
    | m :: rest => (rest.take 2).foldl (fun out n => virtOf textM (deepF cs d m n) out (treeC cs n)) (treeC cs m) := rfl
  clear h IH
  generalize bestF cs a b = bs at HB hl hv
  generalize deepF cs (d + 1) a b = res at hv ⊢
  have hw1 : IntKind.i64.wrap (d : Int) = (d : Int) := IntWalk.i64_in _ (by omega)
  cases bs with
  | nil =>
    subst hv
    go_enter Tryz.func20, Tryz.ntmps20
    go_wp2_with fail
    refine HB.out.mono ?_
    rintro e w1 ⟨u, rfl, hN, hx1⟩
    obtain ⟨A, c, rfl, hO⟩ := hN.1.rd.open_
    clear HB hN hO
    go_wp2_with fail
    go_ret
    exact ⟨_, rfl, New.nil _ _ _, hx1⟩
  | cons mm rest =>
    dsimp only at hv
    have HV := Lib.hid hv
    clear hv
    go_enter Tryz.func20, Tryz.ntmps20
    go_wp2_with fail
    refine HB.out.mono ?_
    rintro e w1 ⟨u, rfl, hN, hx1⟩
    obtain ⟨A, c, rfl, hO⟩ := hN.1.rd.open_
    have hle := hO.le
    have hmx := hO.max
    obtain ⟨bb, off, rfl, _, hbl, e0⟩ := hO.rd.num (i := 0) (by simp)
    have e0' : w1.cell? ⟨bb, off, none⟩ = some (.int .i64 mm) := e0
    have HO := Lib.hid fun W' (hW : Ext w1 W') => hO.rd.kp (hW.mono fun _ _ _ => trivial)
    obtain ⟨n, hln⟩ : ∃ n, (mm :: rest).length = n := ⟨_, rfl⟩
    have hn0 : 0 < n := by rw [← hln]; simp
    rw [hln] at hle hl ⊢
    have HLN := Lib.hid hln
    have h0n : (0 : Int) < (n : Int) := by omega
    have hnz : ((n : Int) == 0) = false := by rw [beq_eq_false_iff_ne]; omega
    have HX1 := Lib.hid (hW.trans hx1)
    have HXW := Lib.hid hx1
    clear HB hN hO e0 hln hx1
    go_wp2_with fail
    refine (HT.out _ HX1.out mm).mono ?_
    rintro e w2 ⟨u2, rfl, hN2, hx2⟩
    obtain ⟨B2, n2, c2, rfl⟩ := hN2.1.slice
    obtain ⟨q, hq⟩ : ∃ q, min n 3 = q := ⟨_, rfl⟩
    have hq3 : min (n : Int) 3 = (q : Int) := by omega
    have hq1 : (1 : Int) ≤ (q : Int) := by omega
    have hqc : (q : Int) ≤ (c : Int) := by omega
    have hqn : q ≤ 3 := by omega
    have hcc : (0 : Int) ≤ 1 := by omega
    have hbl2 : bb < w2.heap.size := hx2.lt hbl
    have e02 : w2.cell? ⟨bb, off, none⟩ = some (.int .i64 mm) := (hx2.cell (p := ⟨bb, off, none⟩) hbl trivial).trans e0'
    have HN2 := Lib.hid hN2
    have HX2 := Lib.hid hx2
    clear hN2 e0'
    have HQ := Lib.hid hq
    have HLE := Lib.hid hle
    have hxw := HX1.out.trans hx2
    clear hq hx2 hm hd
    go_wp2_with fail
    all_goals
      go_loopw [10, 37] (fun o i wr => ∃ k : Nat, k ≤ q - 1 ∧ i = .int .i64 k ∧ New EF 39 W.heap.size wr o (((rest.take 2).take k).foldl (fun out n => virtOf textM (deepF cs d mm n) out (treeC cs n)) (treeC cs mm)) ∧ Ext w2 wr) (fun _ i _ => q - 1 - (intOf i).toNat)
      case atStart => exact ⟨0, Nat.zero_le _, rfl, HN2.out.less HXW.out.size, Kp.refl _ _⟩
      case round =>
        obtain ⟨k, hk, rfl, hN, hx⟩ := hrel
        rename World => wo
        obtain ⟨Ao, no, co, ho⟩ := hN.1.slice
        subst ho
        have hmay : Hid (mayB (((rest.take 2).take k).foldl (fun out n => virtOf textM (deepF cs d mm n) out (treeC cs n)) (treeC cs mm)) = true) := Lib.hid (foldV_may (HMT.out mm))
        by_cases hlt : k < q - 1
        · first
          | (exfalso; have := HQ.out; have := HLE.out; omega)
          | (have hd5 : decide ((k : Int) < ((q - 1 : Nat) : Int)) = true := decide_eq_true (by omega)
             have hkr : k < rest.length := by have := HLN.out; have := HQ.out; rw [List.length_cons] at *; omega
             have hk2 : k < 2 := by omega
             have hkt : k < (rest.take 2).length := by rw [List.length_take]; omega
             obtain ⟨bb', off', hA', _, _, hc'⟩ := (HO.out wo (HX2.out.trans hx)).num (i := k + 1) (by rw [List.length_cons]; omega)
             injection hA' with hA'
             injection hA' with e1 e2
             subst e1 e2
             rw [List.getElem_cons_succ, show off + (k + 1) = off + 1 + k by omega] at hc'
             have hgt : (rest.take 2)[k] = rest[k] := List.getElem_take
             have HS : Hid ((rest.take 2).take (k + 1) = (rest.take 2).take k ++ [rest[k]]) := Lib.hid (by rw [List.take_succ_eq_append_getElem hkt, hgt])
             have e0o : wo.cell? ⟨bb, off, none⟩ = some (.int .i64 mm) := (hx.cell (p := ⟨bb, off, none⟩) hbl2 trivial).trans e02
             generalize rest[k] = y at hc' HS hgt
             have h0k : (0 : Int) ≤ (k : Int) := by omega
             have h1k : (k : Int) < ((q - 1 : Nat) : Int) := by omega
             have hw : IntKind.i64.wrap ((k : Int) + 1) = (k : Int) + 1 := IntWalk.i64_in _ (by omega)
             have hI := Lib.hid (HIH.out (d : Int) (by omega) mm y wo (hxw.trans hx))
             have HN := Lib.hid hN
             have HX := Lib.hid hx
             clear hN hx hgt hkr hkt e02
             go_wp2_with fail
             refine hI.out.mono ?_
             rintro e w4 ⟨u4, rfl, hN4, hx4⟩
             obtain ⟨B4, n4, c4, rfl⟩ := hN4.1.slice
             have hT4 := Lib.hid (HT.out w4 ((hxw.trans HX.out).trans hx4) y)
             have HN4 := Lib.hid hN4
             have HX4 := Lib.hid hx4
             clear hI hN4 hx4 hc' e0o
             go_wp2_with fail
             refine hT4.out.mono ?_
             rintro e w5 ⟨u5, rfl, hN5, hx5⟩
             obtain ⟨B5, n5, c5, rfl⟩ := hN5.1.slice
             have hV := Lib.hid (virtM_calls _ _ _ _ _ _ w5 (HN4.out.ext hx5).rdF (HN.out.ext (HX4.out.trans hx5)).rdF hN5.rdF (HMD.out mm y) hmay.out (HMT.out y))
             have HX5 := Lib.hid hx5
             clear hT4 hN5 hx5
             go_wp2_with fail
             refine hV.out.mono ?_
             rintro e w6 ⟨u6, rfl, hN6, hx6⟩
             obtain ⟨B6, n6, c6, rfl⟩ := hN6.1.slice
             have HN6 := Lib.hid hN6
             have HX6 := Lib.hid hx6
             clear hV hN6 hx6
             go_wp2_with fail
             go_roundw
             case rel =>
               refine ⟨k + 1, by omega, by go_num, ?_, ((HX.out.trans HX4.out).trans HX5.out).trans HX6.out⟩
               rw [HS.out, List.foldl_append]
               exact HN6.out.less (by have := HX1.out.size; have := HXW.out.size; have := HX2.out.size; have := HX.out.size; have := HX4.out.size; have := HX5.out.size; omega)
             case measure => simp [intOf]; omega)
        · have hd5 : decide ((k : Int) < ((q - 1 : Nat) : Int)) = false := decide_eq_false (by omega)
          have hfin : ((rest.take 2).take k).foldl (fun out n => virtOf textM (deepF cs d mm n) out (treeC cs n)) (treeC cs mm) = res := by
            rw [HV.out, List.take_of_length_le (by
              rw [List.length_take]
              have := HLN.out; have := HQ.out
              rw [List.length_cons] at *
              omega)]
          rw [hfin] at hN
          have HN := Lib.hid hN
          clear hfin hN
          go_wp2_with fail
          go_ret
          exact ⟨_, rfl, HN.out, (HXW.out.trans HX2.out).trans hx⟩

theorem deep_calls (h : RepoX repoT I D w rb cs room) (hG : GoodR cs) (hn : cs.length ≤ 300) : ∀ d : Nat, d ≤ 4 → DeepSt cs rb w d
  | 0, _ => deep0_calls h hG hn
  | d + 1, hd => deepS_calls h hG hn d (by omega) (deep_calls h hG hn d (by omega))
theorem deepR_calls (h : RepoX repoT I D w rb cs room) (hG : GoodR cs) (hn : cs.length ≤ 300) (a b deep : Int) : Calls Tryz.prog 20 #[.pointer (some ⟨rb, 0, none⟩), .int .i64 a, .int .i64 b, .int .i64 deep] w (FilesPost w (deepF cs (min deep 4).toNat a b)) :=
  deep_calls h hG hn _ (by omega) deep rfl a b w (Kp.refl _ _)
theorem baseR_calls (h : RepoX repoT I D w rb cs room) (hG : GoodR cs) (hn : cs.length ≤ 300) (a b : Int) : Calls Tryz.prog 19 #[.pointer (some ⟨rb, 0, none⟩), .int .i64 a, .int .i64 b] w (FilesPost w (deepF cs 4 a b)) := by
  have HD := Lib.hid (deepR_calls h hG hn a b 4)
  clear h hG
  go_enter Tryz.func19, Tryz.ntmps19
  go_wp2_with fail
  refine HD.out.mono ?_
  rintro e w1 ⟨u, rfl, hN, hx1⟩
  obtain ⟨A, n, c, rfl⟩ := hN.1.slice
  have HN := Lib.hid hN
  clear HD hN
  go_wp2_with fail
  go_ret
  exact ⟨_, rfl, HN.out, hx1⟩
end

end Go.Proofs.YtgjbfkaepalkiaaGreatDoor

namespace Go.Proofs.YtgjbfkaepalkiaaGreatDoor
open Go.RowKit
set_option linter.unusedVariables false
set_option linter.unusedSimpArgs false
attribute [local go_sem] Oper.semAt_some

def x1L : List File := [⟨⟨#[120]⟩, ⟨#[49]⟩⟩]
def x2L : List File := [⟨⟨#[120]⟩, ⟨#[50]⟩⟩]
def cs13 : List Cm := [⟨[], x1L, ⟨#[]⟩⟩, ⟨[1], x2L, ⟨#[]⟩⟩]
theorem cs13_made : madeC cs13 = cs13 := by kernel_rfl
theorem cs13_small : ∀ c ∈ cs13, SmallC c := by
  intro c hc
  simp only [cs13, List.mem_cons, List.not_mem_nil, or_false] at hc
  rcases hc with rfl | rfl
  · exact ⟨by decide, by decide, fun y hy => by simp only [x1L, List.mem_singleton] at hy; subst hy; decide⟩
  · exact ⟨by decide, by decide, fun y hy => by simp only [x2L, List.mem_singleton] at hy; subst hy; decide⟩
theorem cs13_one : deepF cs13 4 1 2 = x1L := by kernel_rfl
theorem cs13_two : deepF cs13 4 2 2 = x2L := by kernel_rfl
theorem cs13_good : GoodR cs13 := by have := madeC_good cs13_small; rwa [cs13_made] at this

set_option maxHeartbeats 2000000 in
theorem awake13_calls (w : World) : Calls Tryz.prog 16 #[] w (SamePost w true) := by
  obtain ⟨W, hW⟩ : ∃ W, ((((w.alloc (.cells #[.string ⟨#[120]⟩, .string ⟨#[49]⟩] 39)).alloc (.cells #[.int .i64 1] 3)).alloc (.cells #[.string ⟨#[120]⟩, .string ⟨#[50]⟩] 39)).alloc
    (.cells #[.slice none 0 0, .slice (some ⟨w.heap.size, 0, none⟩) 1 1, .string ⟨#[]⟩, .slice (some ⟨w.heap.size + 1, 0, none⟩) 1 1, .slice (some ⟨w.heap.size + 1 + 1, 0, none⟩) 1 1, .string ⟨#[]⟩] 42)) = W := ⟨_, rfl⟩
  have hx : Ext w W := by rw [← hW]; exact (((((Kp.refl _ w).alloc _).alloc _).alloc _).alloc _)
  have hz : W.heap.size = w.heap.size + 4 := by rw [← hW]; simp
  have hR : Rd EK (fun k => w.heap.size ≤ k ∧ k < W.heap.size) W (.slice (some ⟨w.heap.size + 1 + 1 + 1, 0, none⟩) 2 2) [⟨⟨none, 0, 0⟩, ⟨some ⟨w.heap.size, 0, none⟩, 1, 1⟩, ⟨#[]⟩⟩, ⟨⟨some ⟨w.heap.size + 1, 0, none⟩, 1, 1⟩, ⟨some ⟨w.heap.size + 1 + 1, 0, none⟩, 1, 1⟩, ⟨#[]⟩⟩] := by
    have h := (Own.made (E := EK) (((w.alloc (.cells #[.string ⟨#[120]⟩, .string ⟨#[49]⟩] 39)).alloc (.cells #[.int .i64 1] 3)).alloc (.cells #[.string ⟨#[120]⟩, .string ⟨#[50]⟩] 39)) 42 [⟨⟨none, 0, 0⟩, ⟨some ⟨w.heap.size, 0, none⟩, 1, 1⟩, ⟨#[]⟩⟩, ⟨⟨some ⟨w.heap.size + 1, 0, none⟩, 1, 1⟩, ⟨some ⟨w.heap.size + 1 + 1, 0, none⟩, 1, 1⟩, ⟨#[]⟩⟩] (by simp [maxLen])).rd
    rw [← hW]
    simp only [World.size_alloc] at h ⊢
    exact h.wide fun k hk => by simp [Value.ownBlock] at hk; omega
  have hK : RepK (fun k => w.heap.size ≤ k ∧ k < W.heap.size) W [⟨⟨none, 0, 0⟩, ⟨some ⟨w.heap.size, 0, none⟩, 1, 1⟩, ⟨#[]⟩⟩, ⟨⟨some ⟨w.heap.size + 1, 0, none⟩, 1, 1⟩, ⟨some ⟨w.heap.size + 1 + 1, 0, none⟩, 1, 1⟩, ⟨#[]⟩⟩] cs13 := by
    have h1 := ((((Own.made (E := EF) w 39 x1L (by simp [maxLen, x1L])).rd.kp ((Kp.refl _ _).alloc (.cells #[.int .i64 1] 3))).kp ((Kp.refl _ _).alloc (.cells #[.string ⟨#[120]⟩, .string ⟨#[50]⟩] 39))).kp ((Kp.refl _ _).alloc (.cells #[.slice none 0 0, .slice (some ⟨w.heap.size, 0, none⟩) 1 1, .string ⟨#[]⟩, .slice (some ⟨w.heap.size + 1, 0, none⟩) 1 1, .slice (some ⟨w.heap.size + 1 + 1, 0, none⟩) 1 1, .string ⟨#[]⟩] 42)))
    have h2 := (((Own.made (E := EI) (w.alloc (.cells #[.string ⟨#[120]⟩, .string ⟨#[49]⟩] 39)) 3 [1] (by simp [maxLen])).rd.kp ((Kp.refl _ _).alloc (.cells #[.string ⟨#[120]⟩, .string ⟨#[50]⟩] 39))).kp ((Kp.refl _ _).alloc (.cells #[.slice none 0 0, .slice (some ⟨w.heap.size, 0, none⟩) 1 1, .string ⟨#[]⟩, .slice (some ⟨w.heap.size + 1, 0, none⟩) 1 1, .slice (some ⟨w.heap.size + 1 + 1, 0, none⟩) 1 1, .string ⟨#[]⟩] 42)))
    have h3 := ((Own.made (E := EF) ((w.alloc (.cells #[.string ⟨#[120]⟩, .string ⟨#[49]⟩] 39)).alloc (.cells #[.int .i64 1] 3)) 39 x2L (by simp [maxLen, x2L])).rd.kp ((Kp.refl _ _).alloc (.cells #[.slice none 0 0, .slice (some ⟨w.heap.size, 0, none⟩) 1 1, .string ⟨#[]⟩, .slice (some ⟨w.heap.size + 1, 0, none⟩) 1 1, .slice (some ⟨w.heap.size + 1 + 1, 0, none⟩) 1 1, .string ⟨#[]⟩] 42)))
    rw [← hW]
    simp only [World.size_alloc] at h1 h2 h3 ⊢
    exact ⟨⟨Rd.nil _ _, h1.wide fun k hk => by simp [Value.ownBlock] at hk; omega, rfl⟩, ⟨h2.wide fun k hk => by simp [Value.ownBlock] at hk; omega, h3.wide fun k hk => by simp [Value.ownBlock] at hk; omega, rfl⟩, trivial⟩
  have HMd := Lib.hid (made13_calls _ _ cs13 _ W hR hK (fun k hk => hk.2) cs13_small (by decide))
  rw [← hW] at HMd
  rw [← hW] at hx hz
  clear hR hK hW
  go_enter Tryz.func16, Tryz.ntmps16
  go_wp2_with fail
  refine HMd.out.mono ?_
  rintro e w1 ⟨rb, wb, I, D, D', rfl, hT⟩
  rw [cs13_made] at hT
  have hx1 := hx.trans hT.x
  have HT := Lib.hid hT
  clear HMd hT hx hz
  go_wp2_with fail
  refine (baseR_calls HT.out.r cs13_good (by decide) 1 2).mono ?_
  rintro e w2 ⟨u, rfl, hN, hx2⟩
  rw [cs13_one] at hN
  obtain ⟨A, n, c, rfl⟩ := hN.1.slice
  have HS1 := Lib.hid (sameFiles_calls (.slice A n c) (.slice (some ⟨w2.heap.size, 0, none⟩) 1 1) x1L x1L _ _ (w2.alloc (.cells #[.string ⟨#[120]⟩, .string ⟨#[49]⟩] 39)) (hN.1.rd.kp ((Kp.refl _ _).alloc _)) (Own.made (E := EF) w2 39 x1L (by simp [maxLen, x1L])).rd)
  have HT2 := Lib.hid (HT.out.ext hx2)
  have hxx2 := hx1.trans hx2
  clear hN hx2 HT hx1
  go_wp2_with fail
  refine HS1.out.mono ?_
  rintro e w3 ⟨rfl, hx3⟩
  rw [sameB_refl]
  have hx3' := ((Kp.refl All w2).alloc (.cells #[.string ⟨#[120]⟩, .string ⟨#[49]⟩] 39)).trans hx3
  have HT3 := Lib.hid (HT2.out.ext hx3')
  have hxx3 := hxx2.trans hx3'
  clear HS1 hx3 hx3' HT2 hxx2
  go_wp2_with fail
  refine (baseR_calls HT3.out.r cs13_good (by decide) 2 2).mono ?_
  rintro e w4 ⟨u, rfl, hN, hx4⟩
  rw [cs13_two] at hN
  obtain ⟨A', n', c', rfl⟩ := hN.1.slice
  have HS1 := Lib.hid (sameFiles_calls (.slice A' n' c') (.slice (some ⟨w4.heap.size, 0, none⟩) 1 1) x2L x2L _ _ (w4.alloc (.cells #[.string ⟨#[120]⟩, .string ⟨#[50]⟩] 39)) (hN.1.rd.kp ((Kp.refl _ _).alloc _)) (Own.made (E := EF) w4 39 x2L (by simp [maxLen, x2L])).rd)
  have hxx4 := hxx3.trans hx4
  clear hN hx4 HT3 hxx3
  go_wp2_with fail
  refine HS1.out.mono ?_
  rintro e w5 ⟨rfl, hx5⟩
  rw [sameB_refl]
  have hxx5 := (hxx4.alloc _).trans hx5
  clear HS1
  go_wp2_with fail
  go_ret
  exact ⟨rfl, hxx5⟩

end Go.Proofs.YtgjbfkaepalkiaaGreatDoor
