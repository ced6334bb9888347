/-
  Plain: two merges of the same two commits. FoldCross: the walk.
-/
import Derived.Test.YtgjbfkaepalkiaaGreatDoorMade
import Derived.Test.YtgjbfkaepalkiaaGreatDoorAwake13
import Derived.Test.YtgjbfkaepalkiaaGreatDoorSwapM
import Derived.Test.YtgjbfkaepalkiaaGreatDoorOnly13
namespace Go.Proofs.YtgjbfkaepalkiaaGreatDoor
open Go.RowKit
set_option linter.unusedVariables false
set_option linter.unusedSimpArgs false

/-- Whether files are a tree hangs on their data by size alone. -/
theorem may_paths {xs : List File} (h : mayB (xs.map fun f => (⟨f.path, ⟨#[]⟩⟩ : File)) = true) (hd : ∀ f ∈ xs, f.data.size ≤ 400) : mayB xs = true := by
  rw [mayB_iff] at h ⊢
  refine ⟨by have := h.few; simpa using this, fun f hf => ⟨(h.each ⟨f.path, ⟨#[]⟩⟩ (List.mem_map.2 ⟨f, hf, rfl⟩)).1, hd f hf⟩, ?_, ?_⟩
  · have := h.rise
    rw [List.pairwise_map] at this
    exact this
  · have := h.apart
    rw [List.pairwise_map] at this
    exact this

def pA : ByteArray := ⟨#[97]⟩
def pB : ByteArray := ⟨#[98]⟩
def pX : ByteArray := ⟨#[120]⟩
def noB : ByteArray := ⟨#[]⟩
def rootL : List File := [⟨pX, noB⟩]
def oneL (a : ByteArray) : List File := [⟨pA, a⟩, ⟨pX, noB⟩]
def twoL (b : ByteArray) : List File := [⟨pB, b⟩, ⟨pX, noB⟩]
def bothL (a b : ByteArray) : List File := [⟨pA, a⟩, ⟨pB, b⟩, ⟨pX, noB⟩]
def twoX (b : ByteArray) : List File := [⟨pX, b⟩]
def bothX (a b : ByteArray) : List File := [⟨pA, a⟩, ⟨pX, b⟩]
section
variable {a b : ByteArray} (ha : a.size ≤ 400) (hb : b.size ≤ 400)
theorem rootL_may : mayB rootL = true := by kernel_rfl
include ha in
theorem oneL_may : mayB (oneL a) = true := may_paths (by kernel_rfl) fun f hf => by
  simp only [oneL, List.mem_cons, List.not_mem_nil, or_false] at hf
  rcases hf with rfl | rfl
  · exact ha
  · decide
include hb in
theorem twoL_may : mayB (twoL b) = true := may_paths (by kernel_rfl) fun f hf => by
  simp only [twoL, List.mem_cons, List.not_mem_nil, or_false] at hf
  rcases hf with rfl | rfl
  · exact hb
  · decide
include ha hb in
theorem bothL_may : mayB (bothL a b) = true := may_paths (by kernel_rfl) fun f hf => by
  simp only [bothL, List.mem_cons, List.not_mem_nil, or_false] at hf
  rcases hf with rfl | rfl | rfl
  · exact ha
  · exact hb
  · decide
include hb in
theorem twoX_may : mayB (twoX b) = true := may_paths (by kernel_rfl) fun f hf => by
  simp only [twoX, List.mem_cons, List.not_mem_nil, or_false] at hf
  subst hf; exact hb
include ha hb in
theorem bothX_may : mayB (bothX a b) = true := may_paths (by kernel_rfl) fun f hf => by
  simp only [bothX, List.mem_cons, List.not_mem_nil, or_false] at hf
  rcases hf with rfl | rfl
  · exact ha
  · exact hb

theorem virt_of_gath {o x y z : List File} (h3 : may3 o x y = true) (hg : (gathF textM id o x y).1 = z) (hz : mayB z = true) : virtOf textM o x y = z := by
  unfold virtOf
  rw [if_pos h3]
  dsimp only
  rw [hg, tree_under ((mayB_iff _).1 hz)]
  show z.take 12 = z
  exact List.take_of_length_le ((mayB_iff _).1 hz).few
include ha hb in
theorem cross_own : virtOf textM rootL (oneL a) (twoL b) = bothL a b := by
  refine virt_of_gath ((may3_iff _ _ _).2 ⟨rootL_may, oneL_may ha, twoL_may hb⟩) ?_ (bothL_may ha hb)
  unfold gathF gathL
  rw [show riseT (flatP [rootL, oneL a, twoL b]) = [pA, pB, pX] from by kernel_rfl]
  have j1 : joinF textM (atF rootL pA) (atF (oneL a) pA) (atF (twoL b) pA) = (⟨true, a⟩, true) := by
    rw [show atF rootL pA = noFl from by kernel_rfl, show atF (oneL a) pA = (⟨true, a⟩ : Fl) from by kernel_rfl, show atF (twoL b) pA = noFl from by kernel_rfl]
    exact join_left textM ⟨true, a⟩
  have j2 : joinF textM (atF rootL pB) (atF (oneL a) pB) (atF (twoL b) pB) = (⟨true, b⟩, true) := by
    rw [show atF rootL pB = noFl from by kernel_rfl, show atF (oneL a) pB = noFl from by kernel_rfl, show atF (twoL b) pB = (⟨true, b⟩ : Fl) from by kernel_rfl]
    exact join_right textM noFl ⟨true, b⟩
  have j3 : joinF textM (atF rootL pX) (atF (oneL a) pX) (atF (twoL b) pX) = (⟨true, noB⟩, true) := by
    rw [show atF rootL pX = (⟨true, noB⟩ : Fl) from by kernel_rfl, show atF (oneL a) pX = (⟨true, noB⟩ : Fl) from by kernel_rfl, show atF (twoL b) pX = (⟨true, noB⟩ : Fl) from by kernel_rfl]
    exact join_right textM ⟨true, noB⟩ ⟨true, noB⟩
  simp only [List.foldl_cons, List.foldl_nil, stepG, j1, j2, j3]
  rfl
include ha hb in
theorem cross_two : virtOf textM rootL (oneL a) (twoX b) = bothX a b := by
  refine virt_of_gath ((may3_iff _ _ _).2 ⟨rootL_may, oneL_may ha, twoX_may hb⟩) ?_ (bothX_may ha hb)
  unfold gathF gathL
  rw [show riseT (flatP [rootL, oneL a, twoX b]) = [pA, pX] from by kernel_rfl]
  have j1 : joinF textM (atF rootL pA) (atF (oneL a) pA) (atF (twoX b) pA) = (⟨true, a⟩, true) := by
    rw [show atF rootL pA = noFl from by kernel_rfl, show atF (oneL a) pA = (⟨true, a⟩ : Fl) from by kernel_rfl, show atF (twoX b) pA = noFl from by kernel_rfl]
    exact join_left textM ⟨true, a⟩
  have j3 : joinF textM (atF rootL pX) (atF (oneL a) pX) (atF (twoX b) pX) = (⟨true, b⟩, true) := by
    rw [show atF rootL pX = (⟨true, noB⟩ : Fl) from by kernel_rfl, show atF (oneL a) pX = (⟨true, noB⟩ : Fl) from by kernel_rfl, show atF (twoX b) pX = (⟨true, b⟩ : Fl) from by kernel_rfl]
    exact join_right textM ⟨true, noB⟩ ⟨true, b⟩
  simp only [List.foldl_cons, List.foldl_nil, stepG, j1, j3]
  rfl
end

theorem add_new {cs : List Cm} {c : Cm} (hm : mayC c = true) (hp : (c.parents.any fun p => decide (p < 1) || decide ((cs.length : Int) < p)) = false) (hf : ∀ x ∈ cs, sameC x c = false) (hr : cs.length < 60) : (addC cs 60 c).1 = cs ++ [c] := by
  have hfz : findC cs c = 0 := by
    unfold findC
    rw [List.findIdx?_eq_none_iff.2 hf]
  unfold addC
  rw [if_neg (by rw [hm]; simp), if_neg (by rw [hp]; simp), if_neg (by rw [hfz]; simp), if_neg (by omega)]
theorem sameC_parents {x c : Cm} (h : x.parents ≠ c.parents) : sameC x c = false := by
  unfold sameC
  rw [decide_eq_false h]; rfl
theorem sameC_tree {x c : Cm} (h : x.tree ≠ c.tree) : sameC x c = false := by
  unfold sameC
  have : sameB x.tree c.tree = false := by
    cases hb : sameB x.tree c.tree with
    | false => rfl
    | true => exact absurd ((sameB_iff _ _).1 hb) h
  rw [this]; simp
section
variable {one two both : List File} (h1 : mayB one = true) (h2 : mayB two = true) (h3 : mayB both = true) (hne : one ≠ two)
include h1 h2 h3 in
theorem cross_small : ∀ c ∈ crossC rootL one two both, SmallC c := by
  intro c hc
  simp only [crossC, List.mem_cons, List.not_mem_nil, or_false] at hc
  have hs : ∀ (ps : List Int) (t : List File), ps.length ≤ 2 → mayB t = true → SmallC ⟨ps, t, ⟨#[]⟩⟩ := fun ps t hp ht => ⟨by show ps.length ≤ _; omega, by have := ((mayB_iff _).1 ht).few; show t.length ≤ _; omega, fun y hy => by
    have h1 := (((mayB_iff _).1 ht).each y hy).1
    unfold pathB at h1
    simp only [Bool.and_eq_true, decide_eq_true_eq] at h1
    have := h1.1.1.2
    omega⟩
  rcases hc with rfl | rfl | rfl | rfl | rfl
  · exact hs _ _ (by decide) rootL_may
  · exact hs _ _ (by decide) h1
  · exact hs _ _ (by decide) h2
  · exact hs _ _ (by decide) h3
  · exact hs _ _ (by decide) h3
theorem may_cm {ps : List Int} {t : List File} (hp : (decide (ps.length ≤ 2) && (!(decide (ps.length = 2) && decide (ps[0]? = ps[1]?)))) = true) (ht : mayB t = true) : mayC ⟨ps, t, ⟨#[]⟩⟩ = true := by
  unfold mayC
  rw [Bool.and_eq_true] at hp
  rw [ht, hp.1, hp.2]; rfl
include h1 h2 h3 hne in
theorem cross_made : madeC (crossC rootL one two both) = crossC rootL one two both := by
  unfold madeC crossC
  simp only [List.foldl_cons, List.foldl_nil]
  rw [add_new (c := ⟨[], rootL, ⟨#[]⟩⟩) (may_cm (by decide) rootL_may) (by rfl) (fun x hx => by cases hx) (by simp)]
  rw [add_new (c := ⟨[1], one, ⟨#[]⟩⟩) (may_cm (by decide) h1) (by rfl) (fun x hx => by
    simp only [List.nil_append, List.mem_cons, List.not_mem_nil, or_false] at hx
    subst hx; exact sameC_parents (by simp)) (by simp)]
  rw [add_new (c := ⟨[1], two, ⟨#[]⟩⟩) (may_cm (by decide) h2) (by rfl) (fun x hx => by
    simp only [List.nil_append, List.cons_append, List.mem_cons, List.not_mem_nil, or_false] at hx
    rcases hx with rfl | rfl
    · exact sameC_parents (by simp)
    · exact sameC_tree hne) (by simp)]
  rw [add_new (c := ⟨[2, 3], both, ⟨#[]⟩⟩) (may_cm (by decide) h3) (by rfl) (fun x hx => by
    simp only [List.nil_append, List.cons_append, List.mem_cons, List.not_mem_nil, or_false] at hx
    rcases hx with rfl | rfl | rfl <;> exact sameC_parents (by simp)) (by simp)]
  rw [add_new (c := ⟨[3, 2], both, ⟨#[]⟩⟩) (may_cm (by decide) h3) (by rfl) (fun x hx => by
    simp only [List.nil_append, List.cons_append, List.mem_cons, List.not_mem_nil, or_false] at hx
    rcases hx with rfl | rfl | rfl | rfl <;> exact sameC_parents (by simp)) (by simp)]
  rfl
end
theorem one_ne_two (a b : ByteArray) : oneL a ≠ twoL b := by
  intro h
  unfold oneL twoL at h
  injection h with h _
  injection h with h _
  exact absurd h (by decide)
theorem one_ne_twoX (a b : ByteArray) : oneL a ≠ twoX b := by
  intro h
  have := congrArg List.length h
  simp [oneL, twoX] at this

end Go.Proofs.YtgjbfkaepalkiaaGreatDoor

namespace Go.Proofs.YtgjbfkaepalkiaaGreatDoor
open Go.RowKit
set_option linter.unusedVariables false
set_option linter.unusedSimpArgs false
attribute [local go_sem] Oper.semAt_some

theorem rd_of_blk {α : Type} {E : El α} {t : TypeId} {w : World} {g n : Nat} {ys : List α} (h : Blk w g t (E.flat ys).toArray) (hn : ys.length = n) (hm : n ≤ 1000) : Rd E (fun k => k < w.heap.size) w (.slice (some ⟨g, 0, none⟩) n n) ys := by
  subst hn
  have hO : Own E t w (.slice (some ⟨g, 0, none⟩) ys.length ys.length) ys := Own.of_blk (zs := []) (by rw [List.append_nil]; exact h) (by simp) (Nat.le_refl _) (by unfold maxLen; omega)
  exact hO.rd.wide fun k hk => hO.lt hk
theorem cross_rows {W : World} {one two both : List File} {g0 g1 g2 g3 i1 i2 i3 i4 gc n1 n2 n3 : Nat} (e1 : one.length = n1) (e2 : two.length = n2) (e3 : both.length = n3) (m1 : n1 ≤ 1000) (m2 : n2 ≤ 1000) (m3 : n3 ≤ 1000)
    (h0 : Blk W g0 39 (EF.flat rootL).toArray) (h1 : Blk W g1 39 (EF.flat one).toArray) (h2 : Blk W g2 39 (EF.flat two).toArray) (h3 : Blk W g3 39 (EF.flat both).toArray)
    (k1 : Blk W i1 3 (EI.flat [1]).toArray) (k2 : Blk W i2 3 (EI.flat [1]).toArray) (k3 : Blk W i3 3 (EI.flat [2, 3]).toArray) (k4 : Blk W i4 3 (EI.flat [3, 2]).toArray)
    (hc : Blk W gc 42 (EK.flat [⟨⟨none, 0, 0⟩, ⟨some ⟨g0, 0, none⟩, 1, 1⟩, ⟨#[]⟩⟩, ⟨⟨some ⟨i1, 0, none⟩, 1, 1⟩, ⟨some ⟨g1, 0, none⟩, n1, n1⟩, ⟨#[]⟩⟩, ⟨⟨some ⟨i2, 0, none⟩, 1, 1⟩, ⟨some ⟨g2, 0, none⟩, n2, n2⟩, ⟨#[]⟩⟩, ⟨⟨some ⟨i3, 0, none⟩, 2, 2⟩, ⟨some ⟨g3, 0, none⟩, n3, n3⟩, ⟨#[]⟩⟩, ⟨⟨some ⟨i4, 0, none⟩, 2, 2⟩, ⟨some ⟨g3, 0, none⟩, n3, n3⟩, ⟨#[]⟩⟩]).toArray) :
    ∃ ss, Rd EK (fun k => k < W.heap.size) W (.slice (some ⟨gc, 0, none⟩) 5 5) ss ∧ RepK (fun k => k < W.heap.size) W ss (crossC rootL one two both) :=
  ⟨_, rd_of_blk (n := 5) hc rfl (by omega), ⟨Rd.nil _ _, rd_of_blk (n := 1) h0 rfl (by omega), rfl⟩, ⟨rd_of_blk (n := 1) k1 rfl (by omega), rd_of_blk h1 e1 m1, rfl⟩, ⟨rd_of_blk (n := 1) k2 rfl (by omega), rd_of_blk h2 e2 m2, rfl⟩, ⟨rd_of_blk (n := 2) k3 rfl (by omega), rd_of_blk h3 e3 m3, rfl⟩, ⟨rd_of_blk (n := 2) k4 rfl (by omega), rd_of_blk h3 e3 m3, rfl⟩, trivial⟩

set_option maxHeartbeats 4000000 in
theorem foldCross_calls (a b : ByteArray) (q : Bool) (w : World) (ha : a.size ≤ 9223372036854775807) (hb : b.size ≤ 9223372036854775807) :
    Calls Tryz.prog 4 #[.string a, .string b, .bool q] w (SamePost w true) := by
  by_cases h1 : 200 < a.size
  · have hd1 : decide ((200 : Int) < (a.size : Int)) = true := decide_eq_true (by omega)
    go_enter Tryz.func4, Tryz.ntmps4
    go_wp2_with fail
    refine (awake13_calls w).mono ?_
    rintro e w2 ⟨rfl, hx2⟩
    go_wp2_with fail
    go_ret
    exact ⟨rfl, hx2⟩
  · have hd1 : decide ((200 : Int) < (a.size : Int)) = false := decide_eq_false (by omega)
    by_cases h2 : 200 < b.size
    · have hd2 : decide ((200 : Int) < (b.size : Int)) = true := decide_eq_true (by omega)
      go_enter Tryz.func4, Tryz.ntmps4
      go_wp2_with fail
      refine (awake13_calls w).mono ?_
      rintro e w2 ⟨rfl, hx2⟩
      go_wp2_with fail
      go_ret
      exact ⟨rfl, hx2⟩
    · have hd2 : decide ((200 : Int) < (b.size : Int)) = false := decide_eq_false (by omega)
      cases h3 : a.toList == b.toList with
      | true =>
        go_enter Tryz.func4, Tryz.ntmps4
        go_wp2_with fail
        refine (awake13_calls w).mono ?_
        rintro e w2 ⟨rfl, hx2⟩
        go_wp2_with fail
        go_ret
        exact ⟨rfl, hx2⟩
      | false =>
        cases q with
        | true =>
          go_enter Tryz.func4, Tryz.ntmps4
          go_wp2_with fail
          have hx_0 : Ext w w := Kp.refl _ _
          have hB0 := Blk.new w 39 #[.string ⟨#[120]⟩, .string ⟨#[]⟩]
          have hx0 : Ext w (w.alloc (.cells #[.string ⟨#[120]⟩, .string ⟨#[]⟩] 39)) := (Kp.refl _ _).alloc _
          have hz0 : (w.alloc (.cells #[.string ⟨#[120]⟩, .string ⟨#[]⟩] 39)).heap.size = w.heap.size + 1 := by simp
          generalize w.alloc (.cells #[.string ⟨#[120]⟩, .string ⟨#[]⟩] 39) = W0 at hB0 hx0 hz0 ⊢
          have hB1 := Blk.new W0 39 #[.string ⟨#[97]⟩, .string a, .string ⟨#[120]⟩, .string ⟨#[]⟩]
          have hx1 : Ext W0 (W0.alloc (.cells #[.string ⟨#[97]⟩, .string a, .string ⟨#[120]⟩, .string ⟨#[]⟩] 39)) := (Kp.refl _ _).alloc _
          have hz1 : (W0.alloc (.cells #[.string ⟨#[97]⟩, .string a, .string ⟨#[120]⟩, .string ⟨#[]⟩] 39)).heap.size = W0.heap.size + 1 := by simp
          generalize W0.alloc (.cells #[.string ⟨#[97]⟩, .string a, .string ⟨#[120]⟩, .string ⟨#[]⟩] 39) = W1 at hB1 hx1 hz1 ⊢
          have hB2 := Blk.new W1 39 #[.string ⟨#[98]⟩, .string b, .string ⟨#[120]⟩, .string ⟨#[]⟩]
          have hx2 : Ext W1 (W1.alloc (.cells #[.string ⟨#[98]⟩, .string b, .string ⟨#[120]⟩, .string ⟨#[]⟩] 39)) := (Kp.refl _ _).alloc _
          have hz2 : (W1.alloc (.cells #[.string ⟨#[98]⟩, .string b, .string ⟨#[120]⟩, .string ⟨#[]⟩] 39)).heap.size = W1.heap.size + 1 := by simp
          generalize W1.alloc (.cells #[.string ⟨#[98]⟩, .string b, .string ⟨#[120]⟩, .string ⟨#[]⟩] 39) = W2 at hB2 hx2 hz2 ⊢
          have hB3 := Blk.new W2 39 #[.string ⟨#[97]⟩, .string a, .string ⟨#[98]⟩, .string b, .string ⟨#[120]⟩, .string ⟨#[]⟩]
          have hx3 : Ext W2 (W2.alloc (.cells #[.string ⟨#[97]⟩, .string a, .string ⟨#[98]⟩, .string b, .string ⟨#[120]⟩, .string ⟨#[]⟩] 39)) := (Kp.refl _ _).alloc _
          have hz3 : (W2.alloc (.cells #[.string ⟨#[97]⟩, .string a, .string ⟨#[98]⟩, .string b, .string ⟨#[120]⟩, .string ⟨#[]⟩] 39)).heap.size = W2.heap.size + 1 := by simp
          generalize W2.alloc (.cells #[.string ⟨#[97]⟩, .string a, .string ⟨#[98]⟩, .string b, .string ⟨#[120]⟩, .string ⟨#[]⟩] 39) = W3 at hB3 hx3 hz3 ⊢
          have hB4 := Blk.new W3 3 #[.int .i64 1]
          have hx4 : Ext W3 (W3.alloc (.cells #[.int .i64 1] 3)) := (Kp.refl _ _).alloc _
          have hz4 : (W3.alloc (.cells #[.int .i64 1] 3)).heap.size = W3.heap.size + 1 := by simp
          generalize W3.alloc (.cells #[.int .i64 1] 3) = W4 at hB4 hx4 hz4 ⊢
          have hB5 := Blk.new W4 3 #[.int .i64 1]
          have hx5 : Ext W4 (W4.alloc (.cells #[.int .i64 1] 3)) := (Kp.refl _ _).alloc _
          have hz5 : (W4.alloc (.cells #[.int .i64 1] 3)).heap.size = W4.heap.size + 1 := by simp
          generalize W4.alloc (.cells #[.int .i64 1] 3) = W5 at hB5 hx5 hz5 ⊢
          have hB6 := Blk.new W5 3 #[.int .i64 2, .int .i64 3]
          have hx6 : Ext W5 (W5.alloc (.cells #[.int .i64 2, .int .i64 3] 3)) := (Kp.refl _ _).alloc _
          have hz6 : (W5.alloc (.cells #[.int .i64 2, .int .i64 3] 3)).heap.size = W5.heap.size + 1 := by simp
          generalize W5.alloc (.cells #[.int .i64 2, .int .i64 3] 3) = W6 at hB6 hx6 hz6 ⊢
          have hB7 := Blk.new W6 3 #[.int .i64 3, .int .i64 2]
          have hx7 : Ext W6 (W6.alloc (.cells #[.int .i64 3, .int .i64 2] 3)) := (Kp.refl _ _).alloc _
          have hz7 : (W6.alloc (.cells #[.int .i64 3, .int .i64 2] 3)).heap.size = W6.heap.size + 1 := by simp
          generalize W6.alloc (.cells #[.int .i64 3, .int .i64 2] 3) = W7 at hB7 hx7 hz7 ⊢
          have hB8 := Blk.new W7 42 #[.slice none 0 0, .slice (some ⟨w.heap.size, 0, none⟩) 1 1, .string ⟨#[]⟩, .slice (some ⟨w.heap.size + 1 + 1 + 1 + 1, 0, none⟩) 1 1, .slice (some ⟨w.heap.size + 1, 0, none⟩) 2 2, .string ⟨#[]⟩, .slice (some ⟨w.heap.size + 1 + 1 + 1 + 1 + 1, 0, none⟩) 1 1, .slice (some ⟨w.heap.size + 1 + 1, 0, none⟩) 2 2, .string ⟨#[]⟩, .slice (some ⟨w.heap.size + 1 + 1 + 1 + 1 + 1 + 1, 0, none⟩) 2 2, .slice (some ⟨w.heap.size + 1 + 1 + 1, 0, none⟩) 3 3, .string ⟨#[]⟩, .slice (some ⟨w.heap.size + 1 + 1 + 1 + 1 + 1 + 1 + 1, 0, none⟩) 2 2, .slice (some ⟨w.heap.size + 1 + 1 + 1, 0, none⟩) 3 3, .string ⟨#[]⟩]
          have hx8 : Ext W7 (W7.alloc (.cells #[.slice none 0 0, .slice (some ⟨w.heap.size, 0, none⟩) 1 1, .string ⟨#[]⟩, .slice (some ⟨w.heap.size + 1 + 1 + 1 + 1, 0, none⟩) 1 1, .slice (some ⟨w.heap.size + 1, 0, none⟩) 2 2, .string ⟨#[]⟩, .slice (some ⟨w.heap.size + 1 + 1 + 1 + 1 + 1, 0, none⟩) 1 1, .slice (some ⟨w.heap.size + 1 + 1, 0, none⟩) 2 2, .string ⟨#[]⟩, .slice (some ⟨w.heap.size + 1 + 1 + 1 + 1 + 1 + 1, 0, none⟩) 2 2, .slice (some ⟨w.heap.size + 1 + 1 + 1, 0, none⟩) 3 3, .string ⟨#[]⟩, .slice (some ⟨w.heap.size + 1 + 1 + 1 + 1 + 1 + 1 + 1, 0, none⟩) 2 2, .slice (some ⟨w.heap.size + 1 + 1 + 1, 0, none⟩) 3 3, .string ⟨#[]⟩] 42)) := (Kp.refl _ _).alloc _
          have hz8 : (W7.alloc (.cells #[.slice none 0 0, .slice (some ⟨w.heap.size, 0, none⟩) 1 1, .string ⟨#[]⟩, .slice (some ⟨w.heap.size + 1 + 1 + 1 + 1, 0, none⟩) 1 1, .slice (some ⟨w.heap.size + 1, 0, none⟩) 2 2, .string ⟨#[]⟩, .slice (some ⟨w.heap.size + 1 + 1 + 1 + 1 + 1, 0, none⟩) 1 1, .slice (some ⟨w.heap.size + 1 + 1, 0, none⟩) 2 2, .string ⟨#[]⟩, .slice (some ⟨w.heap.size + 1 + 1 + 1 + 1 + 1 + 1, 0, none⟩) 2 2, .slice (some ⟨w.heap.size + 1 + 1 + 1, 0, none⟩) 3 3, .string ⟨#[]⟩, .slice (some ⟨w.heap.size + 1 + 1 + 1 + 1 + 1 + 1 + 1, 0, none⟩) 2 2, .slice (some ⟨w.heap.size + 1 + 1 + 1, 0, none⟩) 3 3, .string ⟨#[]⟩] 42)).heap.size = W7.heap.size + 1 := by simp
          generalize W7.alloc (.cells #[.slice none 0 0, .slice (some ⟨w.heap.size, 0, none⟩) 1 1, .string ⟨#[]⟩, .slice (some ⟨w.heap.size + 1 + 1 + 1 + 1, 0, none⟩) 1 1, .slice (some ⟨w.heap.size + 1, 0, none⟩) 2 2, .string ⟨#[]⟩, .slice (some ⟨w.heap.size + 1 + 1 + 1 + 1 + 1, 0, none⟩) 1 1, .slice (some ⟨w.heap.size + 1 + 1, 0, none⟩) 2 2, .string ⟨#[]⟩, .slice (some ⟨w.heap.size + 1 + 1 + 1 + 1 + 1 + 1, 0, none⟩) 2 2, .slice (some ⟨w.heap.size + 1 + 1 + 1, 0, none⟩) 3 3, .string ⟨#[]⟩, .slice (some ⟨w.heap.size + 1 + 1 + 1 + 1 + 1 + 1 + 1, 0, none⟩) 2 2, .slice (some ⟨w.heap.size + 1 + 1 + 1, 0, none⟩) 3 3, .string ⟨#[]⟩] 42) = W8 at hB8 hx8 hz8 ⊢
          have hs1 : W0.heap.size = w.heap.size + 1 := by omega
          rw [hs1] at hB1
          have hs2 : W1.heap.size = w.heap.size + 1 + 1 := by omega
          rw [hs2] at hB2
          have hs3 : W2.heap.size = w.heap.size + 1 + 1 + 1 := by omega
          rw [hs3] at hB3
          have hs4 : W3.heap.size = w.heap.size + 1 + 1 + 1 + 1 := by omega
          rw [hs4] at hB4
          have hs5 : W4.heap.size = w.heap.size + 1 + 1 + 1 + 1 + 1 := by omega
          rw [hs5] at hB5
          have hs6 : W5.heap.size = w.heap.size + 1 + 1 + 1 + 1 + 1 + 1 := by omega
          rw [hs6] at hB6
          have hs7 : W6.heap.size = w.heap.size + 1 + 1 + 1 + 1 + 1 + 1 + 1 := by omega
          rw [hs7] at hB7
          have hs8 : W7.heap.size = w.heap.size + 1 + 1 + 1 + 1 + 1 + 1 + 1 + 1 := by omega
          rw [hs8] at hB8
          have hC0 := ((((((((hB0.ext hx1).ext hx2).ext hx3).ext hx4).ext hx5).ext hx6).ext hx7).ext hx8)
          have hC1 := (((((((hB1.ext hx2).ext hx3).ext hx4).ext hx5).ext hx6).ext hx7).ext hx8)
          have hC2 := ((((((hB2.ext hx3).ext hx4).ext hx5).ext hx6).ext hx7).ext hx8)
          have hC3 := (((((hB3.ext hx4).ext hx5).ext hx6).ext hx7).ext hx8)
          have hC4 := ((((hB4.ext hx5).ext hx6).ext hx7).ext hx8)
          have hC5 := (((hB5.ext hx6).ext hx7).ext hx8)
          have hC6 := ((hB6.ext hx7).ext hx8)
          have hC7 := (hB7.ext hx8)
          have hC8 := hB8
          have hxW := ((((((((hx0.trans hx1).trans hx2).trans hx3).trans hx4).trans hx5).trans hx6).trans hx7).trans hx8)
          have hF0 : RdF W8 (.slice (some ⟨w.heap.size, 0, none⟩) 1 1) rootL := (rd_of_blk (E := EF) (ys := rootL) (n := 1) hC0 rfl (by omega)).wide fun _ _ => trivial
          have hF3 : RdF W8 (.slice (some ⟨w.heap.size + 1 + 1 + 1, 0, none⟩) 3 3) (bothL a b) := (rd_of_blk (E := EF) (ys := (bothL a b)) (n := 3) hC3 rfl (by omega)).wide fun _ _ => trivial
          obtain ⟨ss, hRd, hRk⟩ := cross_rows (one := oneL a) (two := (twoL b)) (both := (bothL a b)) (n1 := 2) (n2 := 2) (n3 := 3) rfl rfl rfl (by omega) (by omega) (by omega) hC0 hC1 hC2 hC3 hC4 hC5 hC6 hC7 hC8
          have hsm := cross_small (one := oneL a) (two := (twoL b)) (both := (bothL a b)) (oneL_may (by omega)) (twoL_may (by omega)) (bothL_may (by omega) (by omega))
          have hmd := cross_made (one := oneL a) (two := (twoL b)) (both := (bothL a b)) (oneL_may (by omega)) (twoL_may (by omega)) (bothL_may (by omega) (by omega)) (one_ne_two _ _)
          have hv : virtOf textM rootL (oneL a) (twoL b) = (bothL a b) := cross_own (by omega) (by omega)
          have hgood : GoodR (crossC rootL (oneL a) (twoL b) (bothL a b)) := by have := madeC_good hsm; rwa [hmd] at this
          have HMd := Lib.hid (made13_calls _ _ _ _ W8 hRd hRk (fun k hk => hk) hsm (Nat.le_of_ble_eq_true rfl))
          have HF0 := Lib.hid hF0
          have HF3 := Lib.hid hF3
          have HGood := Lib.hid hgood
          have HXW := Lib.hid hxW
          have HV := Lib.hid hv
          have HMade := Lib.hid hmd
          clear hB0 hx0 hz0 hC0 hB1 hx1 hz1 hC1 hB2 hx2 hz2 hC2 hB3 hx3 hz3 hC3 hB4 hx4 hz4 hC4 hB5 hx5 hz5 hC5 hB6 hx6 hz6 hC6 hB7 hx7 hz7 hC7 hB8 hx8 hz8 hC8 hs1 hs2 hs3 hs4 hs5 hs6 hs7 hs8 hx_0 hF0 hF3 hRd hRk hsm hmd hv hgood hxW
          refine HMd.out.mono ?_
          rintro e w1 ⟨rb, wb, I, D, D', rfl, hT⟩
          rw [HMade.out] at hT
          have HT := Lib.hid hT.r
          have HX1 := Lib.hid hT.x
          have HX := Lib.hid (HXW.out.trans hT.x)
          have hln : Calls Tryz.prog 25 #[.pointer (some ⟨rb, 0, none⟩)] w1 fun e w' => e = .returned (.int .i64 5) ∧ w1 = w' := lenR_calls HT.out
          have HLn := Lib.hid hln
          clear HMd hT hln
          go_wp2_with fail
          refine HLn.out.mono ?_
          rintro e w1' ⟨rfl, rfl⟩
          clear HLn
          have hbc := best_calls HT.out HGood.out (Nat.le_of_ble_eq_true rfl) 4 5
          rw [cross_best] at hbc
          have HBc := Lib.hid hbc
          clear hbc
          go_wp2_with fail
          refine HBc.out.mono ?_
          rintro e w2 ⟨u2, rfl, hN2, hx2⟩
          obtain ⟨A2, n2, c2, rfl⟩ := hN2.1.slice
          have hI3 := Blk.new w2 3 #[.int .i64 2, .int .i64 3]
          have hSI := sameInts_calls (.slice A2 n2 c2) (.slice (some ⟨w2.heap.size, 0, none⟩) 2 2) [2, 3] [2, 3] _ _ (w2.alloc (.cells #[.int .i64 2, .int .i64 3] 3)) (hN2.1.rd.kp ((Kp.refl _ _).alloc _)) (rd_of_blk (E := EI) (ys := [2, 3]) (n := 2) hI3 rfl (by omega))
          have HSI := Lib.hid hSI
          have HX2 := Lib.hid (hx2.alloc (.cells #[.int .i64 2, .int .i64 3] 3))
          clear HBc hN2 hx2 hI3 hSI
          go_wp2_with fail
          refine HSI.out.mono ?_
          rintro e w3 ⟨rfl, hx3⟩
          have HX3 := Lib.hid (HX2.out.trans hx3)
          have HT3 := Lib.hid (HT.out.ext HX3.out)
          clear HSI HX2 hx3
          have hb4 := baseR_calls HT3.out HGood.out (Nat.le_of_ble_eq_true rfl) 4 5
          rw [show deepF (crossC rootL (oneL a) (twoL b) (bothL a b)) 4 4 5 = (bothL a b) from (cross_deep 2 _ _ _ _).trans HV.out] at hb4
          have HB4 := Lib.hid hb4
          clear hb4
          go_wp2_with fail
          refine HB4.out.mono ?_
          rintro e w4 ⟨u4, rfl, hN4, hx4⟩
          obtain ⟨A4, n4, c4, rfl⟩ := hN4.1.slice
          have HX4 := Lib.hid (HX3.out.trans hx4)
          have HS4 := Lib.hid (sameFiles_calls _ _ _ _ _ _ w4 hN4.rdF (HF3.out.ext (HX1.out.trans HX4.out)))
          clear HB4 hN4 hx4 HT3 HX3
          go_wp2_with fail
          refine HS4.out.mono ?_
          rintro e w5 ⟨rfl, hx5⟩
          rw [sameB_refl]
          have HX5 := Lib.hid (HX4.out.trans hx5)
          have HT5 := Lib.hid (HT.out.ext HX5.out)
          clear HS4 hx5 HX4
          have hb6 := deepR_calls HT5.out HGood.out (Nat.le_of_ble_eq_true rfl) 4 5 2
          rw [show deepF (crossC rootL (oneL a) (twoL b) (bothL a b)) (min (2 : Int) 4).toNat 4 5 = (bothL a b) from (cross_deep 0 _ _ _ _).trans HV.out] at hb6
          have HB6 := Lib.hid hb6
          clear hb6
          go_wp2_with fail
          refine HB6.out.mono ?_
          rintro e w6 ⟨u6, rfl, hN6, hx6⟩
          obtain ⟨A6, n6, c6, rfl⟩ := hN6.1.slice
          have HX6 := Lib.hid (HX5.out.trans hx6)
          have HS6 := Lib.hid (sameFiles_calls _ _ _ _ _ _ w6 hN6.rdF (HF3.out.ext (HX1.out.trans HX6.out)))
          clear HB6 hN6 hx6 HT5 HX5
          go_wp2_with fail
          refine HS6.out.mono ?_
          rintro e w7 ⟨rfl, hx7⟩
          rw [sameB_refl]
          have HX7 := Lib.hid (HX6.out.trans hx7)
          have HT7 := Lib.hid (HT.out.ext HX7.out)
          clear HS6 hx7 HX6
          have hb8 := baseR_calls HT7.out HGood.out (Nat.le_of_ble_eq_true rfl) 2 3
          rw [show deepF (crossC rootL (oneL a) (twoL b) (bothL a b)) 4 2 3 = rootL from deepF_one (d := 3) (cross_low _ _ _ _)] at hb8
          have HB8 := Lib.hid hb8
          clear hb8
          go_wp2_with fail
          refine HB8.out.mono ?_
          rintro e w8 ⟨u8, rfl, hN8, hx8⟩
          obtain ⟨A8, n8, c8, rfl⟩ := hN8.1.slice
          have HX8 := Lib.hid (HX7.out.trans hx8)
          have HS8 := Lib.hid (sameFiles_calls _ _ _ _ _ _ w8 hN8.rdF (HF0.out.ext (HX1.out.trans HX8.out)))
          clear HB8 hN8 hx8 HT7 HX7
          go_wp2_with fail
          refine HS8.out.mono ?_
          rintro e w9 ⟨rfl, hx9⟩
          rw [sameB_refl]
          have HX9 := Lib.hid ((HX.out.trans HX8.out).trans hx9)
          clear HS8 hx9 HX8
          go_wp2_with fail
          refine (awake13_calls w9).mono ?_
          rintro e w10 ⟨rfl, hx10⟩
          go_wp2_with fail
          go_ret
          exact ⟨rfl, HX9.out.trans hx10⟩
        | false =>
          go_enter Tryz.func4, Tryz.ntmps4
          go_wp2_with fail
          have hbs : (b ++ (⟨#[33]⟩ : ByteArray)).size ≤ 400 := by rw [ByteArray.size_append]; have : (⟨#[33]⟩ : ByteArray).size = 1 := rfl; omega
          have hx_0 : Ext w w := Kp.refl _ _
          have hB0 := Blk.new w 39 #[.string ⟨#[120]⟩, .string ⟨#[]⟩]
          have hx0 : Ext w (w.alloc (.cells #[.string ⟨#[120]⟩, .string ⟨#[]⟩] 39)) := (Kp.refl _ _).alloc _
          have hz0 : (w.alloc (.cells #[.string ⟨#[120]⟩, .string ⟨#[]⟩] 39)).heap.size = w.heap.size + 1 := by simp
          generalize w.alloc (.cells #[.string ⟨#[120]⟩, .string ⟨#[]⟩] 39) = W0 at hB0 hx0 hz0 ⊢
          have hB1 := Blk.new W0 39 #[.string ⟨#[97]⟩, .string a, .string ⟨#[120]⟩, .string ⟨#[]⟩]
          have hx1 : Ext W0 (W0.alloc (.cells #[.string ⟨#[97]⟩, .string a, .string ⟨#[120]⟩, .string ⟨#[]⟩] 39)) := (Kp.refl _ _).alloc _
          have hz1 : (W0.alloc (.cells #[.string ⟨#[97]⟩, .string a, .string ⟨#[120]⟩, .string ⟨#[]⟩] 39)).heap.size = W0.heap.size + 1 := by simp
          generalize W0.alloc (.cells #[.string ⟨#[97]⟩, .string a, .string ⟨#[120]⟩, .string ⟨#[]⟩] 39) = W1 at hB1 hx1 hz1 ⊢
          have hB2 := Blk.new W1 39 #[.string ⟨#[98]⟩, .string b, .string ⟨#[120]⟩, .string ⟨#[]⟩]
          have hx2 : Ext W1 (W1.alloc (.cells #[.string ⟨#[98]⟩, .string b, .string ⟨#[120]⟩, .string ⟨#[]⟩] 39)) := (Kp.refl _ _).alloc _
          have hz2 : (W1.alloc (.cells #[.string ⟨#[98]⟩, .string b, .string ⟨#[120]⟩, .string ⟨#[]⟩] 39)).heap.size = W1.heap.size + 1 := by simp
          generalize W1.alloc (.cells #[.string ⟨#[98]⟩, .string b, .string ⟨#[120]⟩, .string ⟨#[]⟩] 39) = W2 at hB2 hx2 hz2 ⊢
          have hB3 := Blk.new W2 39 #[.string ⟨#[97]⟩, .string a, .string ⟨#[98]⟩, .string b, .string ⟨#[120]⟩, .string ⟨#[]⟩]
          have hx3 : Ext W2 (W2.alloc (.cells #[.string ⟨#[97]⟩, .string a, .string ⟨#[98]⟩, .string b, .string ⟨#[120]⟩, .string ⟨#[]⟩] 39)) := (Kp.refl _ _).alloc _
          have hz3 : (W2.alloc (.cells #[.string ⟨#[97]⟩, .string a, .string ⟨#[98]⟩, .string b, .string ⟨#[120]⟩, .string ⟨#[]⟩] 39)).heap.size = W2.heap.size + 1 := by simp
          generalize W2.alloc (.cells #[.string ⟨#[97]⟩, .string a, .string ⟨#[98]⟩, .string b, .string ⟨#[120]⟩, .string ⟨#[]⟩] 39) = W3 at hB3 hx3 hz3 ⊢
          have hB4 := Blk.new W3 39 #[.string ⟨#[120]⟩, .string (b ++ ⟨#[33]⟩)]
          have hx4 : Ext W3 (W3.alloc (.cells #[.string ⟨#[120]⟩, .string (b ++ ⟨#[33]⟩)] 39)) := (Kp.refl _ _).alloc _
          have hz4 : (W3.alloc (.cells #[.string ⟨#[120]⟩, .string (b ++ ⟨#[33]⟩)] 39)).heap.size = W3.heap.size + 1 := by simp
          generalize W3.alloc (.cells #[.string ⟨#[120]⟩, .string (b ++ ⟨#[33]⟩)] 39) = W4 at hB4 hx4 hz4 ⊢
          have hB5 := Blk.new W4 39 #[.string ⟨#[97]⟩, .string a, .string ⟨#[120]⟩, .string (b ++ ⟨#[33]⟩)]
          have hx5 : Ext W4 (W4.alloc (.cells #[.string ⟨#[97]⟩, .string a, .string ⟨#[120]⟩, .string (b ++ ⟨#[33]⟩)] 39)) := (Kp.refl _ _).alloc _
          have hz5 : (W4.alloc (.cells #[.string ⟨#[97]⟩, .string a, .string ⟨#[120]⟩, .string (b ++ ⟨#[33]⟩)] 39)).heap.size = W4.heap.size + 1 := by simp
          generalize W4.alloc (.cells #[.string ⟨#[97]⟩, .string a, .string ⟨#[120]⟩, .string (b ++ ⟨#[33]⟩)] 39) = W5 at hB5 hx5 hz5 ⊢
          have hB6 := Blk.new W5 3 #[.int .i64 1]
          have hx6 : Ext W5 (W5.alloc (.cells #[.int .i64 1] 3)) := (Kp.refl _ _).alloc _
          have hz6 : (W5.alloc (.cells #[.int .i64 1] 3)).heap.size = W5.heap.size + 1 := by simp
          generalize W5.alloc (.cells #[.int .i64 1] 3) = W6 at hB6 hx6 hz6 ⊢
          have hB7 := Blk.new W6 3 #[.int .i64 1]
          have hx7 : Ext W6 (W6.alloc (.cells #[.int .i64 1] 3)) := (Kp.refl _ _).alloc _
          have hz7 : (W6.alloc (.cells #[.int .i64 1] 3)).heap.size = W6.heap.size + 1 := by simp
          generalize W6.alloc (.cells #[.int .i64 1] 3) = W7 at hB7 hx7 hz7 ⊢
          have hB8 := Blk.new W7 3 #[.int .i64 2, .int .i64 3]
          have hx8 : Ext W7 (W7.alloc (.cells #[.int .i64 2, .int .i64 3] 3)) := (Kp.refl _ _).alloc _
          have hz8 : (W7.alloc (.cells #[.int .i64 2, .int .i64 3] 3)).heap.size = W7.heap.size + 1 := by simp
          generalize W7.alloc (.cells #[.int .i64 2, .int .i64 3] 3) = W8 at hB8 hx8 hz8 ⊢
          have hB9 := Blk.new W8 3 #[.int .i64 3, .int .i64 2]
          have hx9 : Ext W8 (W8.alloc (.cells #[.int .i64 3, .int .i64 2] 3)) := (Kp.refl _ _).alloc _
          have hz9 : (W8.alloc (.cells #[.int .i64 3, .int .i64 2] 3)).heap.size = W8.heap.size + 1 := by simp
          generalize W8.alloc (.cells #[.int .i64 3, .int .i64 2] 3) = W9 at hB9 hx9 hz9 ⊢
          have hB10 := Blk.new W9 42 #[.slice none 0 0, .slice (some ⟨w.heap.size, 0, none⟩) 1 1, .string ⟨#[]⟩, .slice (some ⟨w.heap.size + 1 + 1 + 1 + 1 + 1 + 1, 0, none⟩) 1 1, .slice (some ⟨w.heap.size + 1, 0, none⟩) 2 2, .string ⟨#[]⟩, .slice (some ⟨w.heap.size + 1 + 1 + 1 + 1 + 1 + 1 + 1, 0, none⟩) 1 1, .slice (some ⟨w.heap.size + 1 + 1 + 1 + 1, 0, none⟩) 1 1, .string ⟨#[]⟩, .slice (some ⟨w.heap.size + 1 + 1 + 1 + 1 + 1 + 1 + 1 + 1, 0, none⟩) 2 2, .slice (some ⟨w.heap.size + 1 + 1 + 1 + 1 + 1, 0, none⟩) 2 2, .string ⟨#[]⟩, .slice (some ⟨w.heap.size + 1 + 1 + 1 + 1 + 1 + 1 + 1 + 1 + 1, 0, none⟩) 2 2, .slice (some ⟨w.heap.size + 1 + 1 + 1 + 1 + 1, 0, none⟩) 2 2, .string ⟨#[]⟩]
          have hx10 : Ext W9 (W9.alloc (.cells #[.slice none 0 0, .slice (some ⟨w.heap.size, 0, none⟩) 1 1, .string ⟨#[]⟩, .slice (some ⟨w.heap.size + 1 + 1 + 1 + 1 + 1 + 1, 0, none⟩) 1 1, .slice (some ⟨w.heap.size + 1, 0, none⟩) 2 2, .string ⟨#[]⟩, .slice (some ⟨w.heap.size + 1 + 1 + 1 + 1 + 1 + 1 + 1, 0, none⟩) 1 1, .slice (some ⟨w.heap.size + 1 + 1 + 1 + 1, 0, none⟩) 1 1, .string ⟨#[]⟩, .slice (some ⟨w.heap.size + 1 + 1 + 1 + 1 + 1 + 1 + 1 + 1, 0, none⟩) 2 2, .slice (some ⟨w.heap.size + 1 + 1 + 1 + 1 + 1, 0, none⟩) 2 2, .string ⟨#[]⟩, .slice (some ⟨w.heap.size + 1 + 1 + 1 + 1 + 1 + 1 + 1 + 1 + 1, 0, none⟩) 2 2, .slice (some ⟨w.heap.size + 1 + 1 + 1 + 1 + 1, 0, none⟩) 2 2, .string ⟨#[]⟩] 42)) := (Kp.refl _ _).alloc _
          have hz10 : (W9.alloc (.cells #[.slice none 0 0, .slice (some ⟨w.heap.size, 0, none⟩) 1 1, .string ⟨#[]⟩, .slice (some ⟨w.heap.size + 1 + 1 + 1 + 1 + 1 + 1, 0, none⟩) 1 1, .slice (some ⟨w.heap.size + 1, 0, none⟩) 2 2, .string ⟨#[]⟩, .slice (some ⟨w.heap.size + 1 + 1 + 1 + 1 + 1 + 1 + 1, 0, none⟩) 1 1, .slice (some ⟨w.heap.size + 1 + 1 + 1 + 1, 0, none⟩) 1 1, .string ⟨#[]⟩, .slice (some ⟨w.heap.size + 1 + 1 + 1 + 1 + 1 + 1 + 1 + 1, 0, none⟩) 2 2, .slice (some ⟨w.heap.size + 1 + 1 + 1 + 1 + 1, 0, none⟩) 2 2, .string ⟨#[]⟩, .slice (some ⟨w.heap.size + 1 + 1 + 1 + 1 + 1 + 1 + 1 + 1 + 1, 0, none⟩) 2 2, .slice (some ⟨w.heap.size + 1 + 1 + 1 + 1 + 1, 0, none⟩) 2 2, .string ⟨#[]⟩] 42)).heap.size = W9.heap.size + 1 := by simp
          generalize W9.alloc (.cells #[.slice none 0 0, .slice (some ⟨w.heap.size, 0, none⟩) 1 1, .string ⟨#[]⟩, .slice (some ⟨w.heap.size + 1 + 1 + 1 + 1 + 1 + 1, 0, none⟩) 1 1, .slice (some ⟨w.heap.size + 1, 0, none⟩) 2 2, .string ⟨#[]⟩, .slice (some ⟨w.heap.size + 1 + 1 + 1 + 1 + 1 + 1 + 1, 0, none⟩) 1 1, .slice (some ⟨w.heap.size + 1 + 1 + 1 + 1, 0, none⟩) 1 1, .string ⟨#[]⟩, .slice (some ⟨w.heap.size + 1 + 1 + 1 + 1 + 1 + 1 + 1 + 1, 0, none⟩) 2 2, .slice (some ⟨w.heap.size + 1 + 1 + 1 + 1 + 1, 0, none⟩) 2 2, .string ⟨#[]⟩, .slice (some ⟨w.heap.size + 1 + 1 + 1 + 1 + 1 + 1 + 1 + 1 + 1, 0, none⟩) 2 2, .slice (some ⟨w.heap.size + 1 + 1 + 1 + 1 + 1, 0, none⟩) 2 2, .string ⟨#[]⟩] 42) = W10 at hB10 hx10 hz10 ⊢
          have hs1 : W0.heap.size = w.heap.size + 1 := by omega
          rw [hs1] at hB1
          have hs2 : W1.heap.size = w.heap.size + 1 + 1 := by omega
          rw [hs2] at hB2
          have hs3 : W2.heap.size = w.heap.size + 1 + 1 + 1 := by omega
          rw [hs3] at hB3
          have hs4 : W3.heap.size = w.heap.size + 1 + 1 + 1 + 1 := by omega
          rw [hs4] at hB4
          have hs5 : W4.heap.size = w.heap.size + 1 + 1 + 1 + 1 + 1 := by omega
          rw [hs5] at hB5
          have hs6 : W5.heap.size = w.heap.size + 1 + 1 + 1 + 1 + 1 + 1 := by omega
          rw [hs6] at hB6
          have hs7 : W6.heap.size = w.heap.size + 1 + 1 + 1 + 1 + 1 + 1 + 1 := by omega
          rw [hs7] at hB7
          have hs8 : W7.heap.size = w.heap.size + 1 + 1 + 1 + 1 + 1 + 1 + 1 + 1 := by omega
          rw [hs8] at hB8
          have hs9 : W8.heap.size = w.heap.size + 1 + 1 + 1 + 1 + 1 + 1 + 1 + 1 + 1 := by omega
          rw [hs9] at hB9
          have hs10 : W9.heap.size = w.heap.size + 1 + 1 + 1 + 1 + 1 + 1 + 1 + 1 + 1 + 1 := by omega
          rw [hs10] at hB10
          have hC0 := ((((((((((hB0.ext hx1).ext hx2).ext hx3).ext hx4).ext hx5).ext hx6).ext hx7).ext hx8).ext hx9).ext hx10)
          have hC1 := (((((((((hB1.ext hx2).ext hx3).ext hx4).ext hx5).ext hx6).ext hx7).ext hx8).ext hx9).ext hx10)
          have hC2 := ((((((((hB2.ext hx3).ext hx4).ext hx5).ext hx6).ext hx7).ext hx8).ext hx9).ext hx10)
          have hC3 := (((((((hB3.ext hx4).ext hx5).ext hx6).ext hx7).ext hx8).ext hx9).ext hx10)
          have hC4 := ((((((hB4.ext hx5).ext hx6).ext hx7).ext hx8).ext hx9).ext hx10)
          have hC5 := (((((hB5.ext hx6).ext hx7).ext hx8).ext hx9).ext hx10)
          have hC6 := ((((hB6.ext hx7).ext hx8).ext hx9).ext hx10)
          have hC7 := (((hB7.ext hx8).ext hx9).ext hx10)
          have hC8 := ((hB8.ext hx9).ext hx10)
          have hC9 := (hB9.ext hx10)
          have hC10 := hB10
          have hxW := ((((((((((hx0.trans hx1).trans hx2).trans hx3).trans hx4).trans hx5).trans hx6).trans hx7).trans hx8).trans hx9).trans hx10)
          have hF0 : RdF W10 (.slice (some ⟨w.heap.size, 0, none⟩) 1 1) rootL := (rd_of_blk (E := EF) (ys := rootL) (n := 1) hC0 rfl (by omega)).wide fun _ _ => trivial
          have hF3 : RdF W10 (.slice (some ⟨w.heap.size + 1 + 1 + 1 + 1 + 1, 0, none⟩) 2 2) (bothX a (b ++ ⟨#[33]⟩)) := (rd_of_blk (E := EF) (ys := (bothX a (b ++ ⟨#[33]⟩))) (n := 2) hC5 rfl (by omega)).wide fun _ _ => trivial
          obtain ⟨ss, hRd, hRk⟩ := cross_rows (one := oneL a) (two := (twoX (b ++ ⟨#[33]⟩))) (both := (bothX a (b ++ ⟨#[33]⟩))) (n1 := 2) (n2 := 1) (n3 := 2) rfl rfl rfl (by omega) (by omega) (by omega) hC0 hC1 hC4 hC5 hC6 hC7 hC8 hC9 hC10
          have hsm := cross_small (one := oneL a) (two := (twoX (b ++ ⟨#[33]⟩))) (both := (bothX a (b ++ ⟨#[33]⟩))) (oneL_may (by omega)) (twoX_may hbs) (bothX_may (by omega) hbs)
          have hmd := cross_made (one := oneL a) (two := (twoX (b ++ ⟨#[33]⟩))) (both := (bothX a (b ++ ⟨#[33]⟩))) (oneL_may (by omega)) (twoX_may hbs) (bothX_may (by omega) hbs) (one_ne_twoX _ _)
          have hv : virtOf textM rootL (oneL a) (twoX (b ++ ⟨#[33]⟩)) = (bothX a (b ++ ⟨#[33]⟩)) := cross_two (by omega) hbs
          have hgood : GoodR (crossC rootL (oneL a) (twoX (b ++ ⟨#[33]⟩)) (bothX a (b ++ ⟨#[33]⟩))) := by have := madeC_good hsm; rwa [hmd] at this
          have HMd := Lib.hid (made13_calls _ _ _ _ W10 hRd hRk (fun k hk => hk) hsm (Nat.le_of_ble_eq_true rfl))
          have HF0 := Lib.hid hF0
          have HF3 := Lib.hid hF3
          have HGood := Lib.hid hgood
          have HXW := Lib.hid hxW
          have HV := Lib.hid hv
          have HMade := Lib.hid hmd
          clear hB0 hx0 hz0 hC0 hB1 hx1 hz1 hC1 hB2 hx2 hz2 hC2 hB3 hx3 hz3 hC3 hB4 hx4 hz4 hC4 hB5 hx5 hz5 hC5 hB6 hx6 hz6 hC6 hB7 hx7 hz7 hC7 hB8 hx8 hz8 hC8 hB9 hx9 hz9 hC9 hB10 hx10 hz10 hC10 hs1 hs2 hs3 hs4 hs5 hs6 hs7 hs8 hs9 hs10 hx_0 hF0 hF3 hRd hRk hsm hmd hv hgood hxW
          refine HMd.out.mono ?_
          rintro e w1 ⟨rb, wb, I, D, D', rfl, hT⟩
          rw [HMade.out] at hT
          have HT := Lib.hid hT.r
          have HX1 := Lib.hid hT.x
          have HX := Lib.hid (HXW.out.trans hT.x)
          have hln : Calls Tryz.prog 25 #[.pointer (some ⟨rb, 0, none⟩)] w1 fun e w' => e = .returned (.int .i64 5) ∧ w1 = w' := lenR_calls HT.out
          have HLn := Lib.hid hln
          clear HMd hT hln
          go_wp2_with fail
          refine HLn.out.mono ?_
          rintro e w1' ⟨rfl, rfl⟩
          clear HLn
          have hbc := best_calls HT.out HGood.out (Nat.le_of_ble_eq_true rfl) 4 5
          rw [cross_best] at hbc
          have HBc := Lib.hid hbc
          clear hbc
          go_wp2_with fail
          refine HBc.out.mono ?_
          rintro e w2 ⟨u2, rfl, hN2, hx2⟩
          obtain ⟨A2, n2, c2, rfl⟩ := hN2.1.slice
          have hI3 := Blk.new w2 3 #[.int .i64 2, .int .i64 3]
          have hSI := sameInts_calls (.slice A2 n2 c2) (.slice (some ⟨w2.heap.size, 0, none⟩) 2 2) [2, 3] [2, 3] _ _ (w2.alloc (.cells #[.int .i64 2, .int .i64 3] 3)) (hN2.1.rd.kp ((Kp.refl _ _).alloc _)) (rd_of_blk (E := EI) (ys := [2, 3]) (n := 2) hI3 rfl (by omega))
          have HSI := Lib.hid hSI
          have HX2 := Lib.hid (hx2.alloc (.cells #[.int .i64 2, .int .i64 3] 3))
          clear HBc hN2 hx2 hI3 hSI
          go_wp2_with fail
          refine HSI.out.mono ?_
          rintro e w3 ⟨rfl, hx3⟩
          have HX3 := Lib.hid (HX2.out.trans hx3)
          have HT3 := Lib.hid (HT.out.ext HX3.out)
          clear HSI HX2 hx3
          have hb4 := baseR_calls HT3.out HGood.out (Nat.le_of_ble_eq_true rfl) 4 5
          rw [show deepF (crossC rootL (oneL a) (twoX (b ++ ⟨#[33]⟩)) (bothX a (b ++ ⟨#[33]⟩))) 4 4 5 = (bothX a (b ++ ⟨#[33]⟩)) from (cross_deep 2 _ _ _ _).trans HV.out] at hb4
          have HB4 := Lib.hid hb4
          clear hb4
          go_wp2_with fail
          refine HB4.out.mono ?_
          rintro e w4 ⟨u4, rfl, hN4, hx4⟩
          obtain ⟨A4, n4, c4, rfl⟩ := hN4.1.slice
          have HX4 := Lib.hid (HX3.out.trans hx4)
          have HS4 := Lib.hid (sameFiles_calls _ _ _ _ _ _ w4 hN4.rdF (HF3.out.ext (HX1.out.trans HX4.out)))
          clear HB4 hN4 hx4 HT3 HX3
          go_wp2_with fail
          refine HS4.out.mono ?_
          rintro e w5 ⟨rfl, hx5⟩
          rw [sameB_refl]
          have HX5 := Lib.hid (HX4.out.trans hx5)
          have HT5 := Lib.hid (HT.out.ext HX5.out)
          clear HS4 hx5 HX4
          have hb6 := deepR_calls HT5.out HGood.out (Nat.le_of_ble_eq_true rfl) 4 5 2
          rw [show deepF (crossC rootL (oneL a) (twoX (b ++ ⟨#[33]⟩)) (bothX a (b ++ ⟨#[33]⟩))) (min (2 : Int) 4).toNat 4 5 = (bothX a (b ++ ⟨#[33]⟩)) from (cross_deep 0 _ _ _ _).trans HV.out] at hb6
          have HB6 := Lib.hid hb6
          clear hb6
          go_wp2_with fail
          refine HB6.out.mono ?_
          rintro e w6 ⟨u6, rfl, hN6, hx6⟩
          obtain ⟨A6, n6, c6, rfl⟩ := hN6.1.slice
          have HX6 := Lib.hid (HX5.out.trans hx6)
          have HS6 := Lib.hid (sameFiles_calls _ _ _ _ _ _ w6 hN6.rdF (HF3.out.ext (HX1.out.trans HX6.out)))
          clear HB6 hN6 hx6 HT5 HX5
          go_wp2_with fail
          refine HS6.out.mono ?_
          rintro e w7 ⟨rfl, hx7⟩
          rw [sameB_refl]
          have HX7 := Lib.hid (HX6.out.trans hx7)
          have HT7 := Lib.hid (HT.out.ext HX7.out)
          clear HS6 hx7 HX6
          have hb8 := baseR_calls HT7.out HGood.out (Nat.le_of_ble_eq_true rfl) 2 3
          rw [show deepF (crossC rootL (oneL a) (twoX (b ++ ⟨#[33]⟩)) (bothX a (b ++ ⟨#[33]⟩))) 4 2 3 = rootL from deepF_one (d := 3) (cross_low _ _ _ _)] at hb8
          have HB8 := Lib.hid hb8
          clear hb8
          go_wp2_with fail
          refine HB8.out.mono ?_
          rintro e w8 ⟨u8, rfl, hN8, hx8⟩
          obtain ⟨A8, n8, c8, rfl⟩ := hN8.1.slice
          have HX8 := Lib.hid (HX7.out.trans hx8)
          have HS8 := Lib.hid (sameFiles_calls _ _ _ _ _ _ w8 hN8.rdF (HF0.out.ext (HX1.out.trans HX8.out)))
          clear HB8 hN8 hx8 HT7 HX7
          go_wp2_with fail
          refine HS8.out.mono ?_
          rintro e w9 ⟨rfl, hx9⟩
          rw [sameB_refl]
          have HX9 := Lib.hid ((HX.out.trans HX8.out).trans hx9)
          clear HS8 hx9 HX8
          go_wp2_with fail
          refine (awake13_calls w9).mono ?_
          rintro e w10 ⟨rfl, hx10⟩
          go_wp2_with fail
          go_ret
          exact ⟨rfl, HX9.out.trans hx10⟩

end Go.Proofs.YtgjbfkaepalkiaaGreatDoor
