/-
  Plain: what is gathered, and its sizes; files of any blocks; join.Of, join.Virtual at files that are not great. Plain: a merge of lines does not ask which side is which.
-/
import Derived.Test.YtgjbfkaepalkiaaGreatDoorJoin4
import Derived.Test.YtgjbfkaepalkiaaGreatDoorText
import Derived.Test.YtgjbfkaepalkiaaGreatDoorSameX
namespace Go.Proofs.YtgjbfkaepalkiaaGreatDoor
open Go.RowKit
set_option linter.unusedVariables false
set_option linter.unusedSimpArgs false

theorem reach_none_b (o a : Fl) : reachB o a noFl = false := by unfold reachB noFl; simp
theorem reach_none_a (o b : Fl) : reachB o noFl b = false := by unfold reachB noFl; simp
theorem reach_same_b (o a : Fl) : reachB o a o = false := by unfold reachB; rw [(flB_iff o o).2 rfl]; simp
theorem reach_same_a (o b : Fl) : reachB o o b = false := by unfold reachB; rw [(flB_iff o o).2 rfl]; simp
/-- Files that came of three trees stand where one of these has one. -/
theorem gathF_path (m : Mrg) (oth : Fl → Fl) (o a b : List File) : ∀ y ∈ (gathF m oth o a b).1, y.path ∈ flatP [o, a, b] := by
  have key : ∀ ps : List ByteArray, ∀ y ∈ (gathL m oth o a b ps).1, y.path ∈ ps := by
    intro ps
    refine snocInd (p := fun ps => ∀ y ∈ (gathL m oth o a b ps).1, y.path ∈ ps) (fun y hy => by cases hy) (fun l x ih => ?_) ps
    intro y hy
    rw [gathL_snoc] at hy
    unfold stepG at hy
    simp only [List.mem_append] at hy
    rcases hy with hy | hy
    · exact List.mem_append_left _ (ih y hy)
    · refine List.mem_append_right _ ?_
      have aux : ∀ f : Fl, y ∈ (if f.is = true then ([⟨x, f.data⟩] : List File) else []) → y.path ∈ [x] := by
        intro f h
        split at h
        · rw [List.mem_singleton.1 h]; exact List.mem_singleton.2 rfl
        · cases h
      exact aux _ hy
  intro y hy
  exact (riseT_mem _ _).1 (key _ y hy)
theorem gathF_size (m : Mrg) (oth : Fl → Fl) {o a b : List File} {n : Nat} (p1 : ∀ y ∈ o, y.path.size ≤ n) (p2 : ∀ y ∈ a, y.path.size ≤ n) (p3 : ∀ y ∈ b, y.path.size ≤ n) : ∀ y ∈ (gathF m oth o a b).1, y.path.size ≤ n := by
  intro y hy
  have h := gathF_path m oth o a b y hy
  unfold flatP at h
  simp only [List.flatten_cons, List.flatten_nil, List.append_nil, List.map_append, List.mem_append, List.mem_map] at h
  rcases h with ⟨z, hz, e⟩ | ⟨z, hz, e⟩ | ⟨z, hz, e⟩
  · rw [← e]; exact p1 z hz
  · rw [← e]; exact p2 z hz
  · rw [← e]; exact p3 z hz

def ax : ByteArray := ⟨#[120]⟩
abbrev RdF (w : World) (v : Value) (xs : List File) : Prop := Rd EF (fun _ => True) w v xs
theorem RdF.ext {w w' : World} {v : Value} {xs : List File} (h : RdF w v xs) (hx : Ext w w') : RdF w' v xs := h.kp hx
theorem New.rdF {w : World} {n : Nat} {v : Value} {xs : List File} (h : New EF 39 n w v xs) : RdF w v xs := h.rd.wide fun _ _ => trivial

theorem one_size {d : ByteArray} : ∀ y ∈ ([⟨ax, d⟩] : List File), y.path.size ≤ 1000000 := fun y hy => by rw [List.mem_singleton.1 hy]; show ax.size ≤ _; decide
theorem nil_size : ∀ y ∈ ([] : List File), y.path.size ≤ 1000000 := fun y hy => by cases hy
def great9 (o a b : List File) : Bool := greatB o 14 || (greatB a 14 || greatB b 14)
def hasB (xs : List ByteArray) (p : ByteArray) : Bool := xs.any fun x => x.toList == p.toList
theorem hasB_iff (xs : List ByteArray) (p : ByteArray) : hasB xs p = true ↔ p ∈ xs := by
  unfold hasB
  rw [List.any_eq_true]
  constructor
  · rintro ⟨x, hx, h⟩
    rw [beq_iff_eq] at h
    rw [← toList_inj h]
    exact hx
  · exact fun h => ⟨p, h, by simp⟩
theorem great9_false {o a b : List File} (h : great9 o a b = false) : greatB o 14 = false ∧ greatB a 14 = false ∧ greatB b 14 = false := by
  unfold great9 at h
  rw [Bool.or_eq_false_iff, Bool.or_eq_false_iff] at h
  exact h
theorem small_len {xs : List File} (h : greatB xs 14 = false) : xs.length ≤ 1000 := Nat.le_trans (greatB_false h).1 (by omega)
theorem small_path {xs : List File} (h : greatB xs 14 = false) : ∀ y ∈ xs, y.path.size ≤ 1000000 := fun y hy => Nat.le_trans ((greatB_false h).2 y hy).1 (by omega)
theorem atF_data {xs : List File} (h : mayB xs = true) (p : ByteArray) : (atF xs p).data.size ≤ 400 := by
  show (getD xs p).size ≤ 400
  unfold getD
  cases hg : getF xs p with
  | none => exact Nat.zero_le _
  | some f => exact (((mayB_iff xs).1 h).each f (List.mem_of_find?_eq_some hg)).2
theorem may3_iff (o a b : List File) : may3 o a b = true ↔ mayB o = true ∧ mayB a = true ∧ mayB b = true := by
  unfold may3
  rw [Bool.and_eq_true, Bool.and_eq_true]
theorem may3_merge {o a b : List File} (h : may3 o a b = true) (p : ByteArray) : MrgAt textM (atF o p).data (atF a p).data (atF b p).data := fun W =>
  textMerge_calls _ _ _ (atF_data ((may3_iff _ _ _).1 h).1 p) (atF_data ((may3_iff _ _ _).1 h).2.1 p) (atF_data ((may3_iff _ _ _).1 h).2.2 p) W

/-- join.Of. -/
theorem of9_calls (v1 v2 v3 : Value) (xs ys zs : List File) (w : World) (hA : RdF w v1 xs) (hB : RdF w v2 ys) (hC : RdF w v3 zs) (g1 : greatB xs 14 = false) (g2 : greatB ys 14 = false) (g3 : greatB zs 14 = false) :
    Calls Tryz.prog 71 #[v1, v2, v3] w (JoinPost w (joinOf textM xs ys zs).1 (joinOf textM xs ys zs).2) :=
  joinOf_calls textM v1 v2 v3 xs ys zs _ w hA hB hC (small_len g1) (small_len g2) (small_len g3) (small_path g1) (small_path g2) (small_path g3) (fun _ => gathF_size _ _ (small_path g1) (small_path g2) (small_path g3)) fun h p _ => may3_merge h p
/-- join.Virtual. -/
theorem virt9_calls (v1 v2 v3 : Value) (xs ys zs : List File) (w : World) (hA : RdF w v1 xs) (hB : RdF w v2 ys) (hC : RdF w v3 zs) (g1 : greatB xs 14 = false) (g2 : greatB ys 14 = false) (g3 : greatB zs 14 = false) :
    Calls Tryz.prog 59 #[v1, v2, v3] w (VirtPost w (virtOf textM xs ys zs)) :=
  virtOf_calls textM v1 v2 v3 xs ys zs _ w hA hB hC (small_len g1) (small_len g2) (small_len g3) (small_path g1) (small_path g2) (small_path g3) (fun _ => gathF_size _ _ (small_path g1) (small_path g2) (small_path g3)) fun h p _ => may3_merge h p

end Go.Proofs.YtgjbfkaepalkiaaGreatDoor

namespace Go.Proofs.YtgjbfkaepalkiaaGreatDoor
open Go.RowKit
set_option linter.unusedVariables false
set_option linter.unusedSimpArgs false

theorem pairwise_unique {α : Type} {r : α → α → Prop} (asy : ∀ a b, r a b → ¬ r b a) : ∀ {l m : List α}, l.Pairwise r → m.Pairwise r → (∀ y, y ∈ l ↔ y ∈ m) → l = m
  | [], [], _, _, _ => rfl
  | [], y :: m, _, _, h => by have := (h y).2 (List.mem_cons_self ..); cases this
  | x :: l, [], _, _, h => by have := (h x).1 (List.mem_cons_self ..); cases this
  | x :: l, y :: m, hl, hm, h => by
    rw [List.pairwise_cons] at hl hm
    have hxy : x = y := by
      rcases List.mem_cons.1 ((h x).1 (List.mem_cons_self ..)) with e | hx
      · exact e
      · rcases List.mem_cons.1 ((h y).2 (List.mem_cons_self ..)) with e | hy
        · exact e.symm
        · exact absurd (hm.1 x hx) (asy _ _ (hl.1 y hy))
    subst hxy
    have irr : ∀ z, r x z → z ≠ x := fun z hz e => by subst e; exact asy _ _ hz hz
    rw [pairwise_unique asy hl.2 hm.2 fun z => ⟨fun hz => by
      rcases List.mem_cons.1 ((h z).1 (List.mem_cons_of_mem _ hz)) with e | h'
      · exact absurd e (irr z (hl.1 z hz))
      · exact h', fun hz => by
      rcases List.mem_cons.1 ((h z).2 (List.mem_cons_of_mem _ hz)) with e | h'
      · exact absurd e (irr z (hm.1 z hz))
      · exact h'⟩]

theorem inN_of {ps : List (Nat × Nat)} (h : ps.Pairwise LtPair) {x j : Nat} (hm : (x, j) ∈ ps) : inN ps x = some j := by
  revert h hm
  refine snocInd (p := fun ps => ps.Pairwise LtPair → (x, j) ∈ ps → inN ps x = some j) (fun _ h => by cases h) (fun l p ih h hm => ?_) ps
  rw [inN_snoc]
  dsimp only
  rw [List.pairwise_append] at h
  rcases List.mem_append.1 hm with hm | hm
  · have hlt := (h.2.2 _ hm p (List.mem_singleton.2 rfl)).1
    dsimp only at hlt
    rw [if_neg (by omega)]
    exact ih h.1 hm
  · have e := List.mem_singleton.1 hm
    rw [← e]
    simp
theorem standK_iff {ps qs : List (Nat × Nat)} (hp : ps.Pairwise LtPair) (q : Pl) : q ∈ standK (inN ps) qs ↔ (q.base, q.a) ∈ qs ∧ (q.base, q.b) ∈ ps := by
  constructor
  · intro h
    obtain ⟨h1, h2⟩ := standK_mem h
    exact ⟨h1, inN_mem h2⟩
  · rintro ⟨h1, h2⟩
    unfold standK
    refine List.mem_flatMap.2 ⟨_, h1, ?_⟩
    unfold standOne
    rw [inN_of hp h2]
    exact List.mem_singleton.2 rfl
def swapPl (p : Pl) : Pl := ⟨p.base, p.b, p.a⟩
theorem standF_swap (o a b : List ByteArray) : standF o b a = (standF o a b).map swapPl := by
  unfold standF
  rw [List.map_append]
  have : standK (inN (pairsF o a)) (pairsF o b) = (standK (inN (pairsF o b)) (pairsF o a)).map swapPl := by
    refine pairwise_unique (r := LtP) (fun p q h k => by have := h.base; have := k.base; omega) (standK_rise (pairsF_rise _ _) (pairsF_rise _ _)) ?_ fun y => ?_
    · rw [List.pairwise_map]
      exact (standK_rise (pairsF_rise _ _) (pairsF_rise _ _)).imp fun {p q} h => ⟨h.base, h.b, h.a⟩
    · rw [standK_iff (pairsF_rise _ _), List.mem_map]
      constructor
      · rintro ⟨h1, h2⟩
        exact ⟨swapPl y, (standK_iff (pairsF_rise _ _) _).2 ⟨h2, h1⟩, rfl⟩
      · rintro ⟨z, hz, rfl⟩
        obtain ⟨h1, h2⟩ := (standK_iff (pairsF_rise _ _) _).1 hz
        exact ⟨h2, h1⟩
  rw [this]
  rfl
def swapPt (q : Pt) : Pt := ⟨q.conflict, q.base, q.b, q.a⟩
def swapS (s : PS3) : PS3 := ⟨s.l.map swapPt, swapPl s.at_, swapPl s.from_⟩
theorem sameT_comm (x y : List ByteArray) : sameT x y = sameT y x := by unfold sameT; exact decide_eq_decide.2 eq_comm
theorem flagP_swap (q : Pt) : flagP (swapPt q) = swapPt (flagP q) := by
  unfold flagP swapPt
  dsimp only
  rw [sameT_comm q.b q.a, Bool.and_comm (!sameT q.b q.base)]
theorem fastP_swap (o a b : List ByteArray) (l : List Pt) (t f : Pl) : fastP o b a (l.map swapPt) (swapPl t) (swapPl f) = (fastP o a b l t f).map swapPt := by
  unfold fastP swapPl
  dsimp only
  split
  · rw [List.map_append]; rfl
  · rfl
theorem plB_swap (p q : Pl) : plB (swapPl p) (swapPl q) = plB p q := by
  unfold plB swapPl
  dsimp only
  rw [Bool.and_comm (p.b == q.b)]
theorem stepP_swap (o a b : List ByteArray) (s : PS3) (p : Pl) : stepP o b a (swapS s) (swapPl p) = swapS (stepP o a b s p) := by
  unfold stepP
  rw [show (swapS s).at_ = swapPl s.at_ from rfl, plB_swap]
  split
  · rfl
  · unfold swapS
    dsimp only
    rw [fastP_swap, List.map_append]
    show (⟨_ ++ [flagP (swapPt (partF o a b s.at_ p))], _, _⟩ : PS3) = _
    rw [flagP_swap]
    rfl
theorem partsK_swap (o a b : List ByteArray) (ps : List Pl) : partsK o b a (ps.map swapPl) = swapS (partsK o a b ps) := by
  refine snocInd (p := fun ps => partsK o b a (ps.map swapPl) = swapS (partsK o a b ps)) rfl (fun l p ih => ?_) ps
  rw [List.map_append, List.map_singleton, partsK_snoc, partsK_snoc, ih, stepP_swap]
theorem partsF_swap (o a b : List ByteArray) : partsF o b a = (partsF o a b).map swapPt := by
  unfold partsF
  rw [standF_swap, partsK_swap]
  exact fastP_swap o a b _ ⟨o.length, a.length, b.length⟩ _

/-! ### Where no piece is in conflict, each side's choice is the same -/
theorem pairsL_eq (xs : List ByteArray) : ∀ (i j : Nat) (ys : List ByteArray), ∀ p ∈ pairsL xs i j ys, i ≤ p.1 ∧ j ≤ p.2 ∧ ∃ v, xs[p.1 - i]? = some v ∧ ys[p.2 - j]? = some v := by
  induction xs with
  | nil => intro i j ys p hp; cases hp
  | cons x xs ih =>
    intro i j ys
    induction ys generalizing j with
    | nil => intro p hp; cases hp
    | cons y ys ih2 =>
      rw [pairsL_cons]
      intro p hp
      split at hp
      · rename_i e
        rcases List.mem_cons.1 hp with rfl | hp
        · exact ⟨Nat.le_refl _, Nat.le_refl _, x, by simp, by simp [e]⟩
        · obtain ⟨h1, h2, v, h3, h4⟩ := ih _ _ _ p hp
          refine ⟨by omega, by omega, v, ?_, ?_⟩
          · rw [show p.1 - i = (p.1 - (i + 1)) + 1 by omega]; exact h3
          · rw [show p.2 - j = (p.2 - (j + 1)) + 1 by omega]; exact h4
      · split at hp
        · obtain ⟨h1, h2, v, h3, h4⟩ := ih _ _ _ p hp
          refine ⟨by omega, by omega, v, ?_, h4⟩
          rw [show p.1 - i = (p.1 - (i + 1)) + 1 by omega]; exact h3
        · obtain ⟨h1, h2, v, h3, h4⟩ := ih2 _ p hp
          refine ⟨by omega, by omega, v, h3, ?_⟩
          rw [show p.2 - j = (p.2 - (j + 1)) + 1 by omega]; exact h4
theorem pairsF_eq {a b : List ByteArray} {x y : Nat} (h : (x, y) ∈ pairsF a b) : ∃ v, a[x]? = some v ∧ b[y]? = some v := by
  obtain ⟨_, _, v, h3, h4⟩ := pairsL_eq _ _ _ _ _ h
  exact ⟨v, by simpa using h3, by simpa using h4⟩
/-- What stands at a place in all three is the same, or the place lies behind all three. -/
def AtOk (o a b : List ByteArray) (p : Pl) : Prop := ∃ v : Option ByteArray, o[p.base]? = v ∧ a[p.a]? = v ∧ b[p.b]? = v
theorem standF_ok (o a b : List ByteArray) : ∀ p ∈ standF o a b, AtOk o a b p := by
  intro p hp
  unfold standF at hp
  rcases List.mem_append.1 hp with hp | hp
  · obtain ⟨h1, h2⟩ := (standK_iff (pairsF_rise _ _) _).1 hp
    obtain ⟨v, e1, e2⟩ := pairsF_eq h1
    obtain ⟨u, e3, e4⟩ := pairsF_eq h2
    rw [e1] at e3
    injection e3 with e3
    subst e3
    exact ⟨_, e1, e2, e4⟩
  · rw [List.mem_singleton.1 hp]
    exact ⟨none, by simp, by simp, by simp⟩
theorem sub_next {α : Type} (xs : List α) {i j : Nat} (h : i ≤ j) : sub xs i (j + 1) = sub xs i j ++ xs[j]?.toList := by
  unfold sub
  rw [show j + 1 - i = (j - i) + 1 by omega, List.take_add_one, List.getElem?_drop, show i + (j - i) = j by omega]
theorem sub_one {α : Type} (xs : List α) (i : Nat) : sub xs i (i + 1) = xs[i]?.toList := by
  rw [sub_next xs (Nat.le_refl i)]
  unfold sub
  simp
/-- A piece that is in conflict, or two of whose three sides are the same. -/
def Good (q : Pt) : Prop := q.conflict = true ∨ q.a = q.b ∨ q.a = q.base ∨ q.b = q.base
structure EqS (o a b : List ByteArray) (s : PS3) : Prop where
  le : LeP s.from_ s.at_
  ea : sub a s.from_.a s.at_.a = sub o s.from_.base s.at_.base
  eb : sub b s.from_.b s.at_.b = sub o s.from_.base s.at_.base
  good : ∀ q ∈ s.l, Good q
theorem flagP_good (q : Pt) : Good (flagP q) := by
  unfold Good flagP sameT
  dsimp only
  by_cases h1 : q.a = q.b
  · exact .inr (.inl h1)
  · by_cases h2 : q.a = q.base
    · exact .inr (.inr (.inl h2))
    · by_cases h3 : q.b = q.base
      · exact .inr (.inr (.inr h3))
      · exact .inl (by rw [decide_eq_false h1, decide_eq_false h2, decide_eq_false h3]; rfl)
theorem fastP_good {o a b : List ByteArray} {s : PS3} (h : EqS o a b s) : ∀ q ∈ fastP o a b s.l s.at_ s.from_, Good q := by
  unfold fastP
  split
  · intro q hq
    rcases List.mem_append.1 hq with hq | hq
    · exact h.good q hq
    · rw [List.mem_singleton.1 hq]
      exact .inr (.inl (h.ea.trans h.eb.symm))
  · exact h.good
theorem eqS_step {o a b : List ByteArray} {s : PS3} {p : Pl} (h : EqS o a b s) (hp : AtOk o a b p) : EqS o a b (stepP o a b s p) := by
  obtain ⟨v, e1, e2, e3⟩ := hp
  unfold stepP
  split
  · rename_i hpl
    have hpe : p = s.at_ := by
      unfold plB at hpl
      simp only [Bool.and_eq_true, beq_iff_eq] at hpl
      cases p; cases hs : s.at_
      rw [hs] at hpl
      simp_all
    subst hpe
    refine ⟨⟨Nat.le_succ_of_le h.le.base, Nat.le_succ_of_le h.le.a, Nat.le_succ_of_le h.le.b⟩, ?_, ?_, h.good⟩
    · dsimp only
      rw [sub_next a h.le.a, sub_next o h.le.base, h.ea, e1, e2]
    · dsimp only
      rw [sub_next b h.le.b, sub_next o h.le.base, h.eb, e1, e3]
  · refine ⟨⟨Nat.le_succ _, Nat.le_succ _, Nat.le_succ _⟩, ?_, ?_, fun q hq => ?_⟩
    · dsimp only
      rw [sub_one, sub_one, e1, e2]
    · dsimp only
      rw [sub_one, sub_one, e1, e3]
    · rcases List.mem_append.1 hq with hq | hq
      · exact fastP_good h q hq
      · rw [List.mem_singleton.1 hq]; exact flagP_good _
theorem partsK_eqS (o a b : List ByteArray) (ps : List Pl) (h : ∀ p ∈ ps, AtOk o a b p) : EqS o a b (partsK o a b ps) := by
  revert h
  refine snocInd (p := fun ps => (∀ p ∈ ps, AtOk o a b p) → EqS o a b (partsK o a b ps)) (fun _ => ⟨⟨Nat.le_refl _, Nat.le_refl _, Nat.le_refl _⟩, rfl, rfl, fun q hq => by cases hq⟩) (fun l p ih h => ?_) ps
  rw [partsK_snoc]
  exact eqS_step (ih fun q hq => h q (List.mem_append_left _ hq)) (h p (List.mem_append_right _ (List.mem_singleton.2 rfl)))
theorem stepP_at (o a b : List ByteArray) (s : PS3) (p : Pl) : (stepP o a b s p).at_ = ⟨p.base + 1, p.a + 1, p.b + 1⟩ := by
  unfold stepP
  split <;> rfl
theorem partsF_good (o a b : List ByteArray) : ∀ q ∈ partsF o a b, Good q := by
  have hall := standF_ok o a b
  unfold partsF
  dsimp only
  have hst : standF o a b = standK (inN (pairsF o b)) (pairsF o a) ++ [⟨o.length, a.length, b.length⟩] := rfl
  have hE := partsK_eqS o a b _ hall
  have hat : (partsK o a b (standF o a b)).at_ = ⟨o.length + 1, a.length + 1, b.length + 1⟩ := by rw [hst, partsK_snoc, stepP_at]
  have hle := hE.le
  generalize partsK o a b (standF o a b) = s at hE hat hle
  intro q hq
  unfold fastP at hq
  split at hq
  · rename_i hlt
    rcases List.mem_append.1 hq with hq | hq
    · exact hE.good q hq
    · rw [List.mem_singleton.1 hq]
      have ea := hE.ea
      have eb := hE.eb
      rw [hat] at ea eb
      have key : ∀ (xs : List ByteArray) (i : Nat), sub xs i (xs.length + 1) = sub xs i xs.length := fun xs i => by
        unfold sub
        rw [List.take_of_length_le (by rw [List.length_drop]; omega), List.take_of_length_le (by rw [List.length_drop]; omega)]
      dsimp only at ea eb
      rw [key, key] at ea eb
      exact .inr (.inl (ea.trans eb.symm))
  · exact hE.good q hq
theorem chosenF_swap {q : Pt} (h : Good q) (hc : q.conflict = false) : chosenF (swapPt q) = chosenF q := by
  unfold chosenF swapPt sameT
  dsimp only
  rcases h with h | h | h | h
  · exact absurd (h.symm.trans hc) (by decide)
  · simp [h]
  · rw [h]
    by_cases e : q.b = q.base
    · simp [e]
    · have e' : ¬ q.base = q.b := fun x => e x.symm
      simp [e, e']
  · rw [h]
    by_cases e : q.a = q.base
    · simp [e]
    · have e' : ¬ q.base = q.a := fun x => e x.symm
      simp [e, e']
theorem mergeL_swap (o a b : List ByteArray) : mergeL o b a = mergeL o a b := by
  have hg := partsF_good o a b
  unfold mergeL
  rw [partsF_swap, List.any_map]
  show (if (partsF o a b).any Pt.conflict = true then _ else _) = _
  split
  · rfl
  · rename_i hc
    have hc' : ∀ q ∈ partsF o a b, q.conflict = false := fun q hq => by
      cases h : q.conflict with
      | false => rfl
      | true => exact absurd (List.any_eq_true.2 ⟨q, hq, h⟩) hc
    congr 1
    generalize partsF o a b = l at hg hc'
    induction l with
    | nil => rfl
    | cons q l ih =>
      have hh : ∀ x ∈ l, Good x := fun x hx => hg x (List.mem_cons_of_mem _ hx)
      have hk : ∀ x ∈ l, x.conflict = false := fun x hx => hc' x (List.mem_cons_of_mem _ hx)
      have hcc : ¬ l.any Pt.conflict = true := fun hx => by
        obtain ⟨y, hy, e⟩ := List.any_eq_true.1 hx
        rw [hk y hy] at e; cases e
      rw [List.map_cons, List.flatMap_cons, List.flatMap_cons, chosenF_swap (hg q (List.mem_cons_self ..)) (hc' q (List.mem_cons_self ..)), ih hh hk]
theorem textM_swap (o a b : ByteArray) : textM o b a = textM o a b := by
  unfold textM
  have e : ∀ x y : ByteArray, eqT x y = eqT y x := fun x y => by unfold eqT; exact Bool.beq_comm
  by_cases h1 : a = b
  · rw [h1]
  · by_cases h2 : b = o
    · have h3 : ¬ a = o := fun h => h1 (h.trans h2.symm)
      have n1 : eqT a b = false := Bool.eq_false_iff.2 fun h => h1 ((eqT_iff _ _).1 h)
      have n3 : eqT a o = false := Bool.eq_false_iff.2 fun h => h3 ((eqT_iff _ _).1 h)
      rw [e b a, n1, n3, (eqT_iff b o).2 h2]
      simp
    · have n1 : eqT a b = false := Bool.eq_false_iff.2 fun h => h1 ((eqT_iff _ _).1 h)
      have n2 : eqT b o = false := Bool.eq_false_iff.2 fun h => h2 ((eqT_iff _ _).1 h)
      rw [e b a, n1, n2]
      by_cases h3 : a = o
      · rw [(eqT_iff a o).2 h3]
        simp
      · have n3 : eqT a o = false := Bool.eq_false_iff.2 fun h => h3 ((eqT_iff _ _).1 h)
        rw [n3, mergeL_swap]
        have : [o, b, a].any oddT = [o, a, b].any oddT := by
          simp only [List.any_cons, List.any_nil, Bool.or_false]
          rw [Bool.or_comm (oddT b)]
        rw [this]
        rfl

end Go.Proofs.YtgjbfkaepalkiaaGreatDoor
