/-
  Plain: paths, trees, what putting and dropping do. Plain: what was put is got; a tree with a file less.
-/
import Derived.Test.YtgjbfkaepalkiaaGreatDoorMay
import Derived.Test.YtgjbfkaepalkiaaGreatDoorTree2
import Derived.Test.YtgjbfkaepalkiaaGreatDoorLaw0
namespace Go.Proofs.YtgjbfkaepalkiaaGreatDoor
open Go.RowKit
set_option linter.unusedVariables false
set_option linter.unusedSimpArgs false

/-! ### Pieces -/
def splitC (c : UInt8) : List UInt8 → List (List UInt8)
  | [] => [[]]
  | x :: t => if x = c then [] :: splitC c t else match splitC c t with
    | h :: r => (x :: h) :: r
    | [] => [[x]]

theorem splitK_one (c : UInt8) : ∀ l : List UInt8, Lib.splitK [c] 0 (l.count c) l = splitC c l
  | [] => rfl
  | x :: t => by
    have ih := splitK_one c t
    by_cases hx : x = c
    · subst hx
      have hi : Lib.index (x :: t) [x] = 0 := by rw [Lib.index_one]; simp [Lib.indexByte]
      rw [List.count_cons_self, Lib.splitK, hi, splitC, if_pos rfl, ← ih]
      rfl
    · have hc : (x :: t).count c = t.count c := List.count_cons_of_ne hx
      rw [hc, splitC, if_neg hx, ← ih]
      have hi : Lib.index (x :: t) [c] = if Lib.index t [c] == -1 then -1 else Lib.index t [c] + 1 := by
        rw [Lib.index_one, Lib.index_one, Lib.indexByte, if_neg (by simpa using hx)]
      have hge : -1 ≤ Lib.index t [c] := by rw [Lib.index_one]; exact Lib.indexByte_ge t c
      cases hk : t.count c with
      | zero => rfl
      | succ k =>
        rw [Lib.splitK, Lib.splitK, hi]
        by_cases h : Lib.index t [c] = -1
        · rw [h]; rfl
        · have h1 : (Lib.index t [c] == -1) = false := by simpa using h
          rw [h1]
          have h2 : (Lib.index t [c] + 1 == -1) = false := by simp; omega
          simp only [Bool.false_eq_true, if_false, h2]
          obtain ⟨n, hn⟩ : ∃ n : Nat, Lib.index t [c] = n := ⟨(Lib.index t [c]).toNat, by omega⟩
          rw [hn]
          rfl

/-- Is there an empty piece? (b: the piece at hand is empty so far.) -/
def gapC (c : UInt8) : Bool → List UInt8 → Bool
  | b, [] => b
  | b, x :: t => if x = c then b || gapC c true t else gapC c false t

theorem gapC_iff (c : UInt8) : ∀ (l : List UInt8) (b : Bool), gapC c b l = true ↔ ∃ h r, splitC c l = h :: r ∧ ((b = true ∧ h = []) ∨ [] ∈ r)
  | [], b => by
    constructor
    · intro h; exact ⟨[], [], rfl, .inl ⟨h, rfl⟩⟩
    · rintro ⟨h, r, e, h'⟩
      cases e
      rcases h' with h' | h'
      · exact h'.1
      · cases h'
  | x :: t, b => by
    have ih := gapC_iff c t
    by_cases hx : x = c
    · rw [gapC, splitC, if_pos hx, if_pos hx, Bool.or_eq_true, ih]
      constructor
      · intro h
        refine ⟨_, _, rfl, ?_⟩
        rcases h with h | ⟨h, r, e, h'⟩
        · exact .inl ⟨h, rfl⟩
        · right
          rw [e]
          rcases h' with ⟨_, rfl⟩ | h'
          · simp
          · simp [h']
      · rintro ⟨h, r, e, h'⟩
        cases e
        rcases h' with ⟨h', _⟩ | h'
        · exact .inl h'
        · right
          cases hs : splitC c t with
          | nil => rw [hs] at h'; cases h'
          | cons h r =>
            rw [hs] at h'
            refine ⟨h, r, rfl, ?_⟩
            rcases List.mem_cons.1 h' with h' | h'
            · exact .inl ⟨rfl, h'.symm⟩
            · exact .inr h'
    · rw [gapC, splitC, if_neg hx, if_neg hx, ih]
      cases hs : splitC c t with
      | nil => simp
      | cons h r =>
        constructor
        · rintro ⟨h₁, r₁, e, h'⟩
          cases e
          exact ⟨_, _, rfl, .inr (by simpa using h')⟩
        · rintro ⟨h₁, r₁, e, h'⟩
          cases e
          exact ⟨_, _, rfl, .inr (by simpa using h')⟩

theorem pieces_gap (p : ByteArray) (c : UInt8) : Lib.containsS (pieces p c) ⟨#[]⟩ = gapC c true p.toList := by
  have h1 : (pieces p c).map (fun s => s.data.toList) = splitC c p.data.toList := by
    unfold pieces
    rw [Lib.splitB_data]
    show Lib.splitK [c] 0 (Lib.count p.data.toList [c]) _ = _
    rw [Lib.count_one, splitK_one]
  have h2 : Lib.containsS (pieces p c) ⟨#[]⟩ = true ↔ gapC c true p.toList = true := by
    rw [Lib.containsS_iff, gapC_iff, Lib.toList_data, ← h1]
    constructor
    · intro h
      cases hp : pieces p c with
      | nil => rw [hp] at h; cases h
      | cons a r =>
        rw [hp] at h
        refine ⟨_, _, rfl, ?_⟩
        rcases List.mem_cons.1 h with h | h
        · left; rw [← h]; exact ⟨rfl, rfl⟩
        · right; exact List.mem_map.2 ⟨_, h, rfl⟩
    · rintro ⟨h, r, e, h'⟩
      cases hp : pieces p c with
      | nil => rw [hp] at e; cases e
      | cons a s =>
        rw [hp] at e
        simp only [List.map_cons, List.cons.injEq] at e
        have hem : ∀ x : ByteArray, x.data.toList = [] → x = ⟨#[]⟩ := by
          rintro ⟨⟨l⟩⟩ h; simp at h; rw [h]
        rcases h' with ⟨_, h'⟩ | h'
        · rw [hem a (e.1.trans h')]; simp
        · rw [← e.2] at h'
          obtain ⟨x, hx, hx'⟩ := List.mem_map.1 h'
          rw [hem x hx'] at hx
          simp [hx]
  cases h : gapC c true p.toList with
  | true => exact h2.2 h
  | false =>
    cases h' : Lib.containsS (pieces p c) ⟨#[]⟩ with
    | false => rfl
    | true => rw [h2.1 h'] at h; cases h

/-- A path, in plain words. -/
def pathL (l : List UInt8) : Bool := decide (l.length ≤ 60) && !l.any oddB && !gapC 47 true l
theorem pathB_eq (p : ByteArray) : pathB p = pathL p.toList := by
  have hl : p.toList.length = p.size := by rw [Lib.toList_data]; rfl
  unfold pathB pathL
  rw [pieces_gap, hl]
  cases h : p.toList with
  | nil =>
    have : p.size = 0 := by rw [← hl, h]; rfl
    rw [this]; rfl
  | cons x t =>
    have : (p.size == 0) = false := by rw [← hl, h]; rfl
    rw [this]; simp

theorem gapC_append_cons (c : UInt8) : ∀ (l m : List UInt8) (b : Bool), gapC c b (l ++ c :: m) = (gapC c b l || gapC c true m)
  | [], m, b => by simp [gapC]
  | x :: l, m, b => by
    rw [List.cons_append, gapC, gapC]
    by_cases hx : x = c
    · rw [if_pos hx, if_pos hx, gapC_append_cons, Bool.or_assoc]
    · rw [if_neg hx, if_neg hx, gapC_append_cons]
/-- A byte that is no sign joins the pieces. -/
theorem gapC_append_other (c y : UInt8) (hy : y ≠ c) : ∀ (l m : List UInt8) (b : Bool), gapC c b l = false → gapC c true m = false → gapC c b (l ++ y :: m) = false
  | [], m, b, _, hm => by
    rw [List.nil_append, gapC, if_neg hy]
    have : ∀ (m : List UInt8), gapC c true m = false → gapC c false m = false := by
      intro m h
      cases m with
      | nil => rfl
      | cons z m =>
        rw [gapC] at h ⊢
        split at h
        · cases h
        · rename_i hz; rw [if_neg hz]; exact h
    exact this m hm
  | x :: l, m, b, hl, hm => by
    rw [List.cons_append]
    rw [gapC] at hl ⊢
    by_cases hx : x = c
    · rw [if_pos hx, Bool.or_eq_false_iff] at hl
      rw [if_pos hx, hl.1, Bool.false_or]
      exact gapC_append_other c y hy l m true hl.2 hm
    · rw [if_neg hx] at hl
      rw [if_neg hx]
      exact gapC_append_other c y hy l m false hl hm

/-! ### Trees -/
theorem underB_eq (p d : ByteArray) : underB p d = Lib.hasPrefix p.toList (d.toList ++ [47]) := by
  unfold underB
  rw [← Lib.toList_data, ← Lib.toList_data]
  congr 1
  rw [Lib.toList_data, Lib.toList_data]
  show (d ++ slashB).data.toList = _
  simp [slashB]

structure Tree (xs : List File) : Prop where
  few : xs.length ≤ 12
  each : ∀ f ∈ xs, pathB f.path = true ∧ f.data.size ≤ 400
  rise : xs.Pairwise fun a b => ltB a.path b.path = true
  apart : xs.Pairwise fun a b => underB b.path a.path = false

theorem okFrom_iff : ∀ (r pre : List File), (pre.Pairwise fun a b => ltB a.path b.path = true) → (okFrom pre r = true ↔ (∀ f ∈ r, pathB f.path = true ∧ f.data.size ≤ 400) ∧ ((pre ++ r).Pairwise fun a b => ltB a.path b.path = true) ∧ (r.Pairwise fun a b => underB b.path a.path = false) ∧ ∀ f ∈ r, ∀ g ∈ pre, underB f.path g.path = false)
  | [], pre, hp => by simp [okFrom, hp]
  | f :: r, pre, hp => by
    rw [okFrom, Bool.and_eq_true]
    have hb : (!badF pre f) = true ↔ (pathB f.path = true ∧ f.data.size ≤ 400) ∧ (∀ g, pre.getLast? = some g → ltB g.path f.path = true) ∧ ∀ g ∈ pre, underB f.path g.path = false := by
      unfold badF orderB
      simp only [Bool.not_eq_true', Bool.or_eq_false_iff, Bool.not_eq_false', decide_eq_false_iff_not, List.any_eq_false, Bool.not_eq_true]
      constructor
      · rintro ⟨⟨h1, h2, h3⟩, h4⟩
        refine ⟨⟨h1, by omega⟩, fun g hg => ?_, h4⟩
        rw [hg] at h3; simpa using h3
      · rintro ⟨⟨h1, h2⟩, h3, h4⟩
        refine ⟨⟨h1, by omega, ?_⟩, h4⟩
        cases hg : pre.getLast? with
        | none => rfl
        | some g => simp [h3 g hg]
    have hlast : (∀ g, pre.getLast? = some g → ltB g.path f.path = true) ↔ ((pre ++ [f]).Pairwise fun a b => ltB a.path b.path = true) := by
      rw [List.pairwise_append]
      constructor
      · intro h
        refine ⟨hp, List.pairwise_singleton _ _, fun a ha b hb => ?_⟩
        rw [List.mem_singleton] at hb
        subst hb
        rcases List.eq_nil_or_concat pre with rfl | ⟨q, g, rfl⟩
        · cases ha
        · have hgf := h g (by simp)
          rw [List.concat_eq_append] at ha hp
          rcases List.mem_append.1 ha with ha | ha
          · exact ltB_trans ((List.pairwise_append.1 hp).2.2 a ha g (by simp)) hgf
          · rw [List.mem_singleton.1 ha]; exact hgf
      · rintro ⟨_, _, h⟩ g hg
        exact h g (List.mem_of_getLast? hg) f (by simp)
    constructor
    · rintro ⟨h1, h2⟩
      obtain ⟨a, b, c⟩ := hb.1 h1
      have hpf := hlast.1 b
      obtain ⟨d1, d2, d3, d4⟩ := (okFrom_iff r (pre ++ [f]) hpf).1 h2
      refine ⟨fun g hg => ?_, by simpa using d2, ?_, fun g hg k hk => ?_⟩
      · rcases List.mem_cons.1 hg with rfl | hg
        · exact a
        · exact d1 g hg
      · rw [List.pairwise_cons]; exact ⟨fun g hg => d4 g hg f (by simp), d3⟩
      · rcases List.mem_cons.1 hg with rfl | hg
        · exact c k hk
        · exact d4 g hg k (by simp [hk])
    · rintro ⟨d1, d2, d3, d4⟩
      have d2' : ((pre ++ [f]) ++ r).Pairwise fun a b => ltB a.path b.path = true := by simpa using d2
      have hpf := (List.pairwise_append.1 d2').1
      rw [List.pairwise_cons] at d3
      refine ⟨hb.2 ⟨d1 f (by simp), hlast.2 hpf, fun g hg => d4 f (by simp) g hg⟩, (okFrom_iff r (pre ++ [f]) hpf).2 ⟨fun g hg => d1 g (by simp [hg]), d2', d3.2, fun g hg k hk => ?_⟩⟩
      rcases List.mem_append.1 hk with hk | hk
      · exact d4 g (by simp [hg]) k hk
      · rw [List.mem_singleton.1 hk]; exact d3.1 g hg

theorem mayB_iff (xs : List File) : mayB xs = true ↔ Tree xs := by
  unfold mayB
  rw [Bool.and_eq_true, decide_eq_true_eq, okFrom_iff xs [] List.Pairwise.nil]
  constructor
  · rintro ⟨h1, h2, h3, h4, _⟩
    exact ⟨h1, h2, by simpa using h3, h4⟩
  · rintro ⟨h1, h2, h3, h4⟩
    exact ⟨h1, h2, by simpa using h3, h4, by simp⟩

theorem Tree.sub {xs ys : List File} (h : Tree xs) (hs : ys.Sublist xs) : Tree ys :=
  ⟨Nat.le_trans hs.length_le h.few, fun f hf => h.each f (hs.subset hf), h.rise.sublist hs, h.apart.sublist hs⟩

/-- Without a path. -/
def dropF (xs : List File) (p : ByteArray) : List File := xs.filter fun f => !(f.path.toList == p.toList)
theorem dropF_sub (xs : List File) (p : ByteArray) : (dropF xs p).Sublist xs := List.filter_sublist
theorem putF_eq (xs : List File) (p d : ByteArray) : putF xs p d = insK File.path ⟨p, d⟩ (sortK File.path (dropF xs p)) := by
  unfold putF dropF
  rw [sortK_snoc]

end Go.Proofs.YtgjbfkaepalkiaaGreatDoor

namespace Go.Proofs.YtgjbfkaepalkiaaGreatDoor
open Go.RowKit
set_option linter.unusedVariables false
set_option linter.unusedSimpArgs false

theorem sortK_of_rise {α : Type} (key : α → ByteArray) : ∀ (l : List α), RiseK key l → sortK key l = l := by
  refine snocInd ?_ ?_
  · intro _; rfl
  · intro l x ih h
    have hl : RiseK key l := (List.pairwise_append.1 h).1
    rw [sortK_snoc, ih hl, insK_at key x l l.length (Nat.le_refl _)]
    · simp
    · intro y hy
      rw [List.take_length] at hy
      exact (List.pairwise_append.1 h).2.2 y hy x (by simp)
    · simp

theorem Tree.riseK {xs : List File} (h : Tree xs) : RiseK File.path xs := h.rise.imp fun hab => ltB_asymm hab
theorem find_insK {α : Type} (key : α → ByteArray) (P : α → Bool) (x : α) : ∀ (l : List α), (P x = false → (insK key x l).find? P = l.find? P) ∧ (P x = true → (∀ y ∈ l, P y = false) → (insK key x l).find? P = some x)
  | [] => by
    constructor
    · intro h; simp [insK, h]
    · intro h _; simp [insK, h]
  | y :: l => by
    obtain ⟨ih1, ih2⟩ := find_insK key P x l
    constructor
    · intro h
      rw [insK]
      split
      · rw [List.find?_cons, h]
      · rw [List.find?_cons, List.find?_cons, ih1 h]
    · intro h hl
      rw [insK]
      split
      · rw [List.find?_cons, h]
      · rw [List.find?_cons, hl y (by simp), ih2 h fun z hz => hl z (by simp [hz])]
theorem filter_insK {α : Type} (key : α → ByteArray) (P : α → Bool) (x : α) (h : P x = false) : ∀ (l : List α), (insK key x l).filter P = l.filter P
  | [] => by simp [insK, h]
  | y :: l => by
    rw [insK]
    split
    · rw [List.filter_cons, h]; rfl
    · rw [List.filter_cons, List.filter_cons, filter_insK key P x h l]

theorem dropF_mem {xs : List File} {p : ByteArray} {f : File} : f ∈ dropF xs p ↔ f ∈ xs ∧ f.path ≠ p := by
  unfold dropF
  rw [List.mem_filter]
  refine and_congr_right fun _ => ?_
  rw [toList_beq]
  simp
theorem dropF_dropF (xs : List File) (p : ByteArray) : dropF (dropF xs p) p = dropF xs p := by
  unfold dropF
  rw [List.filter_filter]
  simp
theorem Tree.drop {xs : List File} (h : Tree xs) (p : ByteArray) : Tree (dropF xs p) := h.sub (dropF_sub xs p)
theorem Tree.put_eq {xs : List File} (h : Tree xs) (p d : ByteArray) : putF xs p d = insK File.path ⟨p, d⟩ (dropF xs p) := by
  rw [putF_eq, sortK_of_rise _ _ (h.drop p).riseK]
theorem getF_put (xs : List File) (h : Tree xs) (p d : ByteArray) : getF (putF xs p d) p = some ⟨p, d⟩ := by
  rw [h.put_eq]
  refine (find_insK File.path _ ⟨p, d⟩ _).2 (by simp) fun y hy => ?_
  have := (dropF_mem.1 hy).2
  simp only [toList_beq]
  simp [this]
theorem getF_put_other (xs : List File) (h : Tree xs) (p d q : ByteArray) (hq : q ≠ p) : getF (putF xs p d) q = getF xs q := by
  rw [h.put_eq]
  have h1 := (find_insK File.path (fun f => f.path.toList == q.toList) ⟨p, d⟩ (dropF xs p)).1 (by simp only [toList_beq]; simp; exact fun e => hq e.symm)
  unfold getF
  rw [h1]
  unfold dropF
  rw [List.find?_filter]
  congr 1
  funext f
  simp only [toList_beq]
  by_cases hf : f.path = q
  · subst hf; simp [hq]
  · simp [hf]
theorem getF_mem {xs : List File} (h : Tree xs) {f : File} (hf : f ∈ xs) : getF xs f.path = some f := by
  unfold getF
  obtain ⟨s, t, rfl⟩ := List.append_of_mem hf
  rw [List.find?_append]
  have : s.find? (fun g => g.path.toList == f.path.toList) = none := by
    rw [List.find?_eq_none]
    intro g hg
    have hlt := (List.pairwise_append.1 h.rise).2.2 g hg f (by simp)
    rw [toList_beq]
    simp
    intro e
    rw [e, ltB_irrefl] at hlt
    cases hlt
  rw [this]
  simp
theorem getF_drop (xs : List File) (p : ByteArray) : getF (dropF xs p) p = none := by
  unfold getF
  rw [List.find?_eq_none]
  intro g hg
  rw [toList_beq]
  simp
  exact (dropF_mem.1 hg).2
theorem dropF_put (xs : List File) (h : Tree xs) (p d : ByteArray) : dropF (putF xs p d) p = dropF xs p := by
  rw [h.put_eq]
  have : dropF (insK File.path ⟨p, d⟩ (dropF xs p)) p = dropF (dropF xs p) p := filter_insK File.path _ _ (by simp) _
  rw [this, dropF_dropF]
/-- A file of a tree stands between what is less and what is more. -/
theorem Tree.split {xs : List File} (h : Tree xs) {f : File} (hf : f ∈ xs) : ∃ s t, xs = s ++ f :: t ∧ dropF xs f.path = s ++ t ∧ insK File.path f (s ++ t) = xs := by
  obtain ⟨s, t, rfl⟩ := List.append_of_mem hf
  have hr := List.pairwise_append.1 h.rise
  have hs : ∀ g ∈ s, ltB g.path f.path = true := fun g hg => hr.2.2 g hg f (by simp)
  have ht : ∀ g ∈ t, ltB f.path g.path = true := fun g hg => (List.pairwise_cons.1 hr.2.1).1 g hg
  refine ⟨s, t, rfl, ?_, ?_⟩
  · unfold dropF
    rw [List.filter_append, List.filter_cons]
    have h1 : s.filter (fun g => !(g.path.toList == f.path.toList)) = s := by
      rw [List.filter_eq_self]
      intro g hg
      have := hs g hg
      rw [toList_beq]
      simp
      intro e; rw [e, ltB_irrefl] at this; cases this
    have h2 : t.filter (fun g => !(g.path.toList == f.path.toList)) = t := by
      rw [List.filter_eq_self]
      intro g hg
      have := ht g hg
      rw [toList_beq]
      simp
      intro e; rw [e, ltB_irrefl] at this; cases this
    rw [h1, h2]
    simp
  · rw [insK_at File.path f (s ++ t) s.length (by simp)]
    · simp
    · intro y hy
      rw [List.take_left'] at hy
      · exact ltB_asymm (hs y hy)
      · rfl
    · intro y hy
      rw [List.drop_left'] at hy
      · exact ht y hy
      · rfl
theorem dropF_length {xs : List File} (h : Tree xs) {f : File} (hf : f ∈ xs) : (dropF xs f.path).length = xs.length - 1 := by
  obtain ⟨s, t, e, h1, _⟩ := h.split hf
  rw [h1, e]; simp
theorem put_back {xs : List File} (h : Tree xs) {f : File} (hf : f ∈ xs) : putF (dropF xs f.path) f.path f.data = xs := by
  obtain ⟨s, t, e, h1, h2⟩ := h.split hf
  rw [(h.drop f.path).put_eq, dropF_dropF, h1]
  exact h2

/-! ### awake -/
def bA : ByteArray := ⟨#[97]⟩
def bAB : ByteArray := ⟨#[97, 47, 98]⟩
def bAmB : ByteArray := ⟨#[97, 45, 98]⟩
def bA2B : ByteArray := ⟨#[97, 47, 47, 98]⟩
def bX : ByteArray := ⟨#[120]⟩
def b1 : ByteArray := ⟨#[49]⟩
def bNo : ByteArray := ⟨#[]⟩
theorem awake_may1 : mayB [⟨bA, bNo⟩, ⟨bAB, bNo⟩] = false := by
  cases h : mayB [⟨bA, bNo⟩, ⟨bAB, bNo⟩] with
  | false => rfl
  | true =>
    have := ((mayB_iff _).1 h).apart
    rw [List.pairwise_cons] at this
    have := this.1 ⟨bAB, bNo⟩ (by simp)
    rw [underB_eq] at this
    exact absurd this (by decide +kernel)
theorem awake_pathAB : pathB bAB = true := by rw [pathB_eq]; decide +kernel
theorem awake_pathA : pathB bA = true := by rw [pathB_eq]; decide +kernel
theorem awake_pathAmB : pathB bAmB = true := by rw [pathB_eq]; decide +kernel
theorem awake_pathA2B : pathB bA2B = false := by rw [pathB_eq]; decide +kernel
theorem awake_may2 : mayB [⟨bA, bNo⟩, ⟨bAmB, bNo⟩] = true := by
  rw [mayB_iff]
  refine ⟨by decide, fun f hf => ?_, ?_, ?_⟩
  · rcases List.mem_cons.1 hf with rfl | hf
    · exact ⟨awake_pathA, by decide⟩
    · rw [List.mem_singleton.1 hf]; exact ⟨awake_pathAmB, by decide⟩
  · simp only [List.pairwise_cons, List.mem_singleton, forall_eq, List.not_mem_nil, false_implies, implies_true, List.Pairwise.nil, and_true]
    rw [ltB_iff]; decide +kernel
  · simp only [List.pairwise_cons, List.mem_singleton, forall_eq, List.not_mem_nil, false_implies, implies_true, List.Pairwise.nil, and_true]
    rw [underB_eq]; decide +kernel
theorem awake_put : putF [] bX b1 = [⟨bX, b1⟩] := rfl

end Go.Proofs.YtgjbfkaepalkiaaGreatDoor
