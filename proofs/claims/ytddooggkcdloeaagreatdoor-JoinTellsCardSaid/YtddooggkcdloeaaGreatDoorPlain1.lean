/-
  Plain: paths, trees, what putting and dropping do.
-/
import Derived.Test.YtddooggkcdloeaaGreatDoorMay
import Derived.Test.YtddooggkcdloeaaGreatDoorSort2
namespace Go.Proofs.YtddooggkcdloeaaGreatDoor
open Go.RowKit
set_option linter.unusedVariables false
set_option linter.unusedSimpArgs false

/-! ### Pieces -/
def splitC (c : UInt8) : List UInt8 → List (List UInt8)
  | [] => [[]]
  | x :: t => if x = c then [] :: splitC c t else match splitC c t with
    | h :: r => (x :: h) :: r
    | [] => [[x]]

theorem splitK_one (c : UInt8) : ∀ l : List UInt8, Lib.splitK [c] 0 (l.count c) l = splitC c l
  | [] => rfl
  | x :: t => by
    have ih := splitK_one c t
    by_cases hx : x = c
    · subst hx
      have hi : Lib.index (x :: t) [x] = 0 := by rw [Lib.index_one]; simp [Lib.indexByte]
      rw [List.count_cons_self, Lib.splitK, hi, splitC, if_pos rfl, ← ih]
      rfl
    · have hc : (x :: t).count c = t.count c := List.count_cons_of_ne hx
      rw [hc, splitC, if_neg hx, ← ih]
      have hi : Lib.index (x :: t) [c] = if Lib.index t [c] == -1 then -1 else Lib.index t [c] + 1 := by
        rw [Lib.index_one, Lib.index_one, Lib.indexByte, if_neg (by simpa using hx)]
      have hge : -1 ≤ Lib.index t [c] := by rw [Lib.index_one]; exact Lib.indexByte_ge t c
      cases hk : t.count c with
      | zero => rfl
      | succ k =>
        rw [Lib.splitK, Lib.splitK, hi]
        by_cases h : Lib.index t [c] = -1
        · rw [h]; rfl
        · have h1 : (Lib.index t [c] == -1) = false := by simpa using h
          rw [h1]
          have h2 : (Lib.index t [c] + 1 == -1) = false := by simp; omega
          simp only [Bool.false_eq_true, if_false, h2]
          obtain ⟨n, hn⟩ : ∃ n : Nat, Lib.index t [c] = n := ⟨(Lib.index t [c]).toNat, by omega⟩
          rw [hn]
          rfl

/-- Is there an empty piece? (b: the piece at hand is empty so far.) -/
def gapC (c : UInt8) : Bool → List UInt8 → Bool
  | b, [] => b
  | b, x :: t => if x = c then b || gapC c true t else gapC c false t

theorem gapC_iff (c : UInt8) : ∀ (l : List UInt8) (b : Bool), gapC c b l = true ↔ ∃ h r, splitC c l = h :: r ∧ ((b = true ∧ h = []) ∨ [] ∈ r)
  | [], b => by
    constructor
    · intro h; exact ⟨[], [], rfl, .inl ⟨h, rfl⟩⟩
    · rintro ⟨h, r, e, h'⟩
      cases e
      rcases h' with h' | h'
      · exact h'.1
      · cases h'
  | x :: t, b => by
    have ih := gapC_iff c t
    by_cases hx : x = c
    · rw [gapC, splitC, if_pos hx, if_pos hx, Bool.or_eq_true, ih]
      constructor
      · intro h
        refine ⟨_, _, rfl, ?_⟩
        rcases h with h | ⟨h, r, e, h'⟩
        · exact .inl ⟨h, rfl⟩
        · right
          rw [e]
          rcases h' with ⟨_, rfl⟩ | h'
          · simp
          · simp [h']
      · rintro ⟨h, r, e, h'⟩
        cases e
        rcases h' with ⟨h', _⟩ | h'
        · exact .inl h'
        · right
          cases hs : splitC c t with
          | nil => rw [hs] at h'; cases h'
          | cons h r =>
            rw [hs] at h'
            refine ⟨h, r, rfl, ?_⟩
            rcases List.mem_cons.1 h' with h' | h'
            · exact .inl ⟨rfl, h'.symm⟩
            · exact .inr h'
    · rw [gapC, splitC, if_neg hx, if_neg hx, ih]
      cases hs : splitC c t with
      | nil => simp
      | cons h r =>
        constructor
        · rintro ⟨h₁, r₁, e, h'⟩
          cases e
          exact ⟨_, _, rfl, .inr (by simpa using h')⟩
        · rintro ⟨h₁, r₁, e, h'⟩
          cases e
          exact ⟨_, _, rfl, .inr (by simpa using h')⟩

theorem pieces_gap (p : ByteArray) (c : UInt8) : Lib.containsS (pieces p c) ⟨#[]⟩ = gapC c true p.toList := by
  have h1 : (pieces p c).map (fun s => s.data.toList) = splitC c p.data.toList := by
    unfold pieces
    rw [Lib.splitB_data]
    show Lib.splitK [c] 0 (Lib.count p.data.toList [c]) _ = _
    rw [Lib.count_one, splitK_one]
  have h2 : Lib.containsS (pieces p c) ⟨#[]⟩ = true ↔ gapC c true p.toList = true := by
    rw [Lib.containsS_iff, gapC_iff, Lib.toList_data, ← h1]
    constructor
    · intro h
      cases hp : pieces p c with
      | nil => rw [hp] at h; cases h
      | cons a r =>
        rw [hp] at h
        refine ⟨_, _, rfl, ?_⟩
        rcases List.mem_cons.1 h with h | h
        · left; rw [← h]; exact ⟨rfl, rfl⟩
        · right; exact List.mem_map.2 ⟨_, h, rfl⟩
    · rintro ⟨h, r, e, h'⟩
      cases hp : pieces p c with
      | nil => rw [hp] at e; cases e
      | cons a s =>
        rw [hp] at e
        simp only [List.map_cons, List.cons.injEq] at e
        have hem : ∀ x : ByteArray, x.data.toList = [] → x = ⟨#[]⟩ := by
          rintro ⟨⟨l⟩⟩ h; simp at h; rw [h]
        rcases h' with ⟨_, h'⟩ | h'
        · rw [hem a (e.1.trans h')]; simp
        · rw [← e.2] at h'
          obtain ⟨x, hx, hx'⟩ := List.mem_map.1 h'
          rw [hem x hx'] at hx
          simp [hx]
  cases h : gapC c true p.toList with
  | true => exact h2.2 h
  | false =>
    cases h' : Lib.containsS (pieces p c) ⟨#[]⟩ with
    | false => rfl
    | true => rw [h2.1 h'] at h; cases h

/-- A path, in plain words. -/
def pathL (l : List UInt8) : Bool := decide (l.length ≤ 60) && !l.any oddB && !gapC 47 true l
theorem pathB_eq (p : ByteArray) : pathB p = pathL p.toList := by
  have hl : p.toList.length = p.size := by rw [Lib.toList_data]; rfl
  unfold pathB pathL
  rw [pieces_gap, hl]
  cases h : p.toList with
  | nil =>
    have : p.size = 0 := by rw [← hl, h]; rfl
    rw [this]; rfl
  | cons x t =>
    have : (p.size == 0) = false := by rw [← hl, h]; rfl
    rw [this]; simp

theorem gapC_append_cons (c : UInt8) : ∀ (l m : List UInt8) (b : Bool), gapC c b (l ++ c :: m) = (gapC c b l || gapC c true m)
  | [], m, b => by simp [gapC]
  | x :: l, m, b => by
    rw [List.cons_append, gapC, gapC]
    by_cases hx : x = c
    · rw [if_pos hx, if_pos hx, gapC_append_cons, Bool.or_assoc]
    · rw [if_neg hx, if_neg hx, gapC_append_cons]
/-- A byte that is no sign joins the pieces. -/
theorem gapC_append_other (c y : UInt8) (hy : y ≠ c) : ∀ (l m : List UInt8) (b : Bool), gapC c b l = false → gapC c true m = false → gapC c b (l ++ y :: m) = false
  | [], m, b, _, hm => by
    rw [List.nil_append, gapC, if_neg hy]
    have : ∀ (m : List UInt8), gapC c true m = false → gapC c false m = false := by
      intro m h
      cases m with
      | nil => rfl
      | cons z m =>
        rw [gapC] at h ⊢
        split at h
        · cases h
        · rename_i hz; rw [if_neg hz]; exact h
    exact this m hm
  | x :: l, m, b, hl, hm => by
    rw [List.cons_append]
    rw [gapC] at hl ⊢
    by_cases hx : x = c
    · rw [if_pos hx, Bool.or_eq_false_iff] at hl
      rw [if_pos hx, hl.1, Bool.false_or]
      exact gapC_append_other c y hy l m true hl.2 hm
    · rw [if_neg hx] at hl
      rw [if_neg hx]
      exact gapC_append_other c y hy l m false hl hm

/-! ### Trees -/
theorem underB_eq (p d : ByteArray) : underB p d = Lib.hasPrefix p.toList (d.toList ++ [47]) := by
  unfold underB
  rw [← Lib.toList_data, ← Lib.toList_data]
  congr 1
  rw [Lib.toList_data, Lib.toList_data]
  show (d ++ slashB).data.toList = _
  simp [slashB]

structure Tree (xs : List File) : Prop where
  few : xs.length ≤ 12
  each : ∀ f ∈ xs, pathB f.path = true ∧ f.data.size ≤ 400
  rise : xs.Pairwise fun a b => ltB a.path b.path = true
  apart : xs.Pairwise fun a b => underB b.path a.path = false

theorem okFrom_iff : ∀ (r pre : List File), (pre.Pairwise fun a b => ltB a.path b.path = true) → (okFrom pre r = true ↔ (∀ f ∈ r, pathB f.path = true ∧ f.data.size ≤ 400) ∧ ((pre ++ r).Pairwise fun a b => ltB a.path b.path = true) ∧ (r.Pairwise fun a b => underB b.path a.path = false) ∧ ∀ f ∈ r, ∀ g ∈ pre, underB f.path g.path = false)
  | [], pre, hp => by simp [okFrom, hp]
  | f :: r, pre, hp => by
    rw [okFrom, Bool.and_eq_true]
    have hb : (!badF pre f) = true ↔ (pathB f.path = true ∧ f.data.size ≤ 400) ∧ (∀ g, pre.getLast? = some g → ltB g.path f.path = true) ∧ ∀ g ∈ pre, underB f.path g.path = false := by
      unfold badF orderB
      simp only [Bool.not_eq_true', Bool.or_eq_false_iff, Bool.not_eq_false', decide_eq_false_iff_not, List.any_eq_false, Bool.not_eq_true]
      constructor
      · rintro ⟨⟨h1, h2, h3⟩, h4⟩
        refine ⟨⟨h1, by omega⟩, fun g hg => ?_, h4⟩
        rw [hg] at h3; simpa using h3
      · rintro ⟨⟨h1, h2⟩, h3, h4⟩
        refine ⟨⟨h1, by omega, ?_⟩, h4⟩
        cases hg : pre.getLast? with
        | none => rfl
        | some g => simp [h3 g hg]
    have hlast : (∀ g, pre.getLast? = some g → ltB g.path f.path = true) ↔ ((pre ++ [f]).Pairwise fun a b => ltB a.path b.path = true) := by
      rw [List.pairwise_append]
      constructor
      · intro h
        refine ⟨hp, List.pairwise_singleton _ _, fun a ha b hb => ?_⟩
        rw [List.mem_singleton] at hb
        subst hb
        rcases List.eq_nil_or_concat pre with rfl | ⟨q, g, rfl⟩
        · cases ha
        · have hgf := h g (by simp)
          rw [List.concat_eq_append] at ha hp
          rcases List.mem_append.1 ha with ha | ha
          · exact ltB_trans ((List.pairwise_append.1 hp).2.2 a ha g (by simp)) hgf
          · rw [List.mem_singleton.1 ha]; exact hgf
      · rintro ⟨_, _, h⟩ g hg
        exact h g (List.mem_of_getLast? hg) f (by simp)
    constructor
    · rintro ⟨h1, h2⟩
      obtain ⟨a, b, c⟩ := hb.1 h1
      have hpf := hlast.1 b
      obtain ⟨d1, d2, d3, d4⟩ := (okFrom_iff r (pre ++ [f]) hpf).1 h2
      refine ⟨fun g hg => ?_, by simpa using d2, ?_, fun g hg k hk => ?_⟩
      · rcases List.mem_cons.1 hg with rfl | hg
        · exact a
        · exact d1 g hg
      · rw [List.pairwise_cons]; exact ⟨fun g hg => d4 g hg f (by simp), d3⟩
      · rcases List.mem_cons.1 hg with rfl | hg
        · exact c k hk
        · exact d4 g hg k (by simp [hk])
    · rintro ⟨d1, d2, d3, d4⟩
      have d2' : ((pre ++ [f]) ++ r).Pairwise fun a b => ltB a.path b.path = true := by simpa using d2
      have hpf := (List.pairwise_append.1 d2').1
      rw [List.pairwise_cons] at d3
      refine ⟨hb.2 ⟨d1 f (by simp), hlast.2 hpf, fun g hg => d4 f (by simp) g hg⟩, (okFrom_iff r (pre ++ [f]) hpf).2 ⟨fun g hg => d1 g (by simp [hg]), d2', d3.2, fun g hg k hk => ?_⟩⟩
      rcases List.mem_append.1 hk with hk | hk
      · exact d4 g (by simp [hg]) k hk
      · rw [List.mem_singleton.1 hk]; exact d3.1 g hg

theorem mayB_iff (xs : List File) : mayB xs = true ↔ Tree xs := by
  unfold mayB
  rw [Bool.and_eq_true, decide_eq_true_eq, okFrom_iff xs [] List.Pairwise.nil]
  constructor
  · rintro ⟨h1, h2, h3, h4, _⟩
    exact ⟨h1, h2, by simpa using h3, h4⟩
  · rintro ⟨h1, h2, h3, h4⟩
    exact ⟨h1, h2, by simpa using h3, h4, by simp⟩

theorem Tree.sub {xs ys : List File} (h : Tree xs) (hs : ys.Sublist xs) : Tree ys :=
  ⟨Nat.le_trans hs.length_le h.few, fun f hf => h.each f (hs.subset hf), h.rise.sublist hs, h.apart.sublist hs⟩

/-- Without a path. -/
def dropF (xs : List File) (p : ByteArray) : List File := xs.filter fun f => !(f.path.toList == p.toList)
theorem dropF_sub (xs : List File) (p : ByteArray) : (dropF xs p).Sublist xs := List.filter_sublist
theorem putF_eq (xs : List File) (p d : ByteArray) : putF xs p d = insK File.path ⟨p, d⟩ (sortK File.path (dropF xs p)) := by
  unfold putF dropF
  rw [sortK_snoc]

end Go.Proofs.YtddooggkcdloeaaGreatDoor
