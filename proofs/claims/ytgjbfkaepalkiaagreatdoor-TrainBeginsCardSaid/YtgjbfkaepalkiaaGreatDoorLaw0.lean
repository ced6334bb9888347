/-
  The order of texts; a list sorted by insertion, what is alike left as it stood. Plain Lean. Rows of files: stores; putting in, plain. What the statements share: GreatFiles, SameFiles, Low.
-/
import Derived.Test.YtgjbfkaepalkiaaGreatDoorData
import Derived.Test.YtgjbfkaepalkiaaGreatDoorSeq
import Derived.Deep.QuietTactic
import Derived.BigQuiet
import Derived.StillTailTactics
import Derived.BigRegion
import Derived.Laws.Cover1
namespace Go.Proofs.YtgjbfkaepalkiaaGreatDoor
set_option linter.unusedVariables false
set_option linter.unusedSimpArgs false

/-- Does the one text stand ahead of the other? -/
def ltB (a b : ByteArray) : Bool := Op.bytesLess a.toList b.toList

theorem bytesLess_eq' : ∀ (x y : List UInt8), Op.bytesLess x y = decide (x < y)
  | [], [] => by simp [Op.bytesLess]
  | [], b :: y => by simp [Op.bytesLess]
  | a :: x, [] => by simp [Op.bytesLess]
  | a :: x, b :: y => by
    rw [Op.bytesLess, bytesLess_eq' x y, Bool.eq_iff_iff]
    simp [List.cons_lt_cons_iff]

theorem toList_inj {a b : ByteArray} (h : a.toList = b.toList) : a = b := by
  rw [ByteArray.toList_eq, ByteArray.toList_eq] at h
  cases a with | mk a => cases b with | mk b => simpa using h
theorem toList_beq (a b : ByteArray) : (a.toList == b.toList) = decide (a = b) := by
  rw [Bool.eq_iff_iff]
  simp only [beq_iff_eq, decide_eq_true_eq]
  exact ⟨toList_inj, fun h => by rw [h]⟩

theorem ltB_iff {a b : ByteArray} : ltB a b = true ↔ a.toList < b.toList := by unfold ltB; rw [bytesLess_eq']; simp
theorem ltB_irrefl (a : ByteArray) : ltB a a = false := by
  cases h : ltB a a with
  | false => rfl
  | true => exact absurd (ltB_iff.1 h) (List.lt_irrefl _)
theorem ltB_trans {a b c : ByteArray} (h : ltB a b = true) (k : ltB b c = true) : ltB a c = true := ltB_iff.2 (List.lt_trans (ltB_iff.1 h) (ltB_iff.1 k))
theorem ltB_asymm {a b : ByteArray} (h : ltB a b = true) : ltB b a = false := by
  cases k : ltB b a with
  | false => rfl
  | true => exact absurd (ltB_trans h k) (by rw [ltB_irrefl]; simp)
theorem ltB_tri {a b : ByteArray} (h : ltB a b = false) (k : ltB b a = false) : a = b := by
  refine toList_inj ?_
  have h1 : ¬ a.toList < b.toList := fun e => by rw [ltB_iff.2 e] at h; cases h
  have h2 : ¬ b.toList < a.toList := fun e => by rw [ltB_iff.2 e] at k; cases k
  exact List.le_antisymm (List.not_lt.1 h2) (List.not_lt.1 h1)
/-- not-behind is transitive. -/
theorem leB_trans {a b c : ByteArray} (h : ltB b a = false) (k : ltB c b = false) : ltB c a = false := by
  cases e : ltB c a with
  | false => rfl
  | true =>
    cases f : ltB a b with
    | true => rw [ltB_trans e f] at k; cases k
    | false => rw [ltB_tri f h] at e; rw [e] at k; cases k

theorem snocInd {α : Type} {p : List α → Prop} (h0 : p []) (h1 : ∀ l x, p l → p (l ++ [x])) (l : List α) : p l := by
  have h : ∀ r : List α, p r.reverse := by
    intro r
    induction r with
    | nil => exact h0
    | cons x r ih => rw [List.reverse_cons]; exact h1 _ x ih
  have := h l.reverse
  rwa [List.reverse_reverse] at this

section
variable {α : Type} (key : α → ByteArray)

/-- x in its place, behind what is alike. -/
def insK (x : α) : List α → List α
  | [] => [x]
  | y :: ys => if ltB (key x) (key y) = true then x :: y :: ys else y :: insK x ys

/-- Sorted by insertion. -/
def sortK (l : List α) : List α := l.foldl (fun acc x => insK key x acc) []

/-- Rising, what is alike let in. -/
def RiseK (l : List α) : Prop := l.Pairwise fun a b => ltB (key b) (key a) = false

theorem insK_mem {x z : α} {l : List α} : z ∈ insK key x l ↔ z = x ∨ z ∈ l := by
  induction l with
  | nil => simp [insK]
  | cons y ys ih =>
    unfold insK
    split
    · simp
    · simp only [List.mem_cons, ih]
      constructor
      · rintro (h | h | h)
        · exact .inr (.inl h)
        · exact .inl h
        · exact .inr (.inr h)
      · rintro (h | h | h)
        · exact .inr (.inl h)
        · exact .inl h
        · exact .inr (.inr h)
theorem insK_length (x : α) (l : List α) : (insK key x l).length = l.length + 1 := by
  induction l with
  | nil => rfl
  | cons y ys ih =>
    unfold insK
    split
    · rfl
    · simp [ih]
theorem insK_perm (x : α) (l : List α) : (insK key x l).Perm (x :: l) := by
  induction l with
  | nil => exact List.Perm.refl _
  | cons y ys ih =>
    unfold insK
    split
    · exact List.Perm.refl _
    · exact (ih.cons y).trans (List.Perm.swap x y ys)
theorem insK_rise (x : α) {l : List α} (h : RiseK key l) : RiseK key (insK key x l) := by
  induction l with
  | nil => simp [insK, RiseK]
  | cons y ys ih =>
    unfold RiseK at h ⊢
    obtain ⟨h1, h2⟩ := List.pairwise_cons.1 h
    unfold insK
    split
    · rename_i hlt
      refine List.pairwise_cons.2 ⟨fun z hz => ?_, h⟩
      rcases List.mem_cons.1 hz with rfl | hz
      · exact ltB_asymm hlt
      · exact leB_trans (ltB_asymm hlt) (h1 z hz)
    · rename_i hlt
      refine List.pairwise_cons.2 ⟨fun z hz => ?_, ih h2⟩
      rcases (insK_mem key).1 hz with rfl | hz
      · simpa using hlt
      · exact h1 z hz
theorem sortK_snoc (l : List α) (x : α) : sortK key (l ++ [x]) = insK key x (sortK key l) := by simp [sortK, List.foldl_append]
theorem sortK_length (l : List α) : (sortK key l).length = l.length := by
  refine snocInd (p := fun l => (sortK key l).length = l.length) rfl (fun l x ih => ?_) l
  rw [sortK_snoc, insK_length, ih, List.length_append]; rfl
theorem sortK_perm (l : List α) : (sortK key l).Perm l := by
  refine snocInd (p := fun l => (sortK key l).Perm l) (List.Perm.refl _) (fun l x ih => ?_) l
  rw [sortK_snoc]
  exact (insK_perm key x _).trans ((ih.cons x).trans (List.perm_append_singleton x l).symm)
theorem sortK_rise (l : List α) : RiseK key (sortK key l) := by
  refine snocInd (p := fun l => RiseK key (sortK key l)) (by simp [sortK, RiseK]) (fun l x ih => ?_) l
  rw [sortK_snoc]; exact insK_rise key x ih

/-- Where the insertion stops: all ahead of j are not behind x, all from j on are. -/
theorem insK_at (x : α) (l : List α) (j : Nat) (hj : j ≤ l.length) (h1 : ∀ y ∈ l.take j, ltB (key x) (key y) = false) (h2 : ∀ y ∈ l.drop j, ltB (key x) (key y) = true) : insK key x l = l.take j ++ x :: l.drop j := by
  induction l generalizing j with
  | nil => simp [insK]
  | cons y ys ih =>
    cases j with
    | zero =>
      have := h2 y (by simp)
      simp [insK, this]
    | succ j =>
      have h0 := h1 y (by simp)
      unfold insK
      rw [if_neg (by rw [h0]; simp), ih j (by simpa using hj) (fun z hz => h1 z (by simp [hz])) (fun z hz => h2 z (by simpa using hz))]
      simp
/-- What stands ahead of what is not behind x, is not. -/
theorem rise_take (x : α) {l : List α} (h : RiseK key l) (j : Nat) (hj : j ≤ l.length) (hx : ∀ (h0 : 0 < j), ltB (key x) (key (l[j - 1]'(by omega))) = false) : ∀ y ∈ l.take j, ltB (key x) (key y) = false := by
  intro y hy
  obtain ⟨i, hi, rfl⟩ := List.mem_iff_getElem.1 hy
  rw [List.length_take] at hi
  rw [List.getElem_take]
  have h0 := hx (by omega)
  by_cases hij : i = j - 1
  · subst hij; exact h0
  · exact leB_trans (List.pairwise_iff_getElem.1 h i (j - 1) (by omega) (by omega) (by omega)) h0
end

end Go.Proofs.YtgjbfkaepalkiaaGreatDoor

namespace Go.Proofs.YtgjbfkaepalkiaaGreatDoor
open Go.RowKit
set_option linter.unusedVariables false
set_option linter.unusedSimpArgs false

/-- One file is stored over another one. -/
theorem Own.setF {t : TypeId} {w : World} {g n c : Nat} {xs : List File} (h : Own EF t w (.slice (some ⟨g, 0, none⟩) n c) xs) {i : Nat} (hi : i < xs.length) (y : File) :
    Own EF t ((w.setCell ⟨g, i * 2, none⟩ (.string y.path)).setCell ⟨g, i * 2 + 1, none⟩ (.string y.data)) (.slice (some ⟨g, 0, none⟩) n c) (xs.set i y) := by
  obtain ⟨hl, h2⟩ := h
  rcases h2 with ⟨h1, _⟩ | ⟨g', cap, cur, h1, hb, hg, hn, hm, hs, ht⟩
  · cases h1
  · injection h1 with h1 h1' h1''
    injection h1 with h1
    injection h1 with h1
    subst h1 h1' h1''
    have hfl : ∀ (l : List File) (i : Nat) (y : File), EF.flat (l.set i y) = ((EF.flat l).set (i * 2) (.string y.path)).set (i * 2 + 1) (.string y.data) := by
      intro l
      induction l with
      | nil => intro i y; simp [El.flat]
      | cons z l ih =>
        intro i y
        cases i with
        | zero => rfl
        | succ i =>
          rw [List.set_cons_succ, EF.flat_cons, EF.flat_cons, ih]
          show _ = (List.set (EF.enc z ++ EF.flat l) ((i + 1) * 2) _).set ((i + 1) * 2 + 1) _
          rw [show (i + 1) * 2 = i * 2 + 2 by omega]
          rfl
    have hh : ((w.setCell ⟨g, i * 2, none⟩ (.string y.path)).setCell ⟨g, i * 2 + 1, none⟩ (.string y.data)).heap[g]? = some (.cells ((cur.setIfInBounds (i * 2) (.string y.path)).setIfInBounds (i * 2 + 1) (.string y.data)) t (0, 0)) :=
      Blk.set_ (Blk.set_ (show Blk w g t cur from hg) (i * 2) (.string y.path)) (i * 2 + 1) (.string y.data)
    refine ⟨by rw [hfl]; simpa using hl, .inr ⟨g, c, _, by rw [List.length_set], hb, hh, by rw [List.length_set]; exact hn, hm, by simpa using hs, ?_⟩⟩
    rw [hfl, ← ht, List.length_set]
    have hlt : i * 2 + 1 < xs.length * 2 := by omega
    simp only [Array.toList_setIfInBounds]
    show List.take (xs.length * 2) _ = ((List.take (xs.length * 2) _).set _ _).set _ _
    rw [List.take_set, List.take_set]

theorem swap_mid (A B : List File) (x y : File) : ((A ++ y :: x :: B).set (A.length + 1) y).set A.length x = A ++ x :: y :: B := by
  rw [List.set_append_right _ _ (by omega), Nat.add_sub_cancel_left, List.set_append_right _ _ (Nat.le_refl _), Nat.sub_self]
  rfl

theorem ins_mid (L ys zs : List File) (x y : File) (m : Nat) (hm : m < ys.length) (hy : ys[m] = y) :
    L ++ (ys.take (m + 1) ++ (x :: (ys.drop (m + 1) ++ zs))) = (L ++ ys.take m) ++ y :: x :: (ys.drop (m + 1) ++ zs) := by
  rw [take_snoc ys hm, hy]; simp
theorem ins_mid' (L ys zs : List File) (x y : File) (m : Nat) (hm : m < ys.length) (hy : ys[m] = y) :
    (L ++ ys.take m) ++ x :: y :: (ys.drop (m + 1) ++ zs) = L ++ (ys.take m ++ (x :: (ys.drop m ++ zs))) := by
  rw [List.drop_eq_getElem_cons hm, hy]; simp

theorem Own.file {t : TypeId} {w : World} {g n c : Nat} {xs : List File} (h : Own EF t w (.slice (some ⟨g, 0, none⟩) n c) xs) {i : Nat} {x : File} (hx : xs[i]? = some x) :
    w.cell? ⟨g, i * 2, none⟩ = some (.string x.path) ∧ w.cell? ⟨g, i * 2 + 1, none⟩ = some (.string x.data) := by
  obtain ⟨hi, rfl⟩ := List.getElem?_eq_some_iff.1 hx
  obtain ⟨A, c', hv, _, _, _, hA⟩ := h.rd
  obtain ⟨b, off, h1, _, _, h2, h3⟩ := hA.file hi
  cases hv
  cases h1
  simp only [Nat.zero_add] at h2 h3
  exact ⟨h2, h3⟩

theorem Own.free {α : Type} {E : El α} {t : TypeId} {w : World} {g n c : Nat} {xs : List α} (h : Own E t w (.slice (some ⟨g, 0, none⟩) n c) xs) (i : Nat) : w.frozen? ⟨g, i, none⟩ = false := by
  rcases h.2 with ⟨h1, _⟩ | ⟨g', cap, cur, h1, _, h2, _⟩
  · cases h1
  · cases h1
    simp [World.frozen?, h2]

def putF (xs : List File) (p d : ByteArray) : List File := sortK File.path ((xs.filter fun f => !(f.path.toList == p.toList)) ++ [⟨p, d⟩])

end Go.Proofs.YtgjbfkaepalkiaaGreatDoor

namespace Go.Proofs.YtgjbfkaepalkiaaGreatDoor
open Go.RowKit
set_option linter.unusedVariables false
set_option linter.unusedSimpArgs false
attribute [local go_sem] Oper.semAt_some

/-! ### Plain -/
def greatF (f : File) : Bool := decide (100 < f.path.size) || decide (500 < f.data.size)
def greatB (xs : List File) (m : Nat) : Bool := decide (m < xs.length) || xs.any greatF
theorem greatB_false {xs : List File} {m : Nat} (h : greatB xs m = false) : xs.length ≤ m ∧ ∀ x ∈ xs, x.path.size ≤ 100 ∧ x.data.size ≤ 500 := by
  unfold greatB at h
  rw [Bool.or_eq_false_iff] at h
  refine ⟨by have := of_decide_eq_false h.1; omega, fun x hx => ?_⟩
  have := List.any_eq_false.1 h.2 x hx
  unfold greatF at this
  simp at this
  omega

def fileB (x y : File) : Bool := (x.path.toList == y.path.toList) && (x.data.toList == y.data.toList)
theorem fileB_iff (x y : File) : fileB x y = true ↔ x = y := by
  unfold fileB
  rw [Bool.and_eq_true, beq_iff_eq, beq_iff_eq]
  constructor
  · rintro ⟨h1, h2⟩
    obtain ⟨a, b⟩ := x
    obtain ⟨c, d⟩ := y
    have e1 : a = c := toList_inj h1
    have e2 : b = d := toList_inj h2
    rw [e1, e2]
  · rintro rfl; exact ⟨rfl, rfl⟩
def sameB : List File → List File → Bool
  | [], [] => true
  | x :: xs, y :: ys => fileB x y && sameB xs ys
  | _, _ => false
theorem sameB_iff : ∀ xs ys, sameB xs ys = true ↔ xs = ys
  | [], [] => by simp [sameB]
  | [], y :: ys => by simp [sameB]
  | x :: xs, [] => by simp [sameB]
  | x :: xs, y :: ys => by simp [sameB, sameB_iff xs ys, fileB_iff]
theorem sameB_refl (xs : List File) : sameB xs xs = true := (sameB_iff xs xs).2 rfl

/-! ### The walks -/
set_option maxHeartbeats 400000 in
theorem greatFiles_calls (v : Value) (xs : List File) (m : Nat) (S : Fp) (w : World) (hR : Rd EF S w v xs) (hm : m ≤ 1000000) :
    Calls Tryz.prog 85 #[v, .int .i64 m] w fun e w' => e = .returned (.bool (greatB xs m)) ∧ w = w' := by
  obtain ⟨A, c, rfl, hO⟩ := hR.open_
  have hlen := hO.len
  clear hR
  by_cases hn : xs.length ≤ m
  · have hd1 : decide ((xs.length : Int) ≤ (m : Int)) = true := decide_eq_true (by omega)
    have hd2 : decide ((m : Int) < (xs.length : Int)) = false := decide_eq_false (by omega)
    have hd2' : decide (m < xs.length) = false := decide_eq_false (by omega)
    go_enter Tryz.func85, Tryz.ntmps85
    go_wp2_with fail
    go_loopw [5] (fun i wr => ∃ k : Nat, k ≤ xs.length ∧ i = .int .i64 k ∧ (xs.take k).any greatF = false ∧ w = wr) (fun i _ => xs.length - (intOf i).toNat)
    case atStart => exact ⟨0, Nat.zero_le _, rfl, by simp, rfl⟩
    case round =>
      obtain ⟨k, hk, rfl, hno, rfl⟩ := hrel
      by_cases hlt : k < xs.length
      · have hd3 : decide ((k : Int) < (xs.length : Int)) = true := decide_eq_true (by omega)
        obtain ⟨b, off, rfl, _, hb, c0, c1⟩ := hO.rd.file hlt
        have hlt' : (k : Int) < (xs.length : Int) := by omega
        have h0 : (0 : Int) ≤ (k : Int) := by omega
        have hw : IntKind.i64.wrap ((k : Int) + 1) = (k : Int) + 1 := IntWalk.i64_in _ (by omega)
        obtain ⟨f, hf⟩ : ∃ f, xs[k] = f := ⟨_, rfl⟩
        have hsn : (xs.take (k + 1)).any greatF = greatF f := by rw [take_snoc xs hlt, List.any_append, hno, hf]; simp only [List.any_cons, List.any_nil, Bool.or_false, Bool.false_or]
        have hany : greatF f = true → xs.any greatF = true := fun h => List.any_eq_true.2 ⟨f, by rw [← hf]; exact List.getElem_mem hlt, h⟩
        rw [hf] at c0 c1
        have HS := Lib.hid hsn
        have HA := Lib.hid hany
        clear hsn hany hf
        by_cases h1 : 100 < f.path.size
        · have hp : decide ((100 : Int) < (f.path.size : Int)) = true := decide_eq_true (by omega)
          go_wp2_with fail
          go_ret
          exact ⟨by unfold greatB; rw [HA.out (by unfold greatF; rw [decide_eq_true h1]; rfl)]; simp, rfl⟩
        · have hp : decide ((100 : Int) < (f.path.size : Int)) = false := decide_eq_false (by omega)
          by_cases h2 : 500 < f.data.size
          · have hp2 : decide ((500 : Int) < (f.data.size : Int)) = true := decide_eq_true (by omega)
            go_wp2_with fail
            go_ret
            exact ⟨by unfold greatB; rw [HA.out (by unfold greatF; rw [decide_eq_true h2]; simp)]; simp, rfl⟩
          · have hp2 : decide ((500 : Int) < (f.data.size : Int)) = false := decide_eq_false (by omega)
            go_wp2_with fail
            go_roundw
            case rel => exact ⟨k + 1, by omega, by go_num, by rw [HS.out]; unfold greatF; rw [decide_eq_false h1, decide_eq_false h2]; rfl, trivial⟩
            case measure => simp [intOf]; omega
      · have hd3 : decide ((k : Int) < (xs.length : Int)) = false := decide_eq_false (by omega)
        have hkl : k = xs.length := by omega
        have hres : greatB xs m = false := by unfold greatB; rw [← List.take_length (l := xs), ← hkl, hno, hkl, List.take_length, decide_eq_false (by omega)]; rfl
        go_wp2_with fail
        go_ret
        exact ⟨by rw [hres]; rfl, rfl⟩
  · have hd1 : decide ((xs.length : Int) ≤ (m : Int)) = false := decide_eq_false (by omega)
    have hd2 : decide ((m : Int) < (xs.length : Int)) = true := decide_eq_true (by omega)
    have hd2' : decide (m < xs.length) = true := decide_eq_true (by omega)
    have hres : greatB xs m = true := by unfold greatB; rw [decide_eq_true (by omega)]; rfl
    by_cases h0 : 0 < xs.length
    · have hd3 : decide ((0 : Int) < (xs.length : Int)) = true := decide_eq_true (by omega)
      have hd3' : decide (0 < xs.length) = true := decide_eq_true (by omega)
      go_enter Tryz.func85, Tryz.ntmps85
      go_wp2_with fail
      go_loopw [5] (fun i wr => i = .int .i64 0 ∧ w = wr) (fun i _ => 0)
      case atStart => exact ⟨rfl, rfl⟩
      case round =>
        obtain ⟨rfl, rfl⟩ := hrel
        go_wp2_with fail
        go_ret
        exact ⟨by rw [hres]; rfl, rfl⟩
    · omega

theorem run_neq_file (x y : File) (W : World) : (binOp .neq 39 (.agg #[.string x.path, .string x.data]) (.agg #[.string y.path, .string y.data])).run Tryz.prog W = .ok (.bool (!fileB x y)) W := by
  have h1 := Tryz.sizeOf9
  have h2 := Tryz.isAgg9
  have h3 := Tryz.underlying9
  have h4 := Tryz.zeroValue9
  rw [run_neq_struct, run_equalIn_struct _ _ _ _ _ (by kernel_rfl) (by kernel_rfl), Program.fieldsOf, Tryz.underlying39]
  cases h : x.path.toList == y.path.toList <;> cases h' : x.data.toList == y.data.toList <;>
    simp [Op.eqFields, fileB, go_sem, h1, h2, h3, h4, h, h']

theorem sameB_take {xs ys : List File} (hl : xs.length = ys.length) {k : Nat} (hk : k < xs.length) (hk' : k < ys.length) (h : sameB xs ys = sameB (xs.drop k) (ys.drop k)) : sameB xs ys = (fileB xs[k] ys[k] && sameB (xs.drop (k + 1)) (ys.drop (k + 1))) := by
  rw [h, List.drop_eq_getElem_cons hk, List.drop_eq_getElem_cons hk']; rfl
theorem sameB_len {xs ys : List File} (h : xs.length ≠ ys.length) : sameB xs ys = false := by
  cases hb : sameB xs ys with
  | false => rfl
  | true => rw [(sameB_iff xs ys).1 hb] at h; exact absurd rfl h

set_option maxHeartbeats 400000 in
theorem sameFiles_calls (v u : Value) (xs ys : List File) (S T : Fp) (w : World) (hR : Rd EF S w v xs) (hR' : Rd EF T w u ys) :
    Calls Tryz.prog 21 #[v, u] w fun e w' => e = .returned (.bool (sameB xs ys)) ∧ Ext w w' := by
  obtain ⟨A, c, rfl, hO⟩ := hR.open_
  obtain ⟨A', c', rfl, hO'⟩ := hR'.open_
  have hlen := hO.len
  have hlen' := hO'.len
  clear hR hR'
  by_cases hn : xs.length = ys.length
  · have HO := Lib.hid hO
    have HO' := Lib.hid hO'
    have HN := Lib.hid hn
    obtain ⟨n, hxn⟩ : ∃ n, n = xs.length := ⟨_, rfl⟩
    have hyn : n = ys.length := hxn.trans hn
    have HX := Lib.hid hxn
    have HY := Lib.hid hyn
    rw [← hxn] at hlen ⊢
    rw [← hyn] at hlen' ⊢
    clear hO hO' hn hxn hyn
    go_enter Tryz.func21, Tryz.ntmps21
    go_wp2_with fail
    go_loopw [5] (fun i wr => ∃ k : Nat, k ≤ n ∧ i = .int .i64 k ∧ sameB xs ys = sameB (xs.drop k) (ys.drop k) ∧ Ext w wr) (fun i _ => n - (intOf i).toNat)
    case atStart => exact ⟨0, Nat.zero_le _, rfl, rfl, Kp.refl _ _⟩
    case round =>
      obtain ⟨k, hk, rfl, hs, hx⟩ := hrel
      rename_i wr
      by_cases hlt : k < n
      · have hd3 : decide ((k : Int) < (n : Int)) = true := decide_eq_true (by omega)
        have hkx : k < xs.length := by have := HX.out; omega
        have hky : k < ys.length := by have := HY.out; omega
        have hst := sameB_take HN.out hkx hky hs
        obtain ⟨f, hf⟩ : ∃ f, xs[k] = f := ⟨_, rfl⟩
        obtain ⟨g, hg⟩ : ∃ g, ys[k] = g := ⟨_, rfl⟩
        obtain ⟨b, off, rfl, _, hb, c0, c1⟩ := (HO.out.rd.kp (hx.mono fun _ _ _ => trivial)).file hkx
        obtain ⟨b', off', rfl, _, hb', d0, d1⟩ := (HO'.out.rd.kp (hx.mono fun _ _ _ => trivial)).file hky
        have hlt' : (k : Int) < (n : Int) := by omega
        have h0 : (0 : Int) ≤ (k : Int) := by omega
        have hw : IntKind.i64.wrap ((k : Int) + 1) = (k : Int) + 1 := IntWalk.i64_in _ (by omega)
        rw [hf] at c0 c1 hst
        rw [hg] at d0 d1 hst
        have heq := run_neq_file f g
        have hgd := fun (x y : Operand) (W : World) => run_eqGuard_agg (P := Tryz.prog) W .neq 39 x y #[.string f.path, .string f.data] #[.string g.path, .string g.data] (by kernel_rfl)
        have HS := Lib.hid hst
        have HK := Lib.hid hs
        clear hst hs hf hg hkx hky
        cases hfg : fileB f g with
        | true =>
          rw [hfg] at heq
          go_wp2_with fail
          go_quiet (fail)
          go_wp2_with fail
          go_roundw
          case rel => exact ⟨k + 1, by omega, by go_num, by rw [HS.out, hfg]; rfl, hx.drewN _⟩
          case measure => simp [intOf]; omega
        | false =>
          rw [hfg] at heq
          go_wp2_with fail
          go_quiet (fail)
          go_wp2_with fail
          go_ret
          exact ⟨by rw [HS.out, hfg]; rfl, hx.drewN _⟩
      · have hd3 : decide ((k : Int) < (n : Int)) = false := decide_eq_false (by omega)
        have hres : sameB xs ys = true := by
          rw [hs, List.drop_of_length_le (by have := HX.out; omega), List.drop_of_length_le (by have := HY.out; omega)]; rfl
        go_wp2_with fail
        go_ret
        exact ⟨by rw [hres]; rfl, hx⟩
  · have hd1 : ((xs.length : Int) == (ys.length : Int)) = false := by
      rw [beq_eq_false_iff_ne]; omega
    have hd2 : (xs.length == ys.length) = false := by rw [beq_eq_false_iff_ne]; exact hn
    have hd3 : ((xs.length : Int) != (ys.length : Int)) = true := by rw [bne, hd1]; rfl
    have hd4 : (xs.length != ys.length) = true := by rw [bne, hd2]; rfl
    have hres := sameB_len hn
    go_enter Tryz.func21, Tryz.ntmps21
    go_wp2_with fail
    go_ret
    exact ⟨by rw [hres]; rfl, Kp.refl _ _⟩

end Go.Proofs.YtgjbfkaepalkiaaGreatDoor
