/-
  Package tree: Path. A region that draws its order whose first operations are in one forced order (a call among them), and whose others read only. Package tree: May, Same.
-/
import Derived.Test.YtgjbfkaepalkiaaGreatDoorData
import Derived.Test.YtgjbfkaepalkiaaGreatDoorShelf
import Derived.Shelf.Strings.SplitCore
import Derived.Lib.SplitLaws
import Derived.BigQuiet
import Derived.Laws.Cover1
import Derived.WalkKit
import Derived.Lib.Hide
import Derived.Test.YtgjbfkaepalkiaaGreatDoorLaw0
namespace Go.Proofs.YtgjbfkaepalkiaaGreatDoor
open Go.RowKit
set_option linter.unusedVariables false
set_option linter.unusedSimpArgs false
attribute [local go_sem] Oper.semAt_some

/-! ### Plain -/
def oddB (x : UInt8) : Bool := decide (x.toNat < 33) || decide (x.toNat > 126)

/-- strings.Split at one byte: the pieces. -/
def pieces (s : ByteArray) (c : UInt8) : List ByteArray := Lib.splitB ⟨#[c]⟩ 0 (Lib.countB s ⟨#[c]⟩) s

def pathB (p : ByteArray) : Bool := !(p.size == 0) && decide (p.size ≤ 60) && !(p.toList.any oddB) && !(Lib.containsS (pieces p 47) ⟨#[]⟩)

/-! ### The walks -/
theorem odd_calls (x : UInt8) (w : World) : Calls Tryz.prog 110 #[.int .u8 x.toNat] w fun e w' => e = .returned (.bool (oddB x)) ∧ w = w' := by
  have hx : x.toNat < 256 := x.toNat_lt
  unfold oddB
  by_cases h : x.toNat < 33
  · have h1 : decide ((x.toNat : Int) < 33) = true := decide_eq_true (by omega)
    go_enter Tryz.func110, Tryz.ntmps110
    go_wp2_with fail
    go_ret
    exact ⟨by simp [h], rfl⟩
  · have h1 : decide ((x.toNat : Int) < 33) = false := decide_eq_false (by omega)
    by_cases h' : x.toNat > 126
    · have h2 : decide ((126 : Int) < (x.toNat : Int)) = true := decide_eq_true (by omega)
      go_enter Tryz.func110, Tryz.ntmps110
      go_wp2_with fail
      go_ret
      exact ⟨by simp [h, h'], rfl⟩
    · have h2 : decide ((126 : Int) < (x.toNat : Int)) = false := decide_eq_false (by omega)
      go_enter Tryz.func110, Tryz.ntmps110
      go_wp2_with fail
      go_ret
      exact ⟨by simp [h, h'], rfl⟩


theorem indexOdd_calls (b c : Nat) (bs : List UInt8) (w : World) (hn : bs.length ≤ 1000000) (hc : ∀ j x, bs[j]? = some x → w.cell? ⟨b, j, none⟩ = some (.int .u8 x.toNat)) :
    Calls Tryz.prog 148 #[.slice (some ⟨b, 0, none⟩) bs.length c, .func (.func 110) #[] #[]] w fun e w' => (∃ r : Int, e = .returned (.int .i64 r) ∧ decide (r ≥ 0) = bs.any oddB) ∧ w = w' := by
  go_enter Tryz.func148, Tryz.ntmps148
  go_wp2_with fail
  go_loopw [8] (fun i wr => ∃ k : Nat, k ≤ bs.length ∧ i = .int .i64 k ∧ (bs.take k).any oddB = false ∧ w = wr) (fun i _ => bs.length - (intOf i).toNat)
  case atStart => exact ⟨0, Nat.zero_le _, rfl, by simp, rfl⟩
  case round =>
    obtain ⟨k, hk, rfl, hno, rfl⟩ := hrel
    by_cases hlt : k < bs.length
    · have hd : decide ((k : Int) < (bs.length : Int)) = true := decide_eq_true (by omega)
      have hx := hc k bs[k] (List.getElem?_eq_getElem hlt)
      have hlt' : (k : Int) < (bs.length : Int) := by omega
      have h0 : (0 : Int) ≤ (k : Int) := by omega
      have hw : IntKind.i64.wrap ((k : Int) + 1) = (k : Int) + 1 := IntWalk.i64_in _ (by omega)
      have hsn : (bs.take (k + 1)).any oddB = oddB bs[k] := by rw [take_snoc bs hlt, List.any_append, hno]; simp only [List.any_cons, List.any_nil, Bool.or_false, Bool.false_or]
      cases ho : oddB bs[k] with
      | true =>
        rw [ho] at hsn
        go_wp2_with (go_at_call 110; refine (odd_calls bs[k] w).mono ?_; rintro e w' ⟨rfl, rfl⟩; rw [ho])
        go_ret
        refine ⟨⟨(k : Int), rfl, ?_⟩, rfl⟩
        rw [decide_eq_true (by omega : (k : Int) ≥ 0)]
        have : (bs.take (k + 1)).any oddB = true → bs.any oddB = true := by
          intro h
          obtain ⟨y, hy, hy'⟩ := List.any_eq_true.1 h
          exact List.any_eq_true.2 ⟨y, List.mem_of_mem_take hy, hy'⟩
        exact (this hsn).symm
      | false =>
        rw [ho] at hsn
        go_wp2_with (go_at_call 110; refine (odd_calls bs[k] w).mono ?_; rintro e w' ⟨rfl, rfl⟩; rw [ho])
        go_roundw
        case rel => exact ⟨k + 1, by omega, by go_num, hsn, trivial⟩
        case measure => simp [intOf]; omega
    · have hd : decide ((k : Int) < (bs.length : Int)) = false := decide_eq_false (by omega)
      have hkl : k = bs.length := by omega
      subst hkl
      rw [List.take_length] at hno
      go_wp2_with fail
      go_ret
      exact ⟨⟨-1, rfl, by rw [hno]; rfl⟩, rfl⟩

theorem containsOdd_calls (b c : Nat) (bs : List UInt8) (w : World) (hn : bs.length ≤ 1000000) (hc : ∀ j x, bs[j]? = some x → w.cell? ⟨b, j, none⟩ = some (.int .u8 x.toNat)) :
    Calls Tryz.prog 111 #[.slice (some ⟨b, 0, none⟩) bs.length c, .func (.func 110) #[] #[]] w fun e w' => e = .returned (.bool (bs.any oddB)) ∧ w = w' := by
  go_enter Tryz.func111, Tryz.ntmps111
  go_wp2_with fail
  refine (indexOdd_calls b c bs w hn hc).mono ?_
  rintro e w' ⟨⟨r, rfl, hr⟩, rfl⟩
  have hr' : decide ((0 : Int) ≤ r) = bs.any oddB := hr
  go_wp2_with fail
  go_ret
  exact ⟨by rw [← hr]; rfl, rfl⟩

theorem split_calls (s : ByteArray) (c : UInt8) (w : World) (hs : s.size < 4294967281) :
    Calls Tryz.prog 113 #[.string s, .string ⟨#[c]⟩] w fun e w' => ∃ v, e = .returned v ∧ New ES 9 w.heap.size w' v (pieces s c) ∧ Ext w w' := by
  have hle := Lib.countB_le ⟨#[c]⟩ (Nat.le_refl _) s.size s (Nat.le_refl _)
  have hlen := Lib.splitB_all ⟨#[c]⟩ (Nat.le_refl _) 0 _ s rfl
  have hg := Any.strings_genSplit_core Tryz.lays221 (by kernel_rfl) s ⟨#[c]⟩ 0 (-1) (Lib.countB s ⟨#[c]⟩ + 1) w hs (Nat.le_refl _) (Nat.zero_le _)
    (fun x cs hx => by
      refine (Tryz.strings_Index_one x c _).mono ?_
      rintro e w' ⟨rfl, rfl⟩
      refine ⟨?_, rfl⟩
      show _ = Ending.returned (Value.int .i64 (Lib.index x.data.toList [c]))
      rw [Lib.index_one]) (by
      refine (Tryz.strings_Count_one s c _).mono ?_
      rintro e w' ⟨rfl, rfl⟩
      refine ⟨?_, rfl⟩
      show _ = Ending.returned (Value.int .i64 ((Lib.count s.data.toList [c] : Nat) : Int))
      rw [Lib.count_one]; rfl) (by decide) (by decide) (by rw [if_pos (by decide)]; omega)
  rw [Nat.add_sub_cancel, hlen] at hg
  have e2 : Lib.cellsOf (Lib.splitB ⟨#[c]⟩ 0 (Lib.countB s ⟨#[c]⟩) s) (Lib.countB s ⟨#[c]⟩ + 1) = (ES.flat (pieces s c)).toArray := by
    rw [← hlen, Lib.cellsOf_full]
    congr 1
    show List.map Value.string (pieces s c) = ES.flat (pieces s c)
    generalize pieces s c = l
    induction l with
    | nil => rfl
    | cons a l ih => rw [List.map_cons, ES.flat_cons, ih]; rfl
  rw [e2] at hg
  have hlp : (pieces s c).length = Lib.countB s ⟨#[c]⟩ + 1 := hlen
  have hbig : (pieces s c).length ≤ maxLen := by rw [hlp]; unfold maxLen; omega
  rw [← hlp] at hg
  clear hlp hlen hle e2
  go_enter Tryz.func113, Tryz.ntmps113
  go_wp2_with (go_at_call 150; refine hg.mono ?_; rintro e w' ⟨rfl, rfl⟩)
  go_ret
  exact ⟨_, rfl, New.made w _ (pieces s c) hbig, (Kp.refl _ w).alloc _⟩

theorem bytesRow_get (p : ByteArray) (w : World) (e : TypeId) (x : UInt8) (j : Nat) (r : Nat × Nat) (n : Nat) (h : p.toList[j]? = some x) :
    (w.alloc (.cells (bytesRow p n) e r)).cell? ⟨w.heap.size, j, none⟩ = some (.int .u8 x.toNat) := by
  rw [cell_of_row _ _ _ _ _ _ (heap_alloc_new w _), bytesRow]
  rw [Lib.toList_data] at h
  have hj : j < p.data.size := by
    have := (List.getElem?_eq_some_iff.1 h).1
    simpa using this
  rw [Array.getElem?_append_left (by simpa using hj), Array.getElem?_map]
  have : p.data[j]? = some x := by rw [← Array.getElem?_toList]; exact h
  rw [this]; rfl

set_option maxHeartbeats 400000 in
theorem path_any (p : ByteArray) (w : World) (hp : p.size ≤ 9223372036854775807) : Calls Tryz.prog 66 #[.string p] w fun e w' => e = .returned (.bool (pathB p)) ∧ Ext w w' := by
  have hsz : p.toList.length = p.size := by rw [Lib.toList_data]; rfl
  have hcv := fun W => run_bytes_of_string (P := Tryz.prog) W 9 83 5 p Tryz.underlying9 Tryz.underlying83 Tryz.underlying5
  cases h0 : p.toList.isEmpty with
  | true =>
    go_enter Tryz.func66, Tryz.ntmps66
    go_wp2_with fail
    go_ret
    refine ⟨?_, Kp.refl _ w⟩
    have : p.size = 0 := by rw [← hsz, List.isEmpty_iff.1 h0]; rfl
    unfold pathB; rw [this]; rfl
  | false =>
    have hne : (p.size == 0) = false := by
      rw [← hsz]
      cases hl : p.toList with
      | nil => rw [hl] at h0; cases h0
      | cons x xs => rfl
    by_cases h1 : p.size ≤ 60
    · have hd : decide ((60 : Int) < (p.size : Int)) = false := decide_eq_false (by omega)
      have hn : p.toList.length ≤ 1000000 := by omega
      have HC := fun (W : World) (c : Nat) (hc : ∀ j x, p.toList[j]? = some x → W.cell? ⟨w.heap.size, j, none⟩ = some (.int .u8 x.toNat)) => containsOdd_calls w.heap.size c p.toList W hn hc
      rw [hsz] at HC
      cases ha : p.toList.any oddB with
      | true =>
        rw [ha] at HC
        go_enter Tryz.func66, Tryz.ntmps66
        go_wp2_with fail
        refine (HC _ _ fun j x h => bytesRow_get p w.drew _ x j _ _ h).mono ?_
        rintro e w1 ⟨rfl, rfl⟩
        go_wp2_with fail
        go_ret
        refine ⟨?_, ((Kp.refl _ w).drew).alloc _⟩
        unfold pathB; rw [ha, hne, decide_eq_true h1]; rfl
      | false =>
        rw [ha] at HC
        go_enter Tryz.func66, Tryz.ntmps66
        go_wp2_with fail
        refine (HC _ _ fun j x h => bytesRow_get p w.drew _ x j _ _ h).mono ?_
        rintro e w1 ⟨rfl, rfl⟩
        go_wp2_with fail
        refine (split_calls p 47 _ (by omega)).mono ?_
        rintro e w2 ⟨v, rfl, hN, hx⟩
        have hl : (pieces p 47).length ≤ 1000000 := by
          have hlen := Lib.splitB_all ⟨#[47]⟩ (Nat.le_refl _) 0 _ p rfl
          have hle := Lib.countB_le ⟨#[47]⟩ (Nat.le_refl _) p.size p (Nat.le_refl _)
          unfold pieces; omega
        obtain ⟨A, c, rfl, hO⟩ := hN.rd.open_
        have hcall : Calls Tryz.prog 112 #[.slice A (pieces p 47).length c, .string ⟨#[]⟩] w2 fun e w' => e = .returned (.bool (Lib.containsS (pieces p 47) ⟨#[]⟩)) ∧ w' = w2 := by
          by_cases hp0 : 0 < (pieces p 47).length
          · obtain ⟨b, off, rfl, _, hb, hc⟩ := hO.rd hp0
            have := Tryz.slices_Contains_string b off (pieces p 47).length c (pieces p 47) ⟨#[]⟩ w2 (Nat.le_refl _) (by omega) (fun j hj => by
              obtain ⟨b', off', he, _, _, h⟩ := hO.rd.text hj
              cases he
              rw [h, List.getD_eq_getElem?_getD, List.getElem?_eq_getElem hj]; rfl)
            rw [List.take_length] at this
            exact this
          · have : (pieces p 47).length = 0 := by omega
            rw [this, List.eq_nil_of_length_eq_zero this]
            exact Tryz.slices_Contains_string_empty A c ⟨#[]⟩ w2
        clear hO hN
        go_wp2_with fail
        refine hcall.mono ?_
        rintro e w3 ⟨rfl, rfl⟩
        go_wp2_with fail
        go_ret
        refine ⟨?_, (((Kp.refl _ w).drew).alloc _).trans hx⟩
        unfold pathB; rw [ha, hne, decide_eq_true h1]; rfl
    · have hd : decide ((60 : Int) < (p.size : Int)) = true := decide_eq_true (by omega)
      go_enter Tryz.func66, Tryz.ntmps66
      go_wp2_with fail
      go_ret
      refine ⟨?_, Kp.refl _ w⟩
      unfold pathB; rw [hne, decide_eq_false h1]; rfl
theorem path_calls (p : ByteArray) (w : World) (hp : p.size ≤ 1000000) : Calls Tryz.prog 66 #[.string p] w fun e w' => e = .returned (.bool (pathB p)) ∧ Ext w w' := path_any p w (by omega)

end Go.Proofs.YtgjbfkaepalkiaaGreatDoor

namespace Go.Proofs.YtgjbfkaepalkiaaGreatDoor
open Go.RowKit
set_option linter.unusedVariables false

section
variable {P : Program} {ops : Array Oper} {md : Region.Mode} {Q : Exit → Act → World → Prop}

def seqLexGo (md : Region.Mode) (ops : Array Oper) : Nat → Nat → Array Bool → Bool
  | 0, k, listed => Region.lexFrom md ops (ops.size - k) k listed
  | n + 1, k, listed => decide (Region.ready md ops listed = [k]) && seqLexGo md ops n (k + 1) (listed.setIfInBounds k true)
def seqLexB (md : Region.Mode) (ops : Array Oper) (n : Nat) : Bool := Region.noSelect ops && seqLexGo md ops n 0 (Array.replicate ops.size false)

theorem wp_of_then {o : Oper} {a : Act} {w : World} {K K' : Act → World → Prop} (hh : o.wp P a w K (Exit.then K' Q)) : o.wp P a w K Q := by
  unfold Oper.wp at *
  generalize (execOp a.eval o).run P w = r at *
  cases r with
  | ok n w' =>
    cases n <;> simp only [Oper.upon] at hh ⊢ <;>
      first
        | exact hh
        | exact Calls.mono hh (fun e w'' he => by cases e <;> exact he)
  | halt x w' => cases x <;> simp only [Oper.upon] at hh ⊢ <;> exact hh

theorem wpAny_of_seqQuiet {l₂ : List Oper} : ∀ (l₁ : List Oper) (k : Nat) (listed : Array Bool) (a : Act) (w : World), (∀ j, (l₁ ++ l₂)[j]? = ops[k + j]?) → ops.size = k + (l₁ ++ l₂).length →
    Region.noSelect ops = true → seqLexGo md ops l₁.length k listed = true →
    wpList P ops (Exit.then (fun a' w' => wpQuiet P ops (fun w'' => ∃ n, w'' = w'.drewN n) (fun a'' => ∀ w'', (∃ n, w'' = w'.drewN n) → Q .normal a'' w'') l₂ a') Q) l₁ a w → wpAny P md ops Q (l₁ ++ l₂).length listed a w
  | [], k, listed, a, w, hl, hsz, hs, hB, h => by
    have hB' : Region.lexFrom md ops (ops.size - k) k listed = true := hB
    rw [show ops.size - k = l₂.length by rw [hsz]; simp] at hB'
    exact wpAny_of_quiet (C := fun w'' => ∃ n, w'' = w.drewN n) (Q := fun a'' => ∀ w'', (∃ n, w'' = w.drewN n) → Q .normal a'' w'') (fun _ w' hw' h => h w' hw') _ _ _ _ ⟨0, rfl⟩ (wpAnyQ_lex (md := md) hs l₂ k listed a hl hB' h)
  | o :: l₁, k, listed, a, w, hl, hsz, hs, hB, h => by
    have h0 : ops[k]? = some o := by simpa using (hl 0).symm
    simp only [List.length_cons, seqLexGo, Bool.and_eq_true, decide_eq_true_eq] at hB
    refine ⟨fun h1 => (by rw [hB.1] at h1; cases h1), fun i hi => ?_⟩
    rw [hB.1] at hi
    have hik : i = k := by simpa using hi
    subst hik
    have hrec := fun a' w' => wpAny_of_seqQuiet l₁ (i + 1) (listed.setIfInBounds i true) a' w' (fun j => by have := hl (j + 1); simpa [Nat.add_assoc, Nat.add_comm 1 j] using this) (by rw [hsz]; simp; omega) hs hB.2
    unfold wpOp
    simp only [h0]
    unfold wpList at h
    split
    · rename_i hw
      rw [if_pos hw] at h
      exact h.imp (fun h => Oper.wp_mono hrec (wp_of_then h)) id
    · rename_i hw
      rw [if_neg hw] at h
      exact hrec _ _ h

/-- The first n operations in their one order, a call among them; then the others, which only read. -/
theorem wp_region_seq_quiet {id : Nat} {a : Act} {w : World} {l : List Oper} (n : Nat) (hm : P.follows .mixedOrders = true) (hB : seqLexB .any l.toArray n = true) (hn : n ≤ l.length)
    (h : ∀ K : Act → World → Prop, Hid (∀ a' w', wpQuiet P l.toArray (fun w'' => ∃ n, w'' = w'.drewN n) (fun a'' => ∀ w'', (∃ n, w'' = w'.drewN n) → Q .normal a'' w'') (l.drop n) a' → K a' w') → wpList P l.toArray (Exit.then K Q) (l.take n) a { w with drawn := w.drawn + 1 }) : (Code.region id l.toArray true).wp P Q a w := by
  simp only [seqLexB, Bool.and_eq_true] at hB
  refine wp_region_any hm ?_
  have := wpAny_of_seqQuiet (md := .any) (Q := Q) (l₂ := l.drop n) (l.take n) 0 (Array.replicate l.toArray.size false) a _ (fun j => by simp [List.take_append_drop]) (by simp [List.take_append_drop]) hB.1 (by rw [List.length_take, Nat.min_eq_left hn]; exact hB.2) (h _ fun _ _ h => h)
  rw [List.take_append_drop] at this
  exact this
end
end Go.Proofs.YtgjbfkaepalkiaaGreatDoor

namespace Go.Proofs.YtgjbfkaepalkiaaGreatDoor
open Go.RowKit
set_option linter.unusedVariables false
set_option linter.unusedSimpArgs false
attribute [local go_sem] Oper.semAt_some

/-! ### Plain -/
def slashB : ByteArray := ⟨#[47]⟩
def underB (p d : ByteArray) : Bool := Lib.hasPrefix p.data.toList (d ++ slashB).data.toList

def orderB (pre : List File) (f : File) : Bool := match pre.getLast? with | some g => !ltB g.path f.path | none => false
def badF (pre : List File) (f : File) : Bool := (!pathB f.path || (decide (400 < f.data.size) || orderB pre f)) || pre.any fun g => underB f.path g.path
def okFrom : List File → List File → Bool
  | _, [] => true
  | pre, f :: r => !badF pre f && okFrom (pre ++ [f]) r
def mayB (xs : List File) : Bool := decide (xs.length ≤ 12) && okFrom [] xs

/-! ### The walks -/
theorem under_calls (p d : ByteArray) (w : World) (hd : d.size ≤ 1000000) : Calls Tryz.prog 69 #[.string p, .string d] w fun e w' => e = .returned (.bool (underB p d)) ∧ w = w' := by
  have h1 : d.size + ByteArray.size ⟨#[47]⟩ ≤ 9223372036854775807 := by
    have : ByteArray.size ⟨#[47]⟩ = 1 := rfl
    omega
  have hadd := fun W => run_string_add_sum (P := Tryz.prog) W d ⟨#[47]⟩ h1
  go_enter Tryz.func69, Tryz.ntmps69
  have hh := Tryz.strings_HasPrefix p (d ++ ⟨#[47]⟩) w
  go_wp2_with (go_at_call 115; refine stop ?_)
  unfold Stop
  refine Calls.mono hh ?_
  rintro e w' ⟨rfl, rfl⟩
  go_wp2_with fail
  go_ret
  exact ⟨rfl, rfl⟩

theorem may1_calls (f : ByteArray) (g : File) (fb : Nat) (w : World) (hg : g.path.size ≤ 1000000) (hfb : w.cell? ⟨fb, 0, none⟩ = some (.string f)) (hl : fb < w.heap.size) :
    Calls Tryz.prog 68 #[.agg #[.string g.path, .string g.data], .pointer (some ⟨fb, 0, none⟩)] w fun e w' => e = .returned (.bool (underB f g.path)) ∧ w.alloc (.cells #[.string g.path, .string g.data] 39) = w' := by
  have hne : fb ≠ w.heap.size := by omega
  go_enter Tryz.func68, Tryz.ntmps68
  go_wp2_with fail
  refine (under_calls f g.path _ hg).mono ?_
  rintro e w' ⟨rfl, rfl⟩
  go_wp2_with fail
  go_ret
  exact ⟨rfl, rfl⟩

theorem indexUnder_calls (f : ByteArray) (fb : Nat) (A : Option Addr) (c : Nat) (ys : List File) (S : Fp) (w : World) (hO : Opn EF S w A c ys) (hn : ys.length ≤ 1000000) (hp : ∀ y ∈ ys, y.path.size ≤ 1000000) (hfb : w.cell? ⟨fb, 0, none⟩ = some (.string f)) (hl : fb < w.heap.size) :
    Calls Tryz.prog 114 #[.slice A ys.length c, .func (.func 68) #[] #[.pointer (some ⟨fb, 0, none⟩)]] w fun e w' => (∃ r : Int, e = .returned (.int .i64 r) ∧ decide (r ≥ 0) = ys.any fun y => underB f y.path) ∧ Ext w w' := by
  go_enter Tryz.func114, Tryz.ntmps114
  go_wp2_with fail
  go_loopw [8] (fun i wr => ∃ k : Nat, k ≤ ys.length ∧ i = .int .i64 k ∧ ((ys.take k).any fun y => underB f y.path) = false ∧ Ext w wr) (fun i _ => ys.length - (intOf i).toNat)
  case atStart => exact ⟨0, Nat.zero_le _, rfl, by simp, Kp.refl _ _⟩
  case round =>
    obtain ⟨k, hk, rfl, hno, hx⟩ := hrel
    rename_i wr
    by_cases hlt : k < ys.length
    · have hd : decide ((k : Int) < (ys.length : Int)) = true := decide_eq_true (by omega)
      obtain ⟨b, off, rfl, _, hb, c0, c1⟩ := (hO.rd.kp (hx.mono fun _ _ _ => trivial)).file hlt
      have hlt' : (k : Int) < (ys.length : Int) := by omega
      have h0 : (0 : Int) ≤ (k : Int) := by omega
      have hw : IntKind.i64.wrap ((k : Int) + 1) = (k : Int) + 1 := IntWalk.i64_in _ (by omega)
      have hsn : ((ys.take (k + 1)).any fun y => underB f y.path) = underB f ys[k].path := by rw [take_snoc ys hlt, List.any_append, hno]; simp only [List.any_cons, List.any_nil, Bool.or_false, Bool.false_or]
      have hcl := may1_calls f ys[k] fb wr (hp _ (List.getElem_mem hlt)) ((hx.cell (p := ⟨fb, 0, none⟩) hl trivial).trans hfb) (hx.lt hl)
      cases ho : underB f ys[k].path with
      | true =>
        rw [ho] at hsn hcl
        go_wp2_with (go_at_call 68; refine hcl.mono ?_; rintro e w' ⟨rfl, rfl⟩)
        go_ret
        refine ⟨⟨(k : Int), rfl, ?_⟩, hx.alloc _⟩
        rw [decide_eq_true (by omega : (k : Int) ≥ 0)]
        have : ((ys.take (k + 1)).any fun y => underB f y.path) = true → (ys.any fun y => underB f y.path) = true := by
          intro h
          obtain ⟨y, hy, hy'⟩ := List.any_eq_true.1 h
          exact List.any_eq_true.2 ⟨y, List.mem_of_mem_take hy, hy'⟩
        exact (this hsn).symm
      | false =>
        rw [ho] at hsn hcl
        go_wp2_with (go_at_call 68; refine hcl.mono ?_; rintro e w' ⟨rfl, rfl⟩)
        go_roundw
        case rel => exact ⟨k + 1, by omega, by go_num, hsn, hx.alloc _⟩
        case measure => simp [intOf]; omega
    · have hd : decide ((k : Int) < (ys.length : Int)) = false := decide_eq_false (by omega)
      have hkl : k = ys.length := by omega
      subst hkl
      rw [List.take_length] at hno
      go_wp2_with fail
      go_ret
      exact ⟨⟨-1, rfl, by rw [hno]; rfl⟩, hx⟩

theorem containsUnder_calls (f : ByteArray) (fb : Nat) (A : Option Addr) (c : Nat) (ys : List File) (S : Fp) (w : World) (hO : Opn EF S w A c ys) (hn : ys.length ≤ 1000000) (hp : ∀ y ∈ ys, y.path.size ≤ 1000000) (hfb : w.cell? ⟨fb, 0, none⟩ = some (.string f)) (hl : fb < w.heap.size) :
    Calls Tryz.prog 67 #[.slice A ys.length c, .func (.func 68) #[] #[.pointer (some ⟨fb, 0, none⟩)]] w fun e w' => e = .returned (.bool (ys.any fun y => underB f y.path)) ∧ Ext w w' := by
  go_enter Tryz.func67, Tryz.ntmps67
  have HI := indexUnder_calls f fb A c ys S w hO hn hp hfb hl
  clear hO hp
  go_wp2_with fail
  refine HI.mono ?_
  rintro e w' ⟨⟨r, rfl, hr⟩, hx⟩
  have hr' : decide ((0 : Int) ≤ r) = ys.any fun y => underB f y.path := hr
  cases ha : (ys.any fun y => underB f y.path) with
  | true =>
    rw [ha] at hr'
    go_wp2_with fail
    go_ret
    exact ⟨by rw [ha]; rfl, hx⟩
  | false =>
    rw [ha] at hr'
    go_wp2_with fail
    go_ret
    exact ⟨by rw [ha]; rfl, hx⟩

theorem Opn.take {S : Fp} {w : World} {b off c : Nat} {ys : List File} (h : Opn EF S w (some ⟨b, off, none⟩) c ys) (k : Nat) (hk : k ≤ ys.length) : Opn EF S w (some ⟨b, off, none⟩) c (ys.take k) := by
  refine ⟨by rw [List.length_take]; exact Nat.le_trans (Nat.min_le_right _ _) h.le, h.max, h.nil, fun hp => ?_⟩
  rw [List.length_take] at hp
  obtain ⟨b', off', he, h1, h2, h3⟩ := h.rd (by omega)
  refine ⟨b', off', he, h1, h2, fun j u hu => h3 j u ?_⟩
  rw [← El.flat_take, List.getElem?_take] at hu
  split at hu
  · exact hu
  · cases hu

end Go.Proofs.YtgjbfkaepalkiaaGreatDoor
