/-
  Plain: a repository that is filled. TrainFull: the walk.
-/
import Derived.Test.YtgjbfkaepalkiaaGreatDoorTrainP
import Derived.Test.YtgjbfkaepalkiaaGreatDoorAwake21
import Derived.Laws.IdiomStrings
namespace Go.Proofs.YtgjbfkaepalkiaaGreatDoor
open Go.RowKit
set_option linter.unusedVariables false
set_option linter.unusedSimpArgs false

def rootA : Cm := ⟨[], [], ⟨#[]⟩⟩
def treeA (d : ByteArray) : List File := [⟨⟨#[97]⟩, d⟩]
def baseT (d : ByteArray) (b : Bool) : List Cm := rootA :: ⟨[1], treeA d, ⟨#[]⟩⟩ :: (if b = true then [⟨[1, 2], treeA d, ⟨#[]⟩⟩] else [])
def noteB (n : Nat) : ByteArray := ⟨#[UInt8.ofNat (48 + n / 10), UInt8.ofNat (48 + n % 10)]⟩
def noteC (n : Nat) : Cm := ⟨[], [], noteB n⟩
def fullT (d : ByteArray) (b : Bool) (k : Nat) : List Cm := baseT d b ++ (List.range k).map fun j => noteC ((baseT d b).length + j)
theorem baseT_len (d : ByteArray) (b : Bool) : (baseT d b).length = if b = true then 3 else 2 := by cases b <;> rfl
theorem fullT_len (d : ByteArray) (b : Bool) (k : Nat) : (fullT d b k).length = (baseT d b).length + k := by simp [fullT]
theorem fullT_succ (d : ByteArray) (b : Bool) (k : Nat) : fullT d b (k + 1) = fullT d b k ++ [noteC ((baseT d b).length + k)] := by unfold fullT; rw [List.range_succ, List.map_append, List.append_assoc]; rfl
theorem note_apart : ((List.range 60).all fun j => (List.range 60).all fun n => decide (j = n) || !((noteB j).toList == (noteB n).toList)) = true := by kernel_rfl
theorem noteB_ne {j n : Nat} (hj : j < 60) (hn : n < 60) (h : j ≠ n) : ((noteB j).toList == (noteB n).toList) = false := by
  have h1 := List.all_eq_true.1 note_apart j (List.mem_range.2 hj)
  have h2 := List.all_eq_true.1 h1 n (List.mem_range.2 hn)
  rw [decide_eq_false h] at h2
  simpa using h2
theorem note_empty : ((List.range 60).all fun n => !((⟨#[]⟩ : ByteArray).toList == (noteB n).toList)) = true := by kernel_rfl
theorem noteB_nil {n : Nat} (hn : n < 60) : ((⟨#[]⟩ : ByteArray).toList == (noteB n).toList) = false := by
  have h2 := List.all_eq_true.1 note_empty n (List.mem_range.2 hn)
  simpa using h2
theorem sameC_refl' (c : Cm) : sameC c c = true := by
  unfold sameC
  rw [decide_eq_true rfl, sameB_refl]; simp
theorem sameC_note {x c : Cm} (h : (x.note.toList == c.note.toList) = false) : sameC x c = false := by
  unfold sameC
  rw [h]; simp
theorem noteC_small (n : Nat) : SmallC (noteC n) := ⟨by simp [noteC], by simp [noteC], fun y hy => by cases hy⟩
theorem noteC_may (n : Nat) : mayC (noteC n) = true := by
  unfold mayC noteC
  have h1 : mayB [] = true := rfl
  have h2 : (noteB n).size = 2 := rfl
  rw [h1, h2]; rfl

section
variable {d : ByteArray} (hd : d.size ≤ 400)
include hd
theorem treeA_may : mayB (treeA d) = true := may_paths (by show mayB [⟨⟨#[97]⟩, ⟨#[]⟩⟩] = true; kernel_rfl) fun f hf => by
  rw [treeA, List.mem_singleton] at hf
  subst hf; exact hd
theorem treeA_small {ps : List Int} (hp : ps.length ≤ 2) : SmallC ⟨ps, treeA d, ⟨#[]⟩⟩ := tree_small ((mayB_iff _).1 (treeA_may hd)) hp
theorem base_good (b : Bool) : GoodR (baseT d b) := by
  have h1 : GoodR [rootA] := GoodR.nil.snoc (c := rootA) ⟨by simp [rootA], by simp [rootA], fun y hy => by cases hy⟩ (may_cm (by decide) rfl) fun p hp => by cases hp
  have h2 : GoodR ([rootA] ++ [⟨[1], treeA d, ⟨#[]⟩⟩]) := h1.snoc (treeA_small hd (by simp)) (may_cm (by decide) (treeA_may hd)) fun p hp => by simp at hp; subst hp; simp
  cases b with
  | false => exact h2
  | true =>
    exact h2.snoc (c := ⟨[1, 2], treeA d, ⟨#[]⟩⟩) (treeA_small hd (by simp)) (may_cm (by decide) (treeA_may hd)) fun p hp => by
      simp at hp
      rcases hp with rfl | rfl <;> simp
theorem base_add1 : addC [rootA] 60 ⟨[1], treeA d, ⟨#[]⟩⟩ = (baseT d false, 2, 0) := by
  unfold addC
  rw [if_neg (by rw [may_cm (by decide) (treeA_may hd)]; simp), if_neg (by simp), if_neg ?_, if_neg (by simp)]
  · rfl
  · have : findC [rootA] ⟨[1], treeA d, ⟨#[]⟩⟩ = 0 := by
      unfold findC
      rw [List.findIdx?_eq_none_iff.2 fun x hx => ?_]
      rw [List.mem_singleton] at hx
      subst hx
      exact sameC_parents (by simp [rootA])
    rw [this]; simp
theorem base_add2 : addC (baseT d false) 60 ⟨[1, 2], treeA d, ⟨#[]⟩⟩ = (baseT d true, 3, 0) := by
  unfold addC
  rw [if_neg (by rw [may_cm (by decide) (treeA_may hd)]; simp), if_neg (by simp [baseT]), if_neg ?_, if_neg (by simp [baseT])]
  · rfl
  · have : findC (baseT d false) ⟨[1, 2], treeA d, ⟨#[]⟩⟩ = 0 := by
      unfold findC
      rw [List.findIdx?_eq_none_iff.2 fun x hx => ?_]
      simp only [baseT, Bool.false_eq_true, if_false, List.mem_cons, List.not_mem_nil, or_false] at hx
      rcases hx with rfl | rfl <;> exact sameC_parents (by simp [rootA])
    rw [this]; simp
theorem full_good (b : Bool) : ∀ k, GoodR (fullT d b k)
  | 0 => by have := base_good hd b; simpa [fullT] using this
  | k + 1 => by
    rw [fullT_succ]
    exact (full_good b k).snoc (noteC_small _) (noteC_may _) fun p hp => by cases hp
omit hd in
theorem full_add (b : Bool) {k : Nat} (hk : (baseT d b).length + k < 60) : addC (fullT d b k) 60 (noteC ((baseT d b).length + k)) = (fullT d b (k + 1), (baseT d b).length + k + 1, 0) := by
  have hl := fullT_len d b k
  have hfz : findC (fullT d b k) (noteC ((baseT d b).length + k)) = 0 := by
    unfold findC
    rw [List.findIdx?_eq_none_iff.2 fun x hx => ?_]
    rcases List.mem_append.1 hx with h | h
    · have hn : x.note = ⟨#[]⟩ := by
        unfold baseT at h
        cases b
        · simp only [Bool.false_eq_true, if_false, List.mem_cons, List.not_mem_nil, or_false] at h
          rcases h with rfl | rfl <;> rfl
        · simp only [if_true, List.mem_cons, List.not_mem_nil, or_false] at h
          rcases h with rfl | rfl | rfl <;> rfl
      exact sameC_note (by rw [hn]; exact noteB_nil hk)
    · obtain ⟨j, hj, rfl⟩ := List.mem_map.1 h
      rw [List.mem_range] at hj
      exact sameC_note (noteB_ne (by omega) hk (by omega))
  unfold addC
  rw [if_neg (by rw [noteC_may]; simp), if_neg (by simp [noteC]), if_neg (by rw [hfz]; simp), if_neg (by omega), hl, fullT_succ]
omit hd in
theorem full_get (b : Bool) (k : Nat) {i : Nat} (hi : i < (baseT d b).length) : getC (fullT d b k) ((i : Int) + 1) = some ((baseT d b)[i]) := by
  have h : i < (fullT d b k).length := by rw [fullT_len]; omega
  rw [getC_nat h, ← List.getElem?_eq_getElem h]
  unfold fullT
  rw [List.getElem?_append_left hi, List.getElem?_eq_getElem hi]
theorem full_one (b : Bool) (k : Nat) : (1 : Int) ∈ aheadF (fullT d b k) 2 := by
  have hb : 2 ≤ (baseT d b).length := by rw [baseT_len]; split <;> omega
  refine parent_in (full_good hd b k) (by rw [fullT_len]; omega) ?_
  unfold parentsC
  rw [show (2 : Int) = ((1 : Nat) : Int) + 1 by rfl, full_get b k (by omega)]
  simp [baseT]
theorem full_of (b : Bool) (k : Nat) : ofF (fullT d b k) 1 2 = (⟨[1, 2], treeA d, ⟨#[]⟩⟩, [], true) := by
  have hb : 2 ≤ (baseT d b).length := by rw [baseT_len]; split <;> omega
  have r1 : (1 : Int) ≤ 1 ∧ (1 : Int) ≤ (fullT d b k).length := by rw [fullT_len]; omega
  have r2 : (1 : Int) ≤ 2 ∧ (2 : Int) ≤ (fullT d b k).length := by rw [fullT_len]; omega
  have hi := ofF_is (full_good hd b k) r1 r2 (full_one hd b k)
  have hc := (ofF_clean r1 r2 (by rw [hi.1])).1
  have ht : treeC (fullT d b k) 2 = treeA d := by
    unfold treeC
    rw [show (2 : Int) = ((1 : Nat) : Int) + 1 by rfl, full_get b k (by omega)]
    simp [baseT]
  have h3 := hi.2
  rw [ht] at h3
  obtain ⟨⟨⟨ps, tr, nt⟩, bd, ok⟩, hr⟩ : ∃ r, ofF (fullT d b k) 1 2 = r := ⟨_, rfl⟩
  rw [hr] at hi hc h3
  have hi := hi.1
  dsimp only at hi hc h3
  injection hi with h4 h5
  subst h4 h5 h3
  injection hc with h6 h7 h8
  subst h6 h8
  exact hr
theorem full_car (b : Bool) (k : Nat) (hk : (baseT d b).length + k = 60) : carF (fullT d b k) 1 ⟨5, 2, 0, 0⟩ (decide ((fullT d b k).length < 60)) = if b = true then ⟨5, 2, ⟨[1, 2], treeA d, ⟨#[]⟩⟩, 7⟩ else ⟨5, 2, noC, 4⟩ := by
  have hl := fullT_len d b k
  have hroom : decide ((fullT d b k).length < 60) = false := decide_eq_false (by omega)
  have hah : (aheadF (fullT d b k) 1).contains 2 = false := by
    cases h : (aheadF (fullT d b k) 1).contains 2 with
    | false => rfl
    | true =>
      rw [List.contains_iff_mem] at h
      have := aheadF_le 2 h
      omega
  unfold carF
  dsimp only
  rw [hroom, hah, full_of hd]
  rw [if_neg (by simp), if_neg (by simp)]
  cases b with
  | true =>
    have hf : findC (fullT d true k) ⟨[1, 2], treeA d, ⟨#[]⟩⟩ ≠ 0 := by
      unfold findC
      cases h : (fullT d true k).findIdx? fun x => sameC x ⟨[1, 2], treeA d, ⟨#[]⟩⟩ with
      | some i => simp
      | none =>
        rw [List.findIdx?_eq_none_iff] at h
        have := h ⟨[1, 2], treeA d, ⟨#[]⟩⟩ (List.mem_append_left _ (by simp [baseT]))
        rw [sameC_refl'] at this
        cases this
    rw [if_neg (fun h => hf h.2)]
    rfl
  | false =>
    have hf : findC (fullT d false k) ⟨[1, 2], treeA d, ⟨#[]⟩⟩ = 0 := by
      unfold findC
      rw [List.findIdx?_eq_none_iff.2 fun x hx => ?_]
      rcases List.mem_append.1 hx with h | h
      · simp only [baseT, Bool.false_eq_true, if_false, List.mem_cons, List.not_mem_nil, or_false] at h
        rcases h with rfl | rfl <;> exact sameC_parents (by simp [rootA])
      · obtain ⟨j, hj, rfl⟩ := List.mem_map.1 h
        exact sameC_parents (by simp [noteC])
    rw [if_pos ⟨rfl, hf⟩]
    rfl
theorem full_ahead (b : Bool) (k : Nat) : (carF (fullT d b k) 2 ⟨6, 1, 0, 0⟩ (decide ((fullT d b k).length < 60))).code = 3 := by
  unfold carF
  rw [if_pos (.inr (by rw [List.contains_iff_mem]; exact full_one hd b k))]
end

end Go.Proofs.YtgjbfkaepalkiaaGreatDoor

namespace Go.Proofs.YtgjbfkaepalkiaaGreatDoor
open Go.RowKit
set_option linter.unusedVariables false
set_option linter.unusedSimpArgs false
attribute [local go_sem] Oper.semAt_some

/-- The repository, and the tree's block. -/
def FullQ (w W : World) (rb fb : Nat) (M : List Cm) (d : ByteArray) : Prop := ∃ I D : Fp, OneQ w W rb M I D 60 ∧ Blk W fb 39 #[.string ⟨#[97]⟩, .string d] ∧ ¬ D fb
theorem FullQ.ext {w W W' : World} {rb fb : Nat} {M : List Cm} {d : ByteArray} (h : FullQ w W rb fb M d) (hx : Ext W W') : FullQ w W' rb fb M d := by
  obtain ⟨I, D, h1, h2, h3⟩ := h
  exact ⟨I, D, h1.ext hx, h2.ext hx, h3⟩
theorem FullQ.x {w W : World} {rb fb : Nat} {M : List Cm} {d : ByteArray} (h : FullQ w W rb fb M d) : Ext w W := by
  obtain ⟨I, D, h1, h2, h3⟩ := h
  exact h1.x
/-- Add, on it. -/
theorem FullQ.add {w W : World} {rb fb : Nat} {M M' : List Cm} {d : ByteArray} {n m : Nat} (h : FullQ w W rb fb M d) (s : KS) (c : Cm) (T : Fp) (hR : RdC T W s c) (hs : SmallC c) (hcl : M.length ≤ 60) (ha : addC M 60 c = (M', n, m)) :
    Calls Tryz.prog 43 #[.pointer (some ⟨rb, 0, none⟩), s.val] W fun e w' => e = .returned (.tuple #[.int .i64 (n : Int), .int .i64 (m : Int)]) ∧ FullQ w w' rb fb M' d := by
  obtain ⟨I, D, h1, h2, h3⟩ := h
  refine (addR_calls h1.r s c T hR hs (by omega) (by omega)).mono ?_
  intro e w' hp
  obtain ⟨I1, D1, g1, g2, g3, g4⟩ := h1.add hp
  obtain ⟨he, -⟩ := hp
  rw [ha] at he g1
  refine ⟨he, I1, D1, g1, h2.kp g4 h3, fun e => ?_⟩
  rcases g3 fb e with h' | h'
  · exact h3 h'
  · have := h2.lt; omega
/-- How many commits there are, by the memory. -/
def lenW (rb : Nat) (W : World) : Nat := match W.cell? ⟨rb, 0, none⟩ with
  | some (.slice _ n _) => n
  | _ => 0
theorem FullQ.lenW {w W : World} {rb fb : Nat} {M : List Cm} {d : ByteArray} (h : FullQ w W rb fb M d) : lenW rb W = M.length := by
  obtain ⟨I, D, h1, h2, h3⟩ := h
  obtain ⟨A, c, rows, hB, -⟩ := h1.r.rd
  unfold Go.Proofs.YtgjbfkaepalkiaaGreatDoor.lenW
  rw [show W.cell? ⟨rb, 0, none⟩ = some (.slice A M.length c) from hB.cell 0]
theorem FullQ.len {w W : World} {rb fb : Nat} {M : List Cm} {d : ByteArray} (h : FullQ w W rb fb M d) : Calls Tryz.prog 25 #[.pointer (some ⟨rb, 0, none⟩)] W fun e w' => e = .returned (.int .i64 M.length) ∧ W = w' := by
  obtain ⟨I, D, h1, h2, h3⟩ := h
  exact lenR_calls h1.r
theorem FullQ.head {w W : World} {rb fb : Nat} {M : List Cm} {d : ByteArray} (h : FullQ w W rb fb M d) (hG : GoodR M) (hn : M.length ≤ 300) (tip : Int) (x : Ent) : Calls Tryz.prog 53 #[.pointer (some ⟨rb, 0, none⟩), .int .i64 tip, .agg #[.int .i64 x.num, .int .i64 x.com, .int .i64 x.lane, .int .i64 x.code]] W (CarPost W x.num x.com (carF M tip x (decide (M.length < 60)))) := by
  obtain ⟨I, D, h1, h2, h3⟩ := h
  exact head_calls h1.r hG hn tip x

theorem conv_two (w : World) (q r : Nat) (hq : 48 + q < 256) (hr : 48 + r < 256) : (convert 83 9 (.slice (some ⟨w.heap.size, 0, none⟩) 2 2)).run Tryz.prog (w.alloc (.cells #[.int .u8 (48 + (q : Int)), .int .u8 (48 + (r : Int))] 5)) = .ok (.string ⟨#[UInt8.ofNat (48 + q), UInt8.ofNat (48 + r)]⟩) (w.alloc (.cells #[.int .u8 (48 + (q : Int)), .int .u8 (48 + (r : Int))] 5)) := by
  have hB := Blk.new w 5 #[.int .u8 (48 + (q : Int)), .int .u8 (48 + (r : Int))]
  have e1 : (((UInt8.ofNat (48 + q)).toNat : Nat) : Int) = 48 + (q : Int) := by rw [UInt8.toNat_ofNat', Nat.mod_eq_of_lt (by omega)]; omega
  have e2 : (((UInt8.ofNat (48 + r)).toNat : Nat) : Int) = 48 + (r : Int) := by rw [UInt8.toNat_ofNat', Nat.mod_eq_of_lt (by omega)]; omega
  exact run_convert_bytes_back (P := Tryz.prog) _ 83 9 5 ⟨w.heap.size, 0, none⟩ 2 [UInt8.ofNat (48 + q), UInt8.ofNat (48 + r)] Tryz.underlying83 Tryz.underlying5 Tryz.underlying9 (fun j hj => by
    rw [show (⟨w.heap.size, 0, none⟩ : Addr).add j = ⟨w.heap.size, j, none⟩ by unfold Addr.add; split <;> simp_all]
    have hj2 : j < 2 := hj
    rcases Nat.lt_or_ge j 1 with h | h
    · have : j = 0 := by omega
      subst this
      exact (hB.cell 0).trans (by show some (Value.int .u8 (48 + (q : Int))) = _; rw [← e1]; rfl)
    · have : j = 1 := by omega
      subst this
      exact (hB.cell 1).trans (by show some (Value.int .u8 (48 + (r : Int))) = _; rw [← e2]; rfl))

set_option maxHeartbeats 4000000 in
set_option maxRecDepth 8000 in
theorem trainFull_calls (extra : Int) (d : ByteArray) (hz : d.size ≤ maxLen) (w : World) : Calls Tryz.prog 14 #[.int .i64 extra, .string d] w (SamePost w true) := by
  unfold maxLen at hz
  go_enter Tryz.func14, Tryz.ntmps14
  by_cases hd : (400 : Int) < (d.size : Int)
  · have hd0 : decide ((400 : Int) < (d.size : Int)) = true := decide_eq_true hd
    go_wp2_with fail
    refine (awake21_calls w).mono ?_
    rintro e w2 ⟨rfl, hx2⟩
    go_wp2_with fail
    go_ret
    exact ⟨rfl, hx2⟩
  · have hd0 : decide ((400 : Int) < (d.size : Int)) = false := decide_eq_false hd
    have hd4 : d.size ≤ 400 := by omega
    have HD4 := Lib.hid hd4
    clear hd hd4
    go_wp2_with fail
    refine (newR_calls 60 w (by omega)).mono ?_
    rintro e w1 hP1
    have hP1' := hP1
    obtain ⟨rfl, -, hx1, hz1⟩ := hP1'
    have hr1 := newR_repo hP1
    have hQ1 : OneQ w w1 w.heap.size [] (fun _ => False) (fun k => k = w.heap.size) 60 := ⟨hr1, fun k hk => by omega, fun k hk => hk.elim, hx1⟩
    obtain ⟨fb, hfb⟩ : ∃ fb, w1.heap.size = fb := ⟨_, rfl⟩
    have hB := Blk.new w1 39 #[.string ⟨#[97]⟩, .string d]
    have hx2 : Ext w1 (w1.alloc (.cells #[.string ⟨#[97]⟩, .string d] 39)) := (Kp.refl _ _).alloc _
    obtain ⟨w2, hw2⟩ : ∃ w2, w1.alloc (.cells #[.string ⟨#[97]⟩, .string d] 39) = w2 := ⟨_, rfl⟩
    rw [hw2] at hB hx2
    rw [hfb] at hB
    obtain ⟨rb, hrb⟩ : ∃ rb, w.heap.size = rb := ⟨_, rfl⟩
    rw [hrb] at hQ1 ⊢
    have HFQ := Lib.hid (show FullQ w w2 rb fb [] d from ⟨_, _, hQ1.ext hx2, hB, by omega⟩)
    clear hP1 hr1 hx1 hz1 hQ1 hB hx2 hrb
    have HA1 := Lib.hid (HFQ.out.add (M' := [rootA]) (n := 1) (m := 0) ⟨⟨none, 0, 0⟩, ⟨none, 0, 0⟩, ⟨#[]⟩⟩ rootA (fun _ => True) ⟨Rd.nil _ _, Rd.nil _ _, rfl⟩ ⟨by simp [rootA], by simp [rootA], fun y hy => by cases hy⟩ (by simp) (by kernel_rfl))
    dsimp only [KS.val, SliceV.val] at HA1
    go_wp2_with fail
    try rw [hfb]
    try rw [hw2]
    clear hw2 hfb
    refine HA1.out.mono ?_
    rintro e w3 ⟨rfl, hF3⟩
    clear HA1 HFQ
    have HF3 := Lib.hid hF3
    have hBi := Blk.new w3 3 #[.int .i64 1]
    have hxi : Ext w3 (w3.alloc (.cells #[.int .i64 1] 3)) := (Kp.refl _ _).alloc _
    have HF4 := Lib.hid (hF3.ext hxi)
    have hBf : Blk (w3.alloc (.cells #[.int .i64 1] 3)) fb 39 #[.string ⟨#[97]⟩, .string d] := by obtain ⟨I, D, h1, h2, h3⟩ := HF4.out; exact h2
    have HA2 := Lib.hid (HF4.out.add (M' := baseT d false) (n := 2) (m := 0) ⟨⟨some ⟨w3.heap.size, 0, none⟩, 1, 1⟩, ⟨some ⟨fb, 0, none⟩, 1, 1⟩, ⟨#[]⟩⟩ ⟨[1], treeA d, ⟨#[]⟩⟩ _ ⟨rd_of_blk (E := EI) (n := 1) hBi rfl (by omega), rd_of_blk (E := EF) (n := 1) (ys := treeA d) hBf rfl (by omega), rfl⟩ (treeA_small HD4.out (by simp)) (by simp) (base_add1 HD4.out))
    dsimp only [KS.val, SliceV.val] at HA2
    clear hBi hxi hBf hF3
    go_wp2_with fail
    refine HA2.out.mono ?_
    rintro e w5 ⟨rfl, hF5⟩
    have HF5 := Lib.hid hF5
    clear HA2 HF4 HF3 hF5
    go_wp2_with fail
    refine (low1_calls extra 2 w5 (by omega) (by omega)).mono ?_
    rintro e w5' ⟨⟨j, hj, rfl⟩, rfl⟩
    by_cases hj1 : j = 1
    · subst hj1
      go_wp2_with fail
      have hBi := Blk.new w5 3 #[.int .i64 1, .int .i64 2]
      have hxi : Ext w5 (w5.alloc (.cells #[.int .i64 1, .int .i64 2] 3)) := (Kp.refl _ _).alloc _
      have HF6 := Lib.hid (HF5.out.ext hxi)
      have hBf : Blk (w5.alloc (.cells #[.int .i64 1, .int .i64 2] 3)) fb 39 #[.string ⟨#[97]⟩, .string d] := by obtain ⟨I, D, h1, h2, h3⟩ := HF6.out; exact h2
      have HA3 := Lib.hid (HF6.out.add (M' := baseT d true) (n := 3) (m := 0) ⟨⟨some ⟨w5.heap.size, 0, none⟩, 2, 2⟩, ⟨some ⟨fb, 0, none⟩, 1, 1⟩, ⟨#[]⟩⟩ ⟨[1, 2], treeA d, ⟨#[]⟩⟩ _ ⟨rd_of_blk (E := EI) (n := 2) hBi rfl (by omega), rd_of_blk (E := EF) (n := 1) (ys := treeA d) hBf rfl (by omega), rfl⟩ (treeA_small HD4.out (by simp)) (by simp [baseT]) (base_add2 HD4.out))
      dsimp only [KS.val, SliceV.val] at HA3
      clear hBi hxi hBf
      refine HA3.out.mono ?_
      rintro e w6 ⟨rfl, hF7⟩
      have HF7 := Lib.hid hF7
      clear HA3 HF6 HF5 hF7
      go_wp2_with fail
      go_loopw [8, 9, 10] (fun _ _ _ wr => ∃ k : Nat, 3 + k ≤ 60 ∧ FullQ w wr rb fb (fullT d true k) d) (fun _ _ _ wr => 60 - lenW rb wr)
      case atStart => exact ⟨0, by omega, by have := HF7.out; simpa [fullT] using this⟩
      case round =>
        obtain ⟨k, hk, hFk⟩ := hrel
        rename World => wo
        have HFk := Lib.hid hFk
        have hfl : (fullT d true k).length = 3 + k := by rw [fullT_len, baseT_len]; rfl
        have hLn := hFk.len
        have HLw := Lib.hid hFk.lenW
        rw [hfl] at hLn HLw
        have HLn := Lib.hid hLn
        clear hFk hLn
        go_wp2_with fail
        refine HLn.out.mono ?_
        rintro e w' ⟨rfl, rfl⟩
        by_cases hlt : 3 + k < 60
        · obtain ⟨n, hn⟩ : ∃ n, 3 + k = n := ⟨_, rfl⟩
          have hd1 : decide ((n : Int) < 60) = true := decide_eq_true (by omega)
          rw [hn] at HLn
          try rw [hn]
          go_wp2_with fail
          refine HLn.out.mono ?_
          rintro e w' ⟨rfl, rfl⟩
          obtain ⟨q, hq⟩ : ∃ q, n / 10 = q := ⟨_, rfl⟩
          obtain ⟨r, hr⟩ : ∃ r, n % 10 = r := ⟨_, rfl⟩
          have hq1 : (n : Int).tdiv 10 = (q : Int) := by rw [← hq]; rfl
          have hr1 : (n : Int).tmod 10 = (r : Int) := by rw [← hr]; rfl
          have hql : q < 6 := by omega
          have HQ := Lib.hid hq
          have HR := Lib.hid hr
          have hrl : r < 10 := by omega
          have hw1 : IntKind.i64.wrap (48 + (q : Int)) = 48 + (q : Int) := IntWalk.i64_in _ (by omega)
          have hw2 : IntKind.i64.wrap (48 + (r : Int)) = 48 + (r : Int) := IntWalk.i64_in _ (by omega)
          have hw5 : IntKind.i64.wrap (q : Int) = (q : Int) := IntWalk.i64_in _ (by omega)
          have hw6 : IntKind.i64.wrap (r : Int) = (r : Int) := IntWalk.i64_in _ (by omega)
          have hw3 : IntKind.u8.wrap (48 + (q : Int)) = 48 + (q : Int) := by unfold IntKind.wrap; simp [IntKind.signed, IntKind.bits]; omega
          have hw4 : IntKind.u8.wrap (48 + (r : Int)) = 48 + (r : Int) := by unfold IntKind.wrap; simp [IntKind.signed, IntKind.bits]; omega
          have hconv : (convert 83 9 (.slice (some ⟨wo.heap.size, 0, none⟩) 2 2)).run Tryz.prog (wo.alloc (.cells #[.int .u8 (48 + (q : Int)), .int .u8 (48 + (r : Int))] 5)) = .ok (.string (noteB n)) (wo.alloc (.cells #[.int .u8 (48 + (q : Int)), .int .u8 (48 + (r : Int))] 5)) := by
            have h := conv_two wo q r (by omega) (by omega)
            unfold noteB
            rw [hq, hr]
            exact h
          have hxn : Ext wo (wo.alloc (.cells #[.int .u8 (48 + (q : Int)), .int .u8 (48 + (r : Int))] 5)) := (Kp.refl _ _).alloc _
          have hadd := full_add (d := d) true (k := k) (by rw [baseT_len]; exact hlt)
          rw [show (baseT d true).length + k = n by rw [baseT_len]; exact hn] at hadd
          have hAd := (HFk.out.ext hxn).add ⟨⟨none, 0, 0⟩, ⟨none, 0, 0⟩, noteB n⟩ (noteC n) (fun _ => True) ⟨Rd.nil _ _, Rd.nil _ _, rfl⟩ (noteC_small n) (by rw [hfl]; omega) hadd
          dsimp only [KS.val, SliceV.val] at hAd
          have HAd := Lib.hid hAd
          have HN := Lib.hid hn
          clear hq hr hxn hadd hAd hn hk hfl
          go_wp2_with fail
          refine HAd.out.mono ?_
          rintro e w9 ⟨rfl, hF9⟩
          have HF9 := Lib.hid hF9
          clear HAd hF9
          go_wp2_with fail
          go_roundw
          case rel => exact ⟨k + 1, by have := HN.out; omega, HF9.out⟩
          case measure =>
            have h1 := HF9.out.lenW
            rw [fullT_len, baseT_len] at h1
            have h2 := HLw.out
            rw [h1, h2]
            simp
            omega
        · have hk2 : 3 + k = 60 := by omega
          have hd1 : decide (((3 + k : Nat) : Int) < 60) = false := decide_eq_false (by omega)
          have hd2 : decide (((3 : Int) + (k : Int)) < 60) = false := decide_eq_false (by omega)
          have hGd := full_good HD4.out true k
          have hbk : (baseT d true).length + k = 60 := by rw [baseT_len]; exact hk2
          have hH1 := HFk.out.head hGd (by rw [fullT_len]; omega) 1 ⟨5, 2, 0, 0⟩
          rw [full_car HD4.out true k hbk] at hH1
          have hH2 := fun W (hW : Ext wo W) => (HFk.out.ext hW).head hGd (by rw [fullT_len]; omega) 2 ⟨6, 1, 0, 0⟩
          have hc3 := full_ahead HD4.out true k
          generalize carF (fullT d true k) 2 ⟨6, 1, 0, 0⟩ (decide ((fullT d true k).length < 60)) = cr at hH2 hc3
          obtain ⟨ce, cm, cmr, cc⟩ := cr
          dsimp only at hc3
          subst hc3
          have HH1 := Lib.hid hH1
          have HH2 := Lib.hid hH2
          have HX := Lib.hid HFk.out.x
          clear hH1 hH2 hGd hbk hk2 hfl hk HLn HLw
          go_wp2_with fail
          refine HH1.out.mono ?_
          rintro e w8 ⟨⟨⟨pa, pn, pc⟩, ⟨ta, tn, tc⟩, nt⟩, rfl, -, hx8⟩
          have hbx : Ext w8 (w8.alloc (.cells #[.int .i64 5, .int .i64 2, .slice pa pn pc, .slice ta tn tc, .string nt, .int .i64 7] 77)) := (Kp.refl _ _).alloc _
          have hBc := Blk.new w8 77 #[.int .i64 5, .int .i64 2, .slice pa pn pc, .slice ta tn tc, .string nt, .int .i64 7]
          have HX9 := Lib.hid (hx8.trans hbx)
          have HBc := Lib.hid hBc
          clear hBc hbx hx8 HH1
          dsimp only [CS.val, KS.val, SliceV.val]
          go_wp2_with fail
          try simp only [if_true, Bool.false_eq_true, if_false]
          generalize (w8.alloc (.cells #[.int .i64 5, .int .i64 2, .slice pa pn pc, .slice ta tn tc, .string nt, .int .i64 7] 77)) = w9 at HX9 HBc ⊢
          refine (HH2.out w9 HX9.out).mono ?_
          rintro e w10 ⟨⟨⟨pa', pn', pc'⟩, ⟨ta', tn', tc'⟩, nt'⟩, rfl, -, hx10⟩
          have hbx : Ext w10 (w10.alloc (.cells #[.int .i64 6, .int .i64 1, .slice pa' pn' pc', .slice ta' tn' tc', .string nt', .int .i64 3] 77)) := (Kp.refl _ _).alloc _
          have hBd := Blk.new w10 77 #[.int .i64 6, .int .i64 1, .slice pa' pn' pc', .slice ta' tn' tc', .string nt', .int .i64 3]
          have hBe := HBc.out.ext (hx10.trans hbx)
          obtain ⟨w11, hw11⟩ : ∃ w11, (w10.alloc (.cells #[.int .i64 6, .int .i64 1, .slice pa' pn' pc', .slice ta' tn' tc', .string nt', .int .i64 3] 77)) = w11 := ⟨_, rfl⟩
          have HX11 := Lib.hid (HX9.out.trans (hx10.trans hbx))
          rw [hw11] at hBd hBe HX11
          have p0 : w11.cell? ⟨w8.heap.size, 0, none⟩ = some (.int .i64 5) := hBe.cell 0
          have p1 : w11.cell? ⟨w8.heap.size, 1, none⟩ = some (.int .i64 2) := hBe.cell 1
          have p5 : w11.cell? ⟨w8.heap.size, 5, none⟩ = some (.int .i64 7) := hBe.cell 5
          have q5 : w11.cell? ⟨w10.heap.size, 5, none⟩ = some (.int .i64 3) := hBd.cell 5
          clear hBd hBe hbx hx10 HH2 HBc HX9
          dsimp only [CS.val, KS.val, SliceV.val]
          go_wp2_with (rw [hw11])
          try rw [hw11]
          refine (awake21_calls w11).mono ?_
          rintro e w12 ⟨rfl, hx12⟩
          go_wp2_with fail
          go_ret
          exact ⟨rfl, (HX.out.trans HX11.out).trans hx12⟩
    · have hj0 : j = 0 := by omega
      subst hj0
      obtain ⟨w6, hw6⟩ : ∃ w6, w5 = w6 := ⟨_, rfl⟩
      rw [hw6] at HF5
      have HF7 := HF5
      clear HF5
      go_wp2_with (rw [hw6])
      try rw [hw6]
      clear hw6
      go_loopw [8, 9, 10] (fun _ _ _ wr => ∃ k : Nat, 2 + k ≤ 60 ∧ FullQ w wr rb fb (fullT d false k) d) (fun _ _ _ wr => 60 - lenW rb wr)
      case atStart => exact ⟨0, by omega, by have := HF7.out; simpa [fullT] using this⟩
      case round =>
        obtain ⟨k, hk, hFk⟩ := hrel
        rename World => wo
        have HFk := Lib.hid hFk
        have hfl : (fullT d false k).length = 2 + k := by rw [fullT_len, baseT_len]; rfl
        have hLn := hFk.len
        have HLw := Lib.hid hFk.lenW
        rw [hfl] at hLn HLw
        have HLn := Lib.hid hLn
        clear hFk hLn
        go_wp2_with fail
        refine HLn.out.mono ?_
        rintro e w' ⟨rfl, rfl⟩
        by_cases hlt : 2 + k < 60
        · obtain ⟨n, hn⟩ : ∃ n, 2 + k = n := ⟨_, rfl⟩
          have hd1 : decide ((n : Int) < 60) = true := decide_eq_true (by omega)
          rw [hn] at HLn
          try rw [hn]
          go_wp2_with fail
          refine HLn.out.mono ?_
          rintro e w' ⟨rfl, rfl⟩
          obtain ⟨q, hq⟩ : ∃ q, n / 10 = q := ⟨_, rfl⟩
          obtain ⟨r, hr⟩ : ∃ r, n % 10 = r := ⟨_, rfl⟩
          have hq1 : (n : Int).tdiv 10 = (q : Int) := by rw [← hq]; rfl
          have hr1 : (n : Int).tmod 10 = (r : Int) := by rw [← hr]; rfl
          have hql : q < 6 := by omega
          have HQ := Lib.hid hq
          have HR := Lib.hid hr
          have hrl : r < 10 := by omega
          have hw1 : IntKind.i64.wrap (48 + (q : Int)) = 48 + (q : Int) := IntWalk.i64_in _ (by omega)
          have hw2 : IntKind.i64.wrap (48 + (r : Int)) = 48 + (r : Int) := IntWalk.i64_in _ (by omega)
          have hw5 : IntKind.i64.wrap (q : Int) = (q : Int) := IntWalk.i64_in _ (by omega)
          have hw6 : IntKind.i64.wrap (r : Int) = (r : Int) := IntWalk.i64_in _ (by omega)
          have hw3 : IntKind.u8.wrap (48 + (q : Int)) = 48 + (q : Int) := by unfold IntKind.wrap; simp [IntKind.signed, IntKind.bits]; omega
          have hw4 : IntKind.u8.wrap (48 + (r : Int)) = 48 + (r : Int) := by unfold IntKind.wrap; simp [IntKind.signed, IntKind.bits]; omega
          have hconv : (convert 83 9 (.slice (some ⟨wo.heap.size, 0, none⟩) 2 2)).run Tryz.prog (wo.alloc (.cells #[.int .u8 (48 + (q : Int)), .int .u8 (48 + (r : Int))] 5)) = .ok (.string (noteB n)) (wo.alloc (.cells #[.int .u8 (48 + (q : Int)), .int .u8 (48 + (r : Int))] 5)) := by
            have h := conv_two wo q r (by omega) (by omega)
            unfold noteB
            rw [hq, hr]
            exact h
          have hxn : Ext wo (wo.alloc (.cells #[.int .u8 (48 + (q : Int)), .int .u8 (48 + (r : Int))] 5)) := (Kp.refl _ _).alloc _
          have hadd := full_add (d := d) false (k := k) (by rw [baseT_len]; exact hlt)
          rw [show (baseT d false).length + k = n by rw [baseT_len]; exact hn] at hadd
          have hAd := (HFk.out.ext hxn).add ⟨⟨none, 0, 0⟩, ⟨none, 0, 0⟩, noteB n⟩ (noteC n) (fun _ => True) ⟨Rd.nil _ _, Rd.nil _ _, rfl⟩ (noteC_small n) (by rw [hfl]; omega) hadd
          dsimp only [KS.val, SliceV.val] at hAd
          have HAd := Lib.hid hAd
          have HN := Lib.hid hn
          clear hq hr hxn hadd hAd hn hk hfl
          go_wp2_with fail
          refine HAd.out.mono ?_
          rintro e w9 ⟨rfl, hF9⟩
          have HF9 := Lib.hid hF9
          clear HAd hF9
          go_wp2_with fail
          go_roundw
          case rel => exact ⟨k + 1, by have := HN.out; omega, HF9.out⟩
          case measure =>
            have h1 := HF9.out.lenW
            rw [fullT_len, baseT_len] at h1
            have h2 := HLw.out
            rw [h1, h2]
            simp
            omega
        · have hk2 : 2 + k = 60 := by omega
          have hd1 : decide (((2 + k : Nat) : Int) < 60) = false := decide_eq_false (by omega)
          have hd2 : decide (((2 : Int) + (k : Int)) < 60) = false := decide_eq_false (by omega)
          have hGd := full_good HD4.out false k
          have hbk : (baseT d false).length + k = 60 := by rw [baseT_len]; exact hk2
          have hH1 := HFk.out.head hGd (by rw [fullT_len]; omega) 1 ⟨5, 2, 0, 0⟩
          rw [full_car HD4.out false k hbk] at hH1
          have hH2 := fun W (hW : Ext wo W) => (HFk.out.ext hW).head hGd (by rw [fullT_len]; omega) 2 ⟨6, 1, 0, 0⟩
          have hc3 := full_ahead HD4.out false k
          generalize carF (fullT d false k) 2 ⟨6, 1, 0, 0⟩ (decide ((fullT d false k).length < 60)) = cr at hH2 hc3
          obtain ⟨ce, cm, cmr, cc⟩ := cr
          dsimp only at hc3
          subst hc3
          have HH1 := Lib.hid hH1
          have HH2 := Lib.hid hH2
          have HX := Lib.hid HFk.out.x
          clear hH1 hH2 hGd hbk hk2 hfl hk HLn HLw
          go_wp2_with fail
          refine HH1.out.mono ?_
          rintro e w8 ⟨⟨⟨pa, pn, pc⟩, ⟨ta, tn, tc⟩, nt⟩, rfl, -, hx8⟩
          have hbx : Ext w8 (w8.alloc (.cells #[.int .i64 5, .int .i64 2, .slice pa pn pc, .slice ta tn tc, .string nt, .int .i64 4] 77)) := (Kp.refl _ _).alloc _
          have hBc := Blk.new w8 77 #[.int .i64 5, .int .i64 2, .slice pa pn pc, .slice ta tn tc, .string nt, .int .i64 4]
          have HX9 := Lib.hid (hx8.trans hbx)
          have HBc := Lib.hid hBc
          clear hBc hbx hx8 HH1
          dsimp only [CS.val, KS.val, SliceV.val]
          go_wp2_with fail
          try simp only [if_true, Bool.false_eq_true, if_false]
          generalize (w8.alloc (.cells #[.int .i64 5, .int .i64 2, .slice pa pn pc, .slice ta tn tc, .string nt, .int .i64 4] 77)) = w9 at HX9 HBc ⊢
          refine (HH2.out w9 HX9.out).mono ?_
          rintro e w10 ⟨⟨⟨pa', pn', pc'⟩, ⟨ta', tn', tc'⟩, nt'⟩, rfl, -, hx10⟩
          have hbx : Ext w10 (w10.alloc (.cells #[.int .i64 6, .int .i64 1, .slice pa' pn' pc', .slice ta' tn' tc', .string nt', .int .i64 3] 77)) := (Kp.refl _ _).alloc _
          have hBd := Blk.new w10 77 #[.int .i64 6, .int .i64 1, .slice pa' pn' pc', .slice ta' tn' tc', .string nt', .int .i64 3]
          have hBe := HBc.out.ext (hx10.trans hbx)
          obtain ⟨w11, hw11⟩ : ∃ w11, (w10.alloc (.cells #[.int .i64 6, .int .i64 1, .slice pa' pn' pc', .slice ta' tn' tc', .string nt', .int .i64 3] 77)) = w11 := ⟨_, rfl⟩
          have HX11 := Lib.hid (HX9.out.trans (hx10.trans hbx))
          rw [hw11] at hBd hBe HX11
          have p0 : w11.cell? ⟨w8.heap.size, 0, none⟩ = some (.int .i64 5) := hBe.cell 0
          have p1 : w11.cell? ⟨w8.heap.size, 1, none⟩ = some (.int .i64 2) := hBe.cell 1
          have p5 : w11.cell? ⟨w8.heap.size, 5, none⟩ = some (.int .i64 4) := hBe.cell 5
          have q5 : w11.cell? ⟨w10.heap.size, 5, none⟩ = some (.int .i64 3) := hBd.cell 5
          clear hBd hBe hbx hx10 HH2 HBc HX9
          dsimp only [CS.val, KS.val, SliceV.val]
          go_wp2_with (rw [hw11])
          try rw [hw11]
          refine (awake21_calls w11).mono ?_
          rintro e w12 ⟨rfl, hx12⟩
          go_wp2_with fail
          go_ret
          exact ⟨rfl, (HX.out.trans HX11.out).trans hx12⟩

end Go.Proofs.YtgjbfkaepalkiaaGreatDoor
