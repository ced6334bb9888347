/-
  Package tree: Path.
-/
import Derived.Test.YtddooggkcdloeaaGreatDoorData
import Derived.Test.YtddooggkcdloeaaGreatDoorShelf
import Derived.Shelf.Strings.SplitCore
import Derived.Lib.SplitLaws
import Derived.BigQuiet
import Derived.Laws.Cover1
namespace Go.Proofs.YtddooggkcdloeaaGreatDoor
open Go.RowKit
set_option linter.unusedVariables false
set_option linter.unusedSimpArgs false
attribute [local go_sem] Oper.semAt_some

/-! ### Plain -/
def oddB (x : UInt8) : Bool := decide (x.toNat < 33) || decide (x.toNat > 126)

/-- strings.Split at one byte: the pieces. -/
def pieces (s : ByteArray) (c : UInt8) : List ByteArray := Lib.splitB ⟨#[c]⟩ 0 (Lib.countB s ⟨#[c]⟩) s

def pathB (p : ByteArray) : Bool := !(p.size == 0) && decide (p.size ≤ 60) && !(p.toList.any oddB) && !(Lib.containsS (pieces p 47) ⟨#[]⟩)

/-! ### The walks -/
theorem odd_calls (x : UInt8) (w : World) : Calls Tryz.prog 50 #[.int .u8 x.toNat] w fun e w' => e = .returned (.bool (oddB x)) ∧ w = w' := by
  have hx : x.toNat < 256 := x.toNat_lt
  unfold oddB
  by_cases h : x.toNat < 33
  · have h1 : decide ((x.toNat : Int) < 33) = true := decide_eq_true (by omega)
    go_enter Tryz.func50, Tryz.ntmps50
    go_wp2_with fail
    go_ret
    exact ⟨by simp [h], rfl⟩
  · have h1 : decide ((x.toNat : Int) < 33) = false := decide_eq_false (by omega)
    by_cases h' : x.toNat > 126
    · have h2 : decide ((126 : Int) < (x.toNat : Int)) = true := decide_eq_true (by omega)
      go_enter Tryz.func50, Tryz.ntmps50
      go_wp2_with fail
      go_ret
      exact ⟨by simp [h, h'], rfl⟩
    · have h2 : decide ((126 : Int) < (x.toNat : Int)) = false := decide_eq_false (by omega)
      go_enter Tryz.func50, Tryz.ntmps50
      go_wp2_with fail
      go_ret
      exact ⟨by simp [h, h'], rfl⟩


theorem indexOdd_calls (b c : Nat) (bs : List UInt8) (w : World) (hn : bs.length ≤ 1000000) (hc : ∀ j x, bs[j]? = some x → w.cell? ⟨b, j, none⟩ = some (.int .u8 x.toNat)) :
    Calls Tryz.prog 74 #[.slice (some ⟨b, 0, none⟩) bs.length c, .func (.func 50) #[] #[]] w fun e w' => (∃ r : Int, e = .returned (.int .i64 r) ∧ decide (r ≥ 0) = bs.any oddB) ∧ w = w' := by
  go_enter Tryz.func74, Tryz.ntmps74
  go_wp2_with fail
  go_loopw [8] (fun i wr => ∃ k : Nat, k ≤ bs.length ∧ i = .int .i64 k ∧ (bs.take k).any oddB = false ∧ w = wr) (fun i _ => bs.length - (intOf i).toNat)
  case atStart => exact ⟨0, Nat.zero_le _, rfl, by simp, rfl⟩
  case round =>
    obtain ⟨k, hk, rfl, hno, rfl⟩ := hrel
    by_cases hlt : k < bs.length
    · have hd : decide ((k : Int) < (bs.length : Int)) = true := decide_eq_true (by omega)
      have hx := hc k bs[k] (List.getElem?_eq_getElem hlt)
      have hlt' : (k : Int) < (bs.length : Int) := by omega
      have h0 : (0 : Int) ≤ (k : Int) := by omega
      have hw : IntKind.i64.wrap ((k : Int) + 1) = (k : Int) + 1 := IntWalk.i64_in _ (by omega)
      have hsn : (bs.take (k + 1)).any oddB = oddB bs[k] := by rw [take_snoc bs hlt, List.any_append, hno]; simp only [List.any_cons, List.any_nil, Bool.or_false, Bool.false_or]
      cases ho : oddB bs[k] with
      | true =>
        rw [ho] at hsn
        go_wp2_with (go_at_call 50; refine (odd_calls bs[k] w).mono ?_; rintro e w' ⟨rfl, rfl⟩; rw [ho])
        go_ret
        refine ⟨⟨(k : Int), rfl, ?_⟩, rfl⟩
        rw [decide_eq_true (by omega : (k : Int) ≥ 0)]
        have : (bs.take (k + 1)).any oddB = true → bs.any oddB = true := by
          intro h
          obtain ⟨y, hy, hy'⟩ := List.any_eq_true.1 h
          exact List.any_eq_true.2 ⟨y, List.mem_of_mem_take hy, hy'⟩
        exact (this hsn).symm
      | false =>
        rw [ho] at hsn
        go_wp2_with (go_at_call 50; refine (odd_calls bs[k] w).mono ?_; rintro e w' ⟨rfl, rfl⟩; rw [ho])
        go_roundw
        case rel => exact ⟨k + 1, by omega, by go_num, hsn, trivial⟩
        case measure => simp [intOf]; omega
    · have hd : decide ((k : Int) < (bs.length : Int)) = false := decide_eq_false (by omega)
      have hkl : k = bs.length := by omega
      subst hkl
      rw [List.take_length] at hno
      go_wp2_with fail
      go_ret
      exact ⟨⟨-1, rfl, by rw [hno]; rfl⟩, rfl⟩

theorem containsOdd_calls (b c : Nat) (bs : List UInt8) (w : World) (hn : bs.length ≤ 1000000) (hc : ∀ j x, bs[j]? = some x → w.cell? ⟨b, j, none⟩ = some (.int .u8 x.toNat)) :
    Calls Tryz.prog 51 #[.slice (some ⟨b, 0, none⟩) bs.length c, .func (.func 50) #[] #[]] w fun e w' => e = .returned (.bool (bs.any oddB)) ∧ w = w' := by
  go_enter Tryz.func51, Tryz.ntmps51
  go_wp2_with fail
  refine (indexOdd_calls b c bs w hn hc).mono ?_
  rintro e w' ⟨⟨r, rfl, hr⟩, rfl⟩
  have hr' : decide ((0 : Int) ≤ r) = bs.any oddB := hr
  go_wp2_with fail
  go_ret
  exact ⟨by rw [← hr]; rfl, rfl⟩

theorem split_calls (s : ByteArray) (c : UInt8) (w : World) (hs : s.size < 4294967281) :
    Calls Tryz.prog 53 #[.string s, .string ⟨#[c]⟩] w fun e w' => ∃ v, e = .returned v ∧ New ES 9 w.heap.size w' v (pieces s c) ∧ Ext w w' := by
  have hle := Lib.countB_le ⟨#[c]⟩ (Nat.le_refl _) s.size s (Nat.le_refl _)
  have hlen := Lib.splitB_all ⟨#[c]⟩ (Nat.le_refl _) 0 _ s rfl
  have hg := Any.strings_genSplit_core Tryz.lays221 (by kernel_rfl) s ⟨#[c]⟩ 0 (-1) (Lib.countB s ⟨#[c]⟩ + 1) w hs (Nat.le_refl _) (Nat.zero_le _)
    (fun x cs hx => by
      refine (Tryz.strings_Index_one x c _).mono ?_
      rintro e w' ⟨rfl, rfl⟩
      refine ⟨?_, rfl⟩
      show _ = Ending.returned (Value.int .i64 (Lib.index x.data.toList [c]))
      rw [Lib.index_one]) (by
      refine (Tryz.strings_Count_one s c _).mono ?_
      rintro e w' ⟨rfl, rfl⟩
      refine ⟨?_, rfl⟩
      show _ = Ending.returned (Value.int .i64 ((Lib.count s.data.toList [c] : Nat) : Int))
      rw [Lib.count_one]; rfl) (by decide) (by decide) (by rw [if_pos (by decide)]; omega)
  rw [Nat.add_sub_cancel, hlen] at hg
  have e2 : Lib.cellsOf (Lib.splitB ⟨#[c]⟩ 0 (Lib.countB s ⟨#[c]⟩) s) (Lib.countB s ⟨#[c]⟩ + 1) = (ES.flat (pieces s c)).toArray := by
    rw [← hlen, Lib.cellsOf_full]
    congr 1
    show List.map Value.string (pieces s c) = ES.flat (pieces s c)
    generalize pieces s c = l
    induction l with
    | nil => rfl
    | cons a l ih => rw [List.map_cons, ES.flat_cons, ih]; rfl
  rw [e2] at hg
  have hlp : (pieces s c).length = Lib.countB s ⟨#[c]⟩ + 1 := hlen
  have hbig : (pieces s c).length ≤ maxLen := by rw [hlp]; unfold maxLen; omega
  rw [← hlp] at hg
  clear hlp hlen hle e2
  go_enter Tryz.func53, Tryz.ntmps53
  go_wp2_with (go_at_call 76; refine hg.mono ?_; rintro e w' ⟨rfl, rfl⟩)
  go_ret
  exact ⟨_, rfl, New.made w _ (pieces s c) hbig, (Kp.refl _ w).alloc _⟩

theorem bytesRow_get (p : ByteArray) (w : World) (e : TypeId) (x : UInt8) (j : Nat) (r : Nat × Nat) (n : Nat) (h : p.toList[j]? = some x) :
    (w.alloc (.cells (bytesRow p n) e r)).cell? ⟨w.heap.size, j, none⟩ = some (.int .u8 x.toNat) := by
  rw [cell_of_row _ _ _ _ _ _ (heap_alloc_new w _), bytesRow]
  rw [Lib.toList_data] at h
  have hj : j < p.data.size := by
    have := (List.getElem?_eq_some_iff.1 h).1
    simpa using this
  rw [Array.getElem?_append_left (by simpa using hj), Array.getElem?_map]
  have : p.data[j]? = some x := by rw [← Array.getElem?_toList]; exact h
  rw [this]; rfl

set_option maxHeartbeats 400000 in
theorem path_any (p : ByteArray) (w : World) (hp : p.size ≤ 9223372036854775807) : Calls Tryz.prog 25 #[.string p] w fun e w' => e = .returned (.bool (pathB p)) ∧ Ext w w' := by
  have hsz : p.toList.length = p.size := by rw [Lib.toList_data]; rfl
  have hcv := fun W => run_bytes_of_string (P := Tryz.prog) W 9 67 5 p Tryz.underlying9 Tryz.underlying67 Tryz.underlying5
  cases h0 : p.toList.isEmpty with
  | true =>
    go_enter Tryz.func25, Tryz.ntmps25
    go_wp2_with fail
    go_ret
    refine ⟨?_, Kp.refl _ w⟩
    have : p.size = 0 := by rw [← hsz, List.isEmpty_iff.1 h0]; rfl
    unfold pathB; rw [this]; rfl
  | false =>
    have hne : (p.size == 0) = false := by
      rw [← hsz]
      cases hl : p.toList with
      | nil => rw [hl] at h0; cases h0
      | cons x xs => rfl
    by_cases h1 : p.size ≤ 60
    · have hd : decide ((60 : Int) < (p.size : Int)) = false := decide_eq_false (by omega)
      have hn : p.toList.length ≤ 1000000 := by omega
      have HC := fun (W : World) (c : Nat) (hc : ∀ j x, p.toList[j]? = some x → W.cell? ⟨w.heap.size, j, none⟩ = some (.int .u8 x.toNat)) => containsOdd_calls w.heap.size c p.toList W hn hc
      rw [hsz] at HC
      cases ha : p.toList.any oddB with
      | true =>
        rw [ha] at HC
        go_enter Tryz.func25, Tryz.ntmps25
        go_wp2_with fail
        refine (HC _ _ fun j x h => bytesRow_get p w.drew _ x j _ _ h).mono ?_
        rintro e w1 ⟨rfl, rfl⟩
        go_wp2_with fail
        go_ret
        refine ⟨?_, ((Kp.refl _ w).drew).alloc _⟩
        unfold pathB; rw [ha, hne, decide_eq_true h1]; rfl
      | false =>
        rw [ha] at HC
        go_enter Tryz.func25, Tryz.ntmps25
        go_wp2_with fail
        refine (HC _ _ fun j x h => bytesRow_get p w.drew _ x j _ _ h).mono ?_
        rintro e w1 ⟨rfl, rfl⟩
        go_wp2_with fail
        refine (split_calls p 47 _ (by omega)).mono ?_
        rintro e w2 ⟨v, rfl, hN, hx⟩
        have hl : (pieces p 47).length ≤ 1000000 := by
          have hlen := Lib.splitB_all ⟨#[47]⟩ (Nat.le_refl _) 0 _ p rfl
          have hle := Lib.countB_le ⟨#[47]⟩ (Nat.le_refl _) p.size p (Nat.le_refl _)
          unfold pieces; omega
        obtain ⟨A, c, rfl, hO⟩ := hN.rd.open_
        have hcall : Calls Tryz.prog 52 #[.slice A (pieces p 47).length c, .string ⟨#[]⟩] w2 fun e w' => e = .returned (.bool (Lib.containsS (pieces p 47) ⟨#[]⟩)) ∧ w' = w2 := by
          by_cases hp0 : 0 < (pieces p 47).length
          · obtain ⟨b, off, rfl, _, hb, hc⟩ := hO.rd hp0
            have := Tryz.slices_Contains_string b off (pieces p 47).length c (pieces p 47) ⟨#[]⟩ w2 (Nat.le_refl _) (by omega) (fun j hj => by
              obtain ⟨b', off', he, _, _, h⟩ := hO.rd.text hj
              cases he
              rw [h, List.getD_eq_getElem?_getD, List.getElem?_eq_getElem hj]; rfl)
            rw [List.take_length] at this
            exact this
          · have : (pieces p 47).length = 0 := by omega
            rw [this, List.eq_nil_of_length_eq_zero this]
            exact Tryz.slices_Contains_string_empty A c ⟨#[]⟩ w2
        clear hO hN
        go_wp2_with fail
        refine hcall.mono ?_
        rintro e w3 ⟨rfl, rfl⟩
        go_wp2_with fail
        go_ret
        refine ⟨?_, (((Kp.refl _ w).drew).alloc _).trans hx⟩
        unfold pathB; rw [ha, hne, decide_eq_true h1]; rfl
    · have hd : decide ((60 : Int) < (p.size : Int)) = true := decide_eq_true (by omega)
      go_enter Tryz.func25, Tryz.ntmps25
      go_wp2_with fail
      go_ret
      refine ⟨?_, Kp.refl _ w⟩
      unfold pathB; rw [hne, decide_eq_false h1]; rfl
theorem path_calls (p : ByteArray) (w : World) (hp : p.size ≤ 1000000) : Calls Tryz.prog 25 #[.string p] w fun e w' => e = .returned (.bool (pathB p)) ∧ Ext w w' := path_any p w (by omega)

end Go.Proofs.YtddooggkcdloeaaGreatDoor
