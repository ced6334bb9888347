/-
  cortegeref3: Split, Join, Binary, Few. cortegeref5: Merge. cortegeref6: odd, Merge.
-/
import Derived.Test.YtgjbfkaepalkiaaGreatDoorRefM
import Derived.Test.YtgjbfkaepalkiaaGreatDoorText
import Derived.Lib.AppendStr
import Derived.Laws.IdiomStrings
import Derived.Laws.BytesArg
import Derived.Test.YtgjbfkaepalkiaaGreatDoorR5c
namespace Go.Proofs.YtgjbfkaepalkiaaGreatDoor
open Go.RowKit
set_option linter.unusedVariables false
set_option linter.unusedSimpArgs false
attribute [local go_sem] Oper.semAt_some

/-! ### Plain -/
theorem lines_at : ∀ (l : List UInt8) (j : Nat) (hj : j < l.length), (∀ i (h : i < l.length), i < j → l[i] ≠ 10) → l[j] = 10 → linesL l = l.take (j + 1) :: linesL (l.drop (j + 1))
  | [], j, hj, _, _ => by simp at hj
  | x :: xs, 0, hj, _, h10 => by
    have hx : x = 10 := h10
    subst hx
    simp [linesL]
  | x :: xs, j + 1, hj, hn, h10 => by
    have hx : x ≠ 10 := hn 0 (by simp) (by omega)
    have ih := lines_at xs j (by simpa using hj) (fun i h hi => by
      have := hn (i + 1) (by simpa using h) (by omega)
      simpa using this) (by simpa using h10)
    rw [show linesL (x :: xs) = (if x = 10 then [10] :: linesL xs else match linesL xs with | [] => [[x]] | l :: ls => (x :: l) :: ls) from rfl, if_neg hx, ih]
    simp
theorem lines_last : ∀ (l : List UInt8), l ≠ [] → (∀ i (h : i < l.length), l[i] ≠ 10) → linesL l = [l]
  | [], h, _ => absurd rfl h
  | x :: xs, _, hn => by
    have hx : x ≠ 10 := hn 0 (by simp)
    rw [show linesL (x :: xs) = (if x = 10 then [10] :: linesL xs else match linesL xs with | [] => [[x]] | l :: ls => (x :: l) :: ls) from rfl, if_neg hx]
    by_cases he : xs = []
    · subst he; rfl
    · rw [lines_last xs he fun i h => by
        have := hn (i + 1) (by simpa using h)
        simpa using this]
/-- What is left of a text's lines from a place on. -/
def restT (s : ByteArray) (p : Nat) : List ByteArray := (linesL ((bl s).drop p)).map lb
theorem restT_zero (s : ByteArray) : restT s 0 = linesT s := rfl
theorem restT_end (s : ByteArray) {p : Nat} (h : s.size ≤ p) : restT s p = [] := by
  unfold restT
  rw [List.drop_of_length_le (by exact h)]
  rfl
theorem bl_len (s : ByteArray) : (bl s).length = s.size := rfl
theorem bl_get (s : ByteArray) (i : Nat) (h : i < s.size) : (bl s)[i]'h = s[i] := rfl
theorem extract_bl (s : ByteArray) (p q : Nat) : s.extract p q = lb (((bl s).drop p).take (q - p)) := by
  apply ByteArray.ext
  apply Array.ext'
  simp only [bl, lb, ByteArray.data_extract, Array.toList_extract, List.extract_eq_take_drop]
/-- A line ends at k. -/
theorem restT_step {s : ByteArray} {p k : Nat} (hp : p ≤ k) (hk : k < s.size) (hn : ∀ i (h : i < s.size), p ≤ i → i < k → s[i] ≠ 10) (he : s[k] = 10 ∨ k + 1 = s.size) : restT s p = s.extract p (k + 1) :: restT s (k + 1) := by
  have hlen : ((bl s).drop p).length = s.size - p := by rw [List.length_drop, bl_len]
  have hget : ∀ i (h : i < ((bl s).drop p).length), ((bl s).drop p)[i] = s[p + i]'(by rw [hlen] at h; omega) := fun i h => by
    rw [List.getElem_drop]; rfl
  unfold restT
  rw [extract_bl]
  by_cases h10 : s[k] = 10
  · rw [lines_at ((bl s).drop p) (k - p) (by rw [hlen]; omega) (fun i h hi => by rw [hget]; exact hn _ _ (by omega) (by omega)) (by
      rw [hget]
      rw [← h10]
      congr 1
      omega)]
    rw [List.drop_drop, show k - p + 1 = k + 1 - p by omega, show p + (k + 1 - p) = k + 1 by omega]
    rfl
  · have hk1 : k + 1 = s.size := he.resolve_left h10
    rw [lines_last ((bl s).drop p) (fun e => by
      have := congrArg List.length e
      rw [hlen] at this
      simp at this
      omega) (fun i h => by
      rw [hget]
      rw [hlen] at h
      by_cases hi : p + i = k
      · intro e
        apply h10
        rw [← e]
        congr 1
        exact hi.symm
      · exact hn _ _ (by omega) (by omega))]
    rw [List.drop_of_length_le (l := bl s) (i := k + 1) (by rw [bl_len]; omega), List.take_of_length_le (by rw [hlen]; omega)]
    rfl
theorem restT_len (s : ByteArray) (p : Nat) : (restT s p).length ≤ s.size - p := by
  unfold restT
  rw [List.length_map]
  have := lines_length ((bl s).drop p)
  rw [List.length_drop, bl_len] at this
  exact this

set_option maxHeartbeats 1000000 in
set_option maxRecDepth 100000 in
/-- Split. -/
theorem split3_calls (s : ByteArray) (w : World) (hs : s.size ≤ 1000000) : Calls Tryz.prog 193 #[.string s] w fun e w' => ∃ r, e = .returned r ∧ New ES 9 w.heap.size w' r (linesT s) ∧ Ext w w' := by
  go_enter Tryz.func193, Tryz.ntmps193
  go_wp2_with fail
  go_loopw [3, 4, 5] (fun o a i wr => ∃ (k p : Nat) (acc : List ByteArray), k ≤ s.size ∧ p ≤ k ∧ acc.length ≤ p ∧ i = .int .i64 k ∧ a = .int .i64 p ∧ Hid (k = s.size → p = k) ∧ Hid (∀ j (h : j < s.size), p ≤ j → j < k → s[j] ≠ 10) ∧ Hid (linesT s = acc ++ restT s p) ∧ New ES 9 w.heap.size wr o acc ∧ Ext w wr) (fun _ _ i _ => s.size - (intOf i).toNat)
  case atStart => exact ⟨0, 0, [], Nat.zero_le _, Nat.le_refl _, Nat.le_refl _, rfl, rfl, Lib.hid fun _ => rfl, Lib.hid fun j _ _ h => by omega, Lib.hid rfl, New.nil _ _ _, Kp.refl _ _⟩
  case round =>
    obtain ⟨k, p, acc, hk, hp, hal, rfl, rfl, HE, HN, HL, hNo, hx⟩ := hrel
    rename World => wo
    obtain ⟨Ao, no, co, hvo⟩ := hNo.1.slice
    subst hvo
    by_cases hlt : k < s.size
    · have hd : decide ((k : Int) < (s.size : Int)) = true := decide_eq_true (by omega)
      have hlt' : (k : Int) < (s.size : Int) := by omega
      have h0 : (0 : Int) ≤ (k : Int) := by omega
      have hw : IntKind.i64.wrap ((k : Int) + 1) = (k : Int) + 1 := IntWalk.i64_in _ (by omega)
      have hend : ∀ (h : s[k] = 10 ∨ k + 1 = s.size), linesT s = (acc ++ [s.extract p (k + 1)]) ++ restT s (k + 1) := fun h => by
        rw [HL.out, restT_step hp hlt HN.out h, List.append_assoc]; rfl
      have HEND := Lib.hid hend
      clear hend
      have q1 : (0 : Int) ≤ (p : Int) := by omega
      have q2 : (p : Int) ≤ (k : Int) + 1 := by omega
      have q3 : (k : Int) + 1 ≤ (s.size : Int) := by omega
      have t2 : ((k : Int) + 1).toNat = k + 1 := by omega
      by_cases h10 : s[k] = 10 ∨ k + 1 = s.size
      · have HL2 := Lib.hid (HEND.out h10)
        obtain ⟨acc2, hac⟩ : ∃ l, acc ++ [s.extract p (k + 1)] = l := ⟨_, rfl⟩
        have hal2 : acc2.length ≤ k + 1 := by rw [← hac, List.length_append]; simp; omega
        by_cases e10 : s[k] = 10
        · have f0 : ((s[k].toNat : Int) == 10) = true := by rw [e10]; rfl
          clear HEND h10 e10 HL HN HE
          go_wp2_with (at_builtin; refine stop ?_)
          refine list_append1 (u := .slice (some ⟨wo.heap.size, 0, none⟩) 1 1) tiS (s.extract p (k + 1)) rfl rfl rfl hNo hx rfl rfl rfl (by omega) (by unfold maxLen; omega) ?_
          intro v' w' hN2 hx2
          rw [hac] at HL2 hN2
          go_wp2_with fail
          go_roundw
          case rel => exact ⟨k + 1, k + 1, acc2, by omega, Nat.le_refl _, hal2, by go_num, by go_num, Lib.hid fun _ => rfl, Lib.hid fun j _ h1 h2 => by omega, HL2, hN2, hx2⟩
          case measure => simp [intOf]; omega
        · have f0 : ((s[k].toNat : Int) == 10) = false := by
            have := u8_int s[k] 10
            rw [decide_eq_false e10] at this; exact this
          have hks : k + 1 = s.size := h10.resolve_left e10
          have f1 : (((k : Int) + 1) == (s.size : Int)) = true := by rw [beq_iff_eq]; omega
          have f2 : ((k : Int) + 1) = (s.size : Int) := by omega
          have f3 : decide (((k : Int) + 1) = (s.size : Int)) = true := decide_eq_true f2
          clear HEND h10 e10 HL HN HE
          have HKS := Lib.hid hks
          clear hks f2
          go_wp2_with (at_builtin; refine stop ?_)
          refine list_append1 (u := .slice (some ⟨wo.heap.size, 0, none⟩) 1 1) tiS (s.extract p (k + 1)) rfl rfl rfl hNo hx rfl rfl rfl (by omega) (by unfold maxLen; omega) ?_
          intro v' w' hN2 hx2
          rw [hac] at HL2 hN2
          go_wp2_with fail
          go_roundw
          case rel => exact ⟨k + 1, k + 1, acc2, by omega, Nat.le_refl _, hal2, by go_num, by go_num, Lib.hid fun _ => rfl, Lib.hid fun j _ h1 h2 => by omega, HL2, hN2, hx2⟩
          case measure => simp [intOf]; omega
      · have e10 : ¬ s[k] = 10 := fun h => h10 (.inl h)
        have eks : ¬ k + 1 = s.size := fun h => h10 (.inr h)
        have f0 : ((s[k].toNat : Int) == 10) = false := by
          have := u8_int s[k] 10
          rw [decide_eq_false e10] at this; exact this
        have f1 : (((k : Int) + 1) == (s.size : Int)) = false := by rw [beq_eq_false_iff_ne]; omega
        have f2 : ¬ ((k : Int) + 1) = (s.size : Int) := by omega
        have f3 : decide (((k : Int) + 1) = (s.size : Int)) = false := decide_eq_false f2
        have f4 : (k + 1 == s.size) = false := by rw [beq_eq_false_iff_ne]; exact eks
        have HN2 : Hid (∀ j (h : j < s.size), p ≤ j → j < k + 1 → s[j] ≠ 10) := Lib.hid fun j hj h1 h2 => by
          by_cases e : j = k
          · subst e; exact e10
          · exact HN.out j hj h1 (by omega)
        have HE2 : Hid (k + 1 = s.size → p = k + 1) := Lib.hid fun h => absurd h eks
        clear HEND h10 e10 HN HE
        go_wp2_with fail
        go_roundw
        case rel => exact ⟨k + 1, p, acc, by omega, by omega, hal, by go_num, by go_num, HE2, HN2, HL, hNo, hx⟩
        case measure => simp [intOf]; omega
    · have hd : decide ((k : Int) < (s.size : Int)) = false := decide_eq_false (by omega)
      have hd2 : decide (k < s.size) = false := decide_eq_false hlt
      have HF : Hid (linesT s = acc) := Lib.hid (by
        rw [HL.out, restT_end s (by have := HE.out (by omega); omega), List.append_nil])
      clear HE HN HL
      go_wp2_with fail
      go_ret
      exact ⟨_, rfl, by rw [HF.out]; exact hNo, hx⟩

theorem binary_iff (s : ByteArray) : binaryB s = decide (∃ i, ∃ h : i < s.size, s[i] = 0) := by
  have key : ∀ l : List UInt8, (0 ≤ Lib.indexByte l 0) ↔ ∃ i, ∃ h : i < l.length, l[i] = 0 := by
    intro l
    induction l with
    | nil =>
      constructor
      · intro h; simp [Lib.indexByte] at h
      · rintro ⟨i, h, _⟩; simp at h
    | cons x xs ih =>
      unfold Lib.indexByte
      by_cases hx : x = 0
      · subst hx
        constructor
        · intro _; exact ⟨0, by simp, rfl⟩
        · intro _; simp
      · rw [if_neg (by simpa using hx)]
        have hg := Lib.indexByte_ge xs 0
        by_cases hq : Lib.indexByte xs 0 = -1
        · rw [if_pos (by simpa using hq)]
          constructor
          · intro h; omega
          · rintro ⟨i, h, e⟩
            rcases i with _ | i
            · exact absurd e hx
            · have := ih.2 ⟨i, by simpa using h, by simpa using e⟩
              omega
        · rw [if_neg (by simpa using hq)]
          constructor
          · intro _
            obtain ⟨i, h, e⟩ := ih.1 (by omega)
            exact ⟨i + 1, by simpa using h, by simpa using e⟩
          · intro _; omega
  unfold binaryB
  exact decide_eq_decide.2 (key (bl s))

set_option maxHeartbeats 1000000 in
/-- Binary. -/
theorem binary3_calls (s : ByteArray) (w : World) (hs : s.size ≤ 1000000) : Calls Tryz.prog 217 #[.string s] w fun e w' => e = .returned (.bool (binaryB s)) ∧ w = w' := by
  have HB := Lib.hid (binary_iff s)
  go_enter Tryz.func217, Tryz.ntmps217
  go_wp2_with fail
  go_loopw [3] (fun i wr => ∃ k : Nat, k ≤ s.size ∧ i = .int .i64 k ∧ Hid (∀ j (h : j < s.size), j < k → s[j] ≠ 0) ∧ w = wr) (fun i _ => s.size - (intOf i).toNat)
  case atStart => exact ⟨0, Nat.zero_le _, rfl, Lib.hid fun j _ h => by omega, rfl⟩
  case round =>
    obtain ⟨k, hk, rfl, HN, rfl⟩ := hrel
    by_cases hlt : k < s.size
    · have hd : decide ((k : Int) < (s.size : Int)) = true := decide_eq_true (by omega)
      have hlt' : (k : Int) < (s.size : Int) := by omega
      have h0 : (0 : Int) ≤ (k : Int) := by omega
      have hw : IntKind.i64.wrap ((k : Int) + 1) = (k : Int) + 1 := IntWalk.i64_in _ (by omega)
      by_cases e0 : s[k] = 0
      · have f0 : ((s[k].toNat : Int) == 0) = true := by rw [e0]; rfl
        have HR : Hid (binaryB s = true) := Lib.hid (by rw [HB.out]; exact decide_eq_true ⟨k, hlt, e0⟩)
        have f1 : s[k].toNat = 0 := by rw [e0]; rfl
        clear HB HN e0
        go_wp2_with fail
        go_ret
        exact ⟨by rw [HR.out]; rfl, rfl⟩
      · have f0 : ((s[k].toNat : Int) == 0) = false := by
          have := u8_int s[k] 0
          rw [decide_eq_false e0] at this; exact this
        have f1 : ¬ s[k].toNat = 0 := fun h => e0 (UInt8.toNat_inj.1 h)
        have f2 : (s[k].toNat == 0) = false := by rw [beq_eq_false_iff_ne]; exact f1
        have HN2 : Hid (∀ j (h : j < s.size), j < k + 1 → s[j] ≠ 0) := Lib.hid fun j hj h2 => by
          by_cases e : j = k
          · subst e; exact e0
          · exact HN.out j hj (by omega)
        clear HN e0
        go_wp2_with fail
        go_roundw
        case rel => exact ⟨k + 1, by omega, by go_num, HN2, by first | rfl | trivial⟩
        case measure => simp [intOf]; omega
    · have hd : decide ((k : Int) < (s.size : Int)) = false := decide_eq_false (by omega)
      have hd2 : decide (k < s.size) = false := decide_eq_false hlt
      have HR : Hid (binaryB s = false) := Lib.hid (by
        rw [HB.out]
        exact decide_eq_false fun ⟨i, h, e⟩ => HN.out i h (by omega) e)
      clear HB HN
      go_wp2_with fail
      go_ret
      exact ⟨by rw [HR.out]; rfl, rfl⟩

/-- Few. -/
theorem few3_calls (s : ByteArray) (w : World) (hs : s.size ≤ 1000000) : Calls Tryz.prog 218 #[.string s] w fun e w' => e = .returned (.bool (fewB s)) ∧ Ext w w' := by
  have HS := Lib.hid (split3_calls s w hs)
  unfold fewB
  obtain ⟨n, hn⟩ : ∃ n, (linesT s).length = n := ⟨_, rfl⟩
  have HN := Lib.hid hn
  rw [hn]
  clear hn
  go_enter Tryz.func218, Tryz.ntmps218
  go_wp2_with fail
  refine HS.out.mono ?_
  rintro e w1 ⟨r, rfl, hN, hx⟩
  obtain ⟨A, c, hr, _⟩ := hN.1.rd
  subst hr
  rw [HN.out]
  go_wp2_with fail
  go_ret
  exact ⟨by simp; omega, hx⟩

theorem strCells_snoc (xs : List ByteArray) (x : ByteArray) : Lib.strCells (joinT (xs ++ [x])) = Lib.strCells (joinT xs) ++ Lib.strCells x := by
  unfold Lib.strCells joinT
  simp [lb, bl]
theorem joinT_nil : joinT [] = ⟨#[]⟩ := rfl
theorem strCells_nil : Lib.strCells ⟨#[]⟩ = [] := rfl
theorem joinT_size (xs : List ByteArray) (x : ByteArray) : (joinT (xs ++ [x])).size = (joinT xs).size + x.size := by
  have h := congrArg List.length (strCells_snoc xs x)
  rw [List.length_append, Lib.strCells_length, Lib.strCells_length, Lib.strCells_length] at h
  exact h
theorem joinT_le (n : Nat) (xs : List ByteArray) (h : ∀ x ∈ xs, x.size ≤ n) : (joinT xs).size ≤ xs.length * n := flat_le n xs h

theorem conv_back (w : World) (base : Nat) (v : Value) (s : ByteArray) (h : World.ownsRow w base 5 1 v s.size (Lib.strCells s)) : (convert 83 9 v).run Tryz.prog w = .ok (.string s) w := by
  obtain ⟨hl, h2⟩ := h
  rcases h2 with ⟨rfl, hz⟩ | ⟨g, cap, cur, rfl, hb, hg, hnc, hcm, hcs, htake⟩
  · rw [run_convert_bytes_nil w 83 5 Tryz.underlying83 Tryz.underlying5 0 0 9 Tryz.underlying9]
    have : s = ByteArray.empty := by
      apply ByteArray.ext
      exact Array.eq_empty_of_size_eq_zero hz
    rw [this]
  · have h := run_convert_bytes_back (P := Tryz.prog) w 83 9 5 ⟨g, 0, none⟩ cap (bl (s)) Tryz.underlying83 Tryz.underlying5 Tryz.underlying9 (fun j hj => by
      rw [show (⟨g, 0, none⟩ : Addr).add j = ⟨g, j, none⟩ by unfold Addr.add; split <;> simp_all]
      rw [cell_of_row w g j cur 5 (0, 0) hg]
      have ht : (Lib.strCells (s))[j]? = some (.int .u8 ((bl (s))[j].toNat : Int)) := by
        unfold Lib.strCells
        rw [List.getElem?_map]
        show Option.map _ ((bl (s))[j]?) = _
        rw [List.getElem?_eq_getElem hj]
        rfl
      rw [← htake, List.getElem?_take] at ht
      split at ht
      · simpa using ht
      · cases ht)
    have e : (bl (s)).length = (s).size := rfl
    rw [e] at h
    rw [h]

set_option maxHeartbeats 1000000 in
/-- Join. -/
theorem join3_calls (v : Value) (xs : List ByteArray) (S : Fp) (w : World) (hR : Rd ES S w v xs) (hn : xs.length ≤ 1000000) (hz : ∀ x ∈ xs, x.size ≤ 100000) :
    Calls Tryz.prog 194 #[v] w fun e w' => e = .returned (.string (joinT xs)) ∧ Ext w w' := by
  obtain ⟨A, c, rfl, hO⟩ := hR.open_
  have HO := Lib.hid fun W (hW : Ext w W) => hO.kp (hW.mono fun _ _ _ => trivial)
  obtain ⟨n, hln⟩ : ∃ n, xs.length = n := ⟨_, rfl⟩
  have HN := Lib.hid hln
  have HZ := Lib.hid hz
  rw [hln] at hn ⊢
  clear hR hO hz hln
  obtain ⟨ti, ti1, ti2, ti3, ti4⟩ := info_parts (show (Tryz.prog.info? 5).map (fun i => (i.zero, i.size, i.bytes)) = some (some (.int .u8 0), 1, 1) by kernel_rfl)
  go_enter Tryz.func194, Tryz.ntmps194
  go_wp2_with fail
  go_loopw [3, 4] (fun o i wr => ∃ k : Nat, k ≤ n ∧ i = .int .i64 k ∧ Hid (World.ownsRow wr w.heap.size 5 1 o (joinT (xs.take k)).size (Lib.strCells (joinT (xs.take k)))) ∧ Hid (∀ g, o.ownBlock = some g → w.heap.size ≤ g) ∧ Ext w wr) (fun _ i _ => n - (intOf i).toNat)
  case atStart => exact ⟨0, Nat.zero_le _, rfl, Lib.hid (World.ownsRow_nil w w.heap.size 5 1), Lib.hid (fun g h => by cases h), Kp.refl _ _⟩
  case round =>
    obtain ⟨k, hk, rfl, HW, HG, hx⟩ := hrel
    rename World => wo
    by_cases hlt : k < n
    · have hd : decide ((k : Int) < (n : Int)) = true := decide_eq_true (by omega)
      have hkx : k < xs.length := by have := HN.out; omega
      obtain ⟨b, off, rfl, _, hb, c0⟩ := (HO.out wo hx).rd.text hkx
      have HSZ := Lib.hid (joinT_le 100000 (xs.take k) fun x hx => HZ.out x (List.mem_of_mem_take hx))
      have hxz := HZ.out xs[k] (List.getElem_mem hkx)
      have HST : Hid (joinT (xs.take (k + 1)) = joinT (xs.take k ++ [xs[k]])) := Lib.hid (by rw [take_snoc xs hkx])
      obtain ⟨x, hxx⟩ : ∃ x, xs[k] = x := ⟨_, rfl⟩
      rw [hxx] at c0 hxz HST
      have HTL : Hid ((xs.take k).length ≤ 1000000) := Lib.hid (by rw [List.length_take]; omega)
      have hbd : Hid ((joinT (xs.take k)).size ≤ 100000000000) := Lib.hid (by have h1 := HSZ.out; have h2 := HTL.out; have h3 := Nat.mul_le_mul_right 100000 h2; omega)
      have hlt' : (k : Int) < (n : Int) := by omega
      have h0 : (0 : Int) ≤ (k : Int) := by omega
      have hw : IntKind.i64.wrap ((k : Int) + 1) = (k : Int) + 1 := IntWalk.i64_in _ (by omega)
      clear hkx hxx HSZ HTL
      go_wp2_with (at_builtin; refine stop ?_)
      refine Lib.wpList_append_own_string (P := Tryz.prog) wo rfl _ _ 83 9 rfl w.heap.size 5 ti Tryz.underlying83 Tryz.underlying9 ti1 ti2 ti3 ti4 _ _ _ rfl HW.out x rfl (by have := hbd.out; unfold maxLen; omega) (by have := hbd.out; omega) hx.size ?_
      intro v' w' hW2 hgr hnil
      have hx2 : Ext w w' := hx.grown hgr fun k hk => .inl (HG.out k hk)
      have HG2 : Hid (∀ g, v'.ownBlock = some g → w.heap.size ≤ g) := Lib.hid fun g hg => (World.ownsRow.lt hW2 g hg).1
      have HW2 : Hid (World.ownsRow w' w.heap.size 5 1 v' (joinT (xs.take (k + 1))).size (Lib.strCells (joinT (xs.take (k + 1))))) := Lib.hid (by
        rw [HST.out, strCells_snoc, joinT_size]; exact hW2)
      clear HW HG hW2 hgr hnil hx
      go_wp2_with fail
      go_roundw
      case rel => exact ⟨k + 1, by omega, by go_num, HW2, HG2, hx2⟩
      case measure => simp [intOf]; omega
    · have hd : decide ((k : Int) < (n : Int)) = false := decide_eq_false (by omega)
      have hd2 : decide (k < n) = false := decide_eq_false hlt
      have hcv := conv_back wo _ _ (joinT xs) (by have h := HW.out; rw [List.take_of_length_le (by have := HN.out; omega)] at h; exact h)
      clear HW HG
      go_wp2_with fail
      go_ret
      exact ⟨rfl, hx⟩

end Go.Proofs.YtgjbfkaepalkiaaGreatDoor

namespace Go.Proofs.YtgjbfkaepalkiaaGreatDoor
open Go.RowKit
set_option linter.unusedVariables false
set_option linter.unusedSimpArgs false
attribute [local go_sem] Oper.semAt_some

set_option maxHeartbeats 2000000 in
/-- Merge. -/
theorem merge5_calls (v1 v2 v3 : Value) (xs ys zs : List ByteArray) (S : Fp) (w : World) (hA : Rd ES S w v1 xs) (hB : Rd ES S w v2 ys) (hC : Rd ES S w v3 zs) (h1 : xs.length ≤ 400) (h2 : ys.length ≤ 400) (h3 : zs.length ≤ 400) :
    Calls Tryz.prog 192 #[v1, v2, v3] w (MergePost w (mergeL xs ys zs)) := by
  have hP := parts5_calls v1 v2 v3 xs ys zs S w hA hB hC h1 h2 h3
  have hle := partsF_le xs ys zs
  have hpl := partsF_length xs ys zs
  have hM : mergeL xs ys zs = if (partsF xs ys zs).any Pt.conflict = true then none else some ((partsF xs ys zs).flatMap chosenF) := rfl
  obtain ⟨mg, hmg⟩ : ∃ m, mergeL xs ys zs = m := ⟨_, rfl⟩
  obtain ⟨ps, hps⟩ : ∃ m, partsF xs ys zs = m := ⟨_, rfl⟩
  rw [hmg] at hM ⊢
  rw [hps] at hP hle hpl hM
  have hch : ∀ q ∈ ps, (chosenF q).length ≤ 400 := fun q hq => chosenF_le (hle q hq) h2 h3
  have hpl2 : ps.length ≤ 803 := by omega
  obtain ⟨A1, c1, rfl, _⟩ := hA.open_
  obtain ⟨A2, c2, rfl, _⟩ := hB.open_
  obtain ⟨A3, c3, rfl, _⟩ := hC.open_
  obtain ⟨na, hna⟩ : ∃ n, xs.length = n := ⟨_, rfl⟩
  obtain ⟨nb, hnb⟩ : ∃ n, ys.length = n := ⟨_, rfl⟩
  obtain ⟨nc, hnc⟩ : ∃ n, zs.length = n := ⟨_, rfl⟩
  rw [hna, hnb, hnc] at hP ⊢
  rw [hna] at h1
  rw [hnb] at h2
  rw [hnc] at h3
  have hd1 : decide ((400 : Int) < (na : Int)) = false := decide_eq_false (by omega)
  have hd2 : decide ((400 : Int) < (nb : Int)) = false := decide_eq_false (by omega)
  have hd3 : decide ((400 : Int) < (nc : Int)) = false := decide_eq_false (by omega)
  have HP := Lib.hid hP
  have HM := Lib.hid hM
  have HCH := Lib.hid hch
  clear hA hB hC hP hle hpl hM hmg hps hch hna hnb hnc
  go_enter Tryz.func192, Tryz.ntmps192
  go_wp2_with fail
  refine HP.out.mono ?_
  clear HP
  rintro e w1 ⟨r, rows, rfl, hN, hRp, hx1⟩
  obtain ⟨B, d, hr, hO⟩ := hN.rd.open_
  subst hr
  have hrl := hRp.len
  obtain ⟨n, hn⟩ : ∃ n, rows.length = n := ⟨_, rfl⟩
  have hn8 : n ≤ 803 := by omega
  rw [hn]
  have HNN := Lib.hid hn
  have HRL := Lib.hid hrl
  have HO := Lib.hid fun W (hW : Ext w1 W) => hO.kp (hW.mono fun _ _ _ => trivial)
  have HRP := Lib.hid fun W (hW : Ext w1 W) => RepR.ext hW hRp
  clear hN hRp hO hn hrl hd1 hd2 hd3
  go_wp2_with fail
  go_loopw [9, 10] (fun o i wr => ∃ k : Nat, k ≤ n ∧ i = .int .i64 k ∧ (ps.take k).any Pt.conflict = false ∧ New ES 9 w1.heap.size wr o ((ps.take k).flatMap chosenF) ∧ Ext w1 wr) (fun _ i _ => n - (intOf i).toNat)
  case atStart => exact ⟨0, Nat.zero_le _, rfl, rfl, New.nil _ _ _, Kp.refl _ _⟩
  case round =>
    obtain ⟨k, hk, rfl, hno, hN, hx⟩ := hrel
    rename World => wo
    by_cases hlt : k < n
    · have hd : decide ((k : Int) < (n : Int)) = true := decide_eq_true (by omega)
      have hkr : k < rows.length := by have := HNN.out; omega
      have hkp : k < ps.length := by have := HRL.out; omega
      obtain ⟨b, off, rfl, _, hb, e0, e1, e2, e3⟩ := (HO.out wo hx).rd.part hkr
      have hrep := RepR.get (HRP.out wo hx) k hkr hkp
      have hfl := flatMap_le chosenF 400 (ps.take k) fun q hq => HCH.out q (List.mem_of_mem_take hq)
      have htl : (ps.take k).length ≤ 803 := by rw [List.length_take]; omega
      have hfl2 : ((ps.take k).flatMap chosenF).length ≤ 321200 := Nat.le_trans hfl (Nat.le_trans (Nat.mul_le_mul_right 400 htl) (by decide))
      have hcl := HCH.out _ (List.getElem_mem hkp)
      have HAN : Hid ((ps.take (k + 1)).any Pt.conflict = ps[k].conflict) := Lib.hid (by rw [take_snoc ps hkp, List.any_append, hno]; simp)
      have HFM : Hid ((ps.take (k + 1)).flatMap chosenF = (ps.take k).flatMap chosenF ++ chosenF ps[k]) := Lib.hid (by rw [take_snoc ps hkp, List.flatMap_append]; simp)
      have HAY : Hid (ps[k].conflict = true → ps.any Pt.conflict = true) := Lib.hid fun h => List.any_eq_true.2 ⟨_, List.getElem_mem hkp, h⟩
      obtain ⟨row, hrow⟩ : ∃ r, rows[k] = r := ⟨_, rfl⟩
      obtain ⟨q, hq⟩ : ∃ r, ps[k] = r := ⟨_, rfl⟩
      obtain ⟨fm, hfm⟩ : ∃ r, (ps.take k).flatMap chosenF = r := ⟨_, rfl⟩
      rw [hrow] at e0 e1 e2 e3 hrep
      rw [hq] at hrep HAN HFM HAY hcl
      rw [hfm] at HFM hN hfl2
      obtain ⟨pc, ⟨P1, m1, k1⟩, ⟨P2, m2, k2⟩, ⟨P3, m3, k3⟩⟩ := row
      dsimp only [SliceV.val] at e0 e1 e2 e3
      obtain ⟨hpc, hr1, hr2, hr3⟩ := hrep
      dsimp only [SliceV.val] at hpc hr1 hr2 hr3
      have hlt' : (k : Int) < (n : Int) := by omega
      have h0 : (0 : Int) ≤ (k : Int) := by omega
      have hw : IntKind.i64.wrap ((k : Int) + 1) = (k : Int) + 1 := IntWalk.i64_in _ (by omega)
      have HFL : Hid (fm.length ≤ 321200 ∧ (chosenF q).length ≤ 400) := Lib.hid ⟨hfl2, hcl⟩
      have HPC := Lib.hid hpc
      obtain ⟨Ao, no, co, ho⟩ := hN.1.slice
      subst ho
      clear hkr hkp hfl htl hfl2 hcl hrow hq hfm hpc hno
      cases pc with
      | true =>
        have HM2 : Hid (mg = none) := Lib.hid (by rw [HM.out, if_pos (HAY.out HPC.out.symm)])
        clear hr1 hr2 hr3 HAN HFM HAY
        go_wp2_with fail
        go_returns
        rw [HM2.out]
        exact ⟨_, rfl, New.nil _ _ _, (hx1.trans hx).alloc _⟩
      | false =>
        have hxo : Ext wo (wo.alloc (.cells #[.bool false, .slice P1 m1 k1, .slice P2 m2 k2, .slice P3 m3 k3] 228)) := (Kp.refl _ wo).alloc _
        have hBx := Blk.new wo 228 #[.bool false, .slice P1 m1 k1, .slice P2 m2 k2, .slice P3 m3 k3]
        have HS1 := Lib.hid fun W (hW : Ext wo W) => same4_calls _ _ _ _ S S W (hr2.kp (hW.mono fun _ _ _ => trivial)) (hr3.kp (hW.mono fun _ _ _ => trivial))
        have HS2 := Lib.hid fun W (hW : Ext wo W) => same4_calls _ _ _ _ S S W (hr3.kp (hW.mono fun _ _ _ => trivial)) (hr1.kp (hW.mono fun _ _ _ => trivial))
        have HRA := Lib.hid fun W (hW : Ext wo W) => hr2.kp (w' := W) (hW.mono fun _ _ _ => trivial)
        have HRB := Lib.hid fun W (hW : Ext wo W) => hr3.kp (w' := W) (hW.mono fun _ _ _ => trivial)
        have HCHO : Hid (chosenF q = if (sameT q.a q.b || sameT q.b q.base) = true then q.a else q.b) := Lib.hid rfl
        obtain ⟨cq, hcq⟩ : ∃ c, chosenF q = c := ⟨_, rfl⟩
        rw [hcq] at HCHO HFM HFL
        obtain ⟨sa, hsa⟩ : ∃ c, sameT q.a q.b = c := ⟨_, rfl⟩
        obtain ⟨sb, hsb⟩ : ∃ c, sameT q.b q.base = c := ⟨_, rfl⟩
        rw [hsa] at HS1 HCHO
        rw [hsb] at HS2 HCHO
        clear hr1 hr2 hr3 hcq hsa hsb HAY
        have HFIN : Hid (∀ (xl : List ByteArray) (W : World) (v' : Value), cq = xl → New ES 9 w1.heap.size W v' (fm ++ xl) → New ES 9 w1.heap.size W v' ((ps.take (k + 1)).flatMap chosenF)) := Lib.hid fun xl W v' h h' => by rw [HFM.out, h]; exact h'
        have HA2 : Hid ((ps.take (k + 1)).any Pt.conflict = false) := Lib.hid (by rw [HAN.out]; exact HPC.out.symm)
        go_wp2_with fail
        refine (HS1.out _ hxo).mono ?_
        rintro e w3 ⟨rfl, hx3⟩
        have hB3 := hBx.ext hx3
        have hxo3 := hxo.trans hx3
        have y1 : w3.cell? ⟨wo.heap.size, 1, none⟩ = some (.slice P1 m1 k1) := hB3.cell 1
        have y2 : w3.cell? ⟨wo.heap.size, 2, none⟩ = some (.slice P2 m2 k2) := hB3.cell 2
        have y3 : w3.cell? ⟨wo.heap.size, 3, none⟩ = some (.slice P3 m3 k3) := hB3.cell 3
        have hN3 := hN.ext hxo3
        have hx13 := hx.trans hxo3
        clear hxo hBx hx3 hN hx e0 e1 e2 e3 HS1
        cases sa with
        | true =>
          have HE : Hid (cq = q.a) := Lib.hid (by rw [HCHO.out]; rfl)
          have hRA := Lib.hid (HRA.out w3 hxo3)
          have HLE : Hid (q.a.length ≤ 400) := Lib.hid (by rw [← HE.out]; exact HFL.out.2)
          clear HS2 HRA HRB
          go_wp2_with (at_builtin; refine stop ?_)
          refine list_append_k (n := w1.heap.size) tiS rfl rfl hN3 hx13.size hRA.out rfl rfl (by have := HFL.out.1; have := HLE.out; omega) (by have := HFL.out.1; have := HLE.out; unfold maxLen; omega) ?_
          intro v' w' hN4 hk4
          have hx4 : Ext w1 w' := hx13.trans' hk4 fun k hk _ e => by have := hN3.2 k e; omega
          have hN5 := HFIN.out _ _ _ HE.out hN4
          go_wp2_with fail
          go_roundw
          case rel => exact ⟨k + 1, by omega, by go_num, HA2.out, hN5, hx4⟩
          case measure => simp [intOf]; omega
        | false =>
          go_wp2_with fail
          refine (HS2.out _ hxo3).mono ?_
          rintro e w4 ⟨rfl, hx4'⟩
          have hB4 := hB3.ext hx4'
          have hxo4 := hxo3.trans hx4'
          have z2 : w4.cell? ⟨wo.heap.size, 2, none⟩ = some (.slice P2 m2 k2) := hB4.cell 2
          have z3 : w4.cell? ⟨wo.heap.size, 3, none⟩ = some (.slice P3 m3 k3) := hB4.cell 3
          have hN4' := hN3.ext hx4'
          have hx14 := hx13.trans hx4'
          clear y1 y2 y3 hB3 hN3 hx13 hx4' hxo3 HS2
          cases sb with
          | true =>
            have HE : Hid (cq = q.a) := Lib.hid (by rw [HCHO.out]; rfl)
            have hRA := Lib.hid (HRA.out w4 hxo4)
            have HLE : Hid (q.a.length ≤ 400) := Lib.hid (by rw [← HE.out]; exact HFL.out.2)
            clear HRA HRB
            go_wp2_with (at_builtin; refine stop ?_)
            refine list_append_k (n := w1.heap.size) tiS rfl rfl hN4' hx14.size hRA.out rfl rfl (by have := HFL.out.1; have := HLE.out; omega) (by have := HFL.out.1; have := HLE.out; unfold maxLen; omega) ?_
            intro v' w' hN4 hk4
            have hx4 : Ext w1 w' := hx14.trans' hk4 fun k hk _ e => by have := hN4'.2 k e; omega
            have hN5 := HFIN.out _ _ _ HE.out hN4
            go_wp2_with fail
            go_roundw
            case rel => exact ⟨k + 1, by omega, by go_num, HA2.out, hN5, hx4⟩
            case measure => simp [intOf]; omega
          | false =>
            have HE : Hid (cq = q.b) := Lib.hid (by rw [HCHO.out]; rfl)
            have hRB := Lib.hid (HRB.out w4 hxo4)
            have HLE : Hid (q.b.length ≤ 400) := Lib.hid (by rw [← HE.out]; exact HFL.out.2)
            clear HRA HRB
            go_wp2_with (at_builtin; refine stop ?_)
            refine list_append_k (n := w1.heap.size) tiS rfl rfl hN4' hx14.size hRB.out rfl rfl (by have := HFL.out.1; have := HLE.out; omega) (by have := HFL.out.1; have := HLE.out; unfold maxLen; omega) ?_
            intro v' w' hN4 hk4
            have hx4 : Ext w1 w' := hx14.trans' hk4 fun k hk _ e => by have := hN4'.2 k e; omega
            have hN5 := HFIN.out _ _ _ HE.out hN4
            go_wp2_with fail
            go_roundw
            case rel => exact ⟨k + 1, by omega, by go_num, HA2.out, hN5, hx4⟩
            case measure => simp [intOf]; omega
    · have hd : decide ((k : Int) < (n : Int)) = false := decide_eq_false (by omega)
      have hall : ps.take k = ps := List.take_of_length_le (by have := HNN.out; have := HRL.out; omega)
      rw [hall] at hno hN
      have HM2 : Hid (mg = some (ps.flatMap chosenF)) := Lib.hid (by rw [HM.out, if_neg (by rw [hno]; simp)])
      obtain ⟨Ao, no, co, ho⟩ := hN.1.slice
      subst ho
      have HN := Lib.hid hN
      clear hall hno hN
      go_wp2_with fail
      go_returns
      rw [HM2.out]
      exact ⟨_, rfl, HN.out.less hx1.size, hx1.trans hx⟩

end Go.Proofs.YtgjbfkaepalkiaaGreatDoor

namespace Go.Proofs.YtgjbfkaepalkiaaGreatDoor
open Go.RowKit
set_option linter.unusedVariables false
set_option linter.unusedSimpArgs false
attribute [local go_sem] Oper.semAt_some

theorem odd6_calls (s : ByteArray) (w : World) (hsz : s.size ≤ 1000000) : Calls Tryz.prog 191 #[.string s] w fun e w' => e = .returned (.bool (oddT s)) ∧ Ext w w' := by
  have hF := few3_calls s w hsz
  have hB := binary3_calls s w hsz
  unfold oddT
  generalize fewB s = q at hF ⊢
  generalize binaryB s = r at hB ⊢
  have HF := Lib.hid hF
  have HB := Lib.hid hB
  clear hF hB
  go_enter Tryz.func191, Tryz.ntmps191
  go_wp2_with fail
  refine HB.out.mono ?_
  rintro e w1 ⟨rfl, rfl⟩
  cases r with
  | true =>
    go_wp2_with fail
    go_ret
    exact ⟨rfl, Kp.refl _ _⟩
  | false =>
    go_wp2_with fail
    refine HF.out.mono ?_
    rintro e w1 ⟨rfl, hx⟩
    go_wp2_with fail
    go_ret
    exact ⟨by cases q <;> rfl, hx⟩

set_option maxHeartbeats 2000000 in
/-- Merge. -/
theorem merge6_calls (o a b : ByteArray) (ho : o.size ≤ 400) (ha : a.size ≤ 400) (hb : b.size ≤ 400) (w : World) :
    Calls Tryz.prog 165 #[.string o, .string a, .string b] w fun e w' => e = .returned (.tuple #[.string ((textM o a b).getD ⟨#[]⟩), .bool (textM o a b).isSome]) ∧ Ext w w' := by
  have HT : textM o a b = if (eqT a b || eqT b o) = true then some a else if eqT a o = true then some b else if ([o, a, b].any oddT) = true then none else match mergeL (linesT o) (linesT a) (linesT b) with
    | none => none
    | some l => if (joinT l).size ≤ 400 then some (joinT l) else none := rfl
  obtain ⟨tm, htm⟩ : ∃ t, textM o a b = t := ⟨_, rfl⟩
  rw [htm] at HT ⊢
  have q1 : (a.toList == b.toList) = eqT a b := rfl
  have q2 : (b.toList == o.toList) = eqT b o := rfl
  have q3 : (a.toList == o.toList) = eqT a o := rfl
  generalize eqT a b = e1 at q1 HT
  generalize eqT b o = e2 at q2 HT
  generalize eqT a o = e3 at q3 HT
  have HTT := Lib.hid HT
  clear htm HT
  cases e1 with
  | true =>
    have h : tm = some a := HTT.out
    subst h
    clear HTT
    go_enter Tryz.func165, Tryz.ntmps165
    go_wp2_with fail
    go_returns
    exact ⟨rfl, Kp.refl _ _⟩
  | false =>
    cases e2 with
    | true =>
      have h : tm = some a := HTT.out
      subst h
      clear HTT
      go_enter Tryz.func165, Tryz.ntmps165
      go_wp2_with fail
      go_returns
      exact ⟨rfl, Kp.refl _ _⟩
    | false =>
      cases e3 with
      | true =>
        have h : tm = some b := HTT.out
        subst h
        clear HTT
        go_enter Tryz.func165, Tryz.ntmps165
        go_wp2_with fail
        go_returns
        exact ⟨rfl, Kp.refl _ _⟩
      | false =>
        have HT2 : Hid (tm = if ([o, a, b].any oddT) = true then none else match mergeL (linesT o) (linesT a) (linesT b) with
          | none => none
          | some l => if (joinT l).size ≤ 400 then some (joinT l) else none) := Lib.hid HTT.out
        have HO1 := Lib.hid fun W => odd6_calls o W (by omega)
        have HO2 := Lib.hid fun W => odd6_calls a W (by omega)
        have HO3 := Lib.hid fun W => odd6_calls b W (by omega)
        obtain ⟨d1, hd1⟩ : ∃ x, oddT o = x := ⟨_, rfl⟩
        obtain ⟨d2, hd2⟩ : ∃ x, oddT a = x := ⟨_, rfl⟩
        obtain ⟨d3, hd3⟩ : ∃ x, oddT b = x := ⟨_, rfl⟩
        rw [hd1] at HO1
        rw [hd2] at HO2
        rw [hd3] at HO3
        have hod : [o, a, b].any oddT = (d1 || (d2 || d3)) := by simp [hd1, hd2, hd3]
        rw [hod] at HT2
        have HL1 := Lib.hid fun W => split3_calls o W (by omega)
        have HL2 := Lib.hid fun W => split3_calls a W (by omega)
        have HL3 := Lib.hid fun W => split3_calls b W (by omega)
        have hl1 := linesT_length o
        have hl2 := linesT_length a
        have hl3 := linesT_length b
        have HLL : Hid ((linesT o).length ≤ 400 ∧ (linesT a).length ≤ 400 ∧ (linesT b).length ≤ 400) := Lib.hid ⟨by omega, by omega, by omega⟩
        have hs2 := linesT_sub a
        have hs3 := linesT_sub b
        have HSS : Hid (∀ l, mergeL (linesT o) (linesT a) (linesT b) = some l → (∀ x ∈ l, x.size ≤ 400) ∧ l.length ≤ 1000000) := Lib.hid fun l hl => by
          obtain ⟨m1, m2⟩ := mergeL_in hl
          refine ⟨fun x hx => ?_, ?_⟩
          · rcases m1 x hx with h | h
            · exact Nat.le_trans (hs2 x h) ha
            · exact Nat.le_trans (hs3 x h) hb
          · have h2 := m2 400 (by omega) (by omega)
            have h3 : (2 * (linesT o).length + 3) * 400 ≤ 803 * 400 := Nat.mul_le_mul_right 400 (by omega)
            omega
        clear HTT hod hd1 hd2 hd3 hl1 hl2 hl3 hs2 hs3 ho ha hb
        go_enter Tryz.func165, Tryz.ntmps165
        go_wp2_with fail
        refine (HO1.out _).mono ?_
        rintro e w1 ⟨rfl, hx1⟩
        clear HO1
        cases d1 with
        | true =>
          have h : tm = none := HT2.out
          subst h
          clear HT2 HL1 HL2 HL3 HLL HSS
          go_wp2_with fail
          go_returns
          exact ⟨rfl, hx1⟩
        | false =>
          go_wp2_with fail
          refine (HO2.out _).mono ?_
          rintro e w1 ⟨rfl, hy1⟩
          replace hx1 := hx1.trans hy1
          clear HO2 hy1
          cases d2 with
          | true =>
            have h : tm = none := HT2.out
            subst h
            clear HT2 HL1 HL2 HL3 HLL HSS
            go_wp2_with fail
            go_returns
            exact ⟨rfl, hx1⟩
          | false =>
            go_wp2_with fail
            refine (HO3.out _).mono ?_
            rintro e w1 ⟨rfl, hy1⟩
            replace hx1 := hx1.trans hy1
            clear HO3 hy1
            cases d3 with
            | true =>
              have h : tm = none := HT2.out
              subst h
              clear HT2 HL1 HL2 HL3 HLL HSS
              go_wp2_with fail
              go_returns
              exact ⟨rfl, hx1⟩
            | false =>
              have HT3 : Hid (tm = match mergeL (linesT o) (linesT a) (linesT b) with
                | none => none
                | some l => if (joinT l).size ≤ 400 then some (joinT l) else none) := Lib.hid HT2.out
              clear HT2
              go_wp2_with fail
              refine (HL1.out _).mono ?_
              rintro e w2 ⟨u1, rfl, hN1, hx2⟩
              obtain ⟨B1, n1, d1, hu1⟩ := hN1.1.slice
              subst hu1
              have N1 := Lib.hid fun W (hW : Ext w2 W) => (hN1.ext hW).rd.wide (T := fun k => k < W.heap.size ∨ True) fun _ _ => .inr trivial
              have M1 := Lib.hid hN1
              clear hN1 HL1
              go_wp2_with fail
              refine (HL2.out _).mono ?_
              rintro e w3 ⟨u2, rfl, hN2, hx3⟩
              obtain ⟨B2, n2, d2, hu2⟩ := hN2.1.slice
              subst hu2
              have M2 := Lib.hid hN2
              clear hN2 HL2 N1
              go_wp2_with fail
              refine (HL3.out _).mono ?_
              rintro e w4 ⟨u3, rfl, hN3, hx4⟩
              obtain ⟨B3, n3, d3, hu3⟩ := hN3.1.slice
              subst hu3
              have hx14 := ((hx1.trans hx2).trans hx3).trans hx4
              have hmg := merge5_calls _ _ _ (linesT o) (linesT a) (linesT b) (fun _ => True) w4
                ((M1.out.ext (hx3.trans hx4)).1.rd.wide fun _ _ => trivial) ((M2.out.ext hx4).1.rd.wide fun _ _ => trivial) (hN3.1.rd.wide fun _ _ => trivial) HLL.out.1 HLL.out.2.1 HLL.out.2.2
              obtain ⟨mg, hm⟩ : ∃ m, mergeL (linesT o) (linesT a) (linesT b) = m := ⟨_, rfl⟩
              rw [hm] at hmg HT3 HSS
              have HMG := Lib.hid hmg
              clear hmg hm hN3 HL3 M1 M2 hx1 hx2 hx3 hx4
              go_wp2_with fail
              refine HMG.out.mono ?_
              clear HMG
              rintro e w5 ⟨r, rfl, hN5, hx5⟩
              have hx15 := hx14.trans hx5
              obtain ⟨B5, n5, d5, hu5⟩ := hN5.1.slice
              subst hu5
              have hj := join3_calls _ (mg.getD []) _ w5 hN5.rd (by cases mg with | none => exact Nat.zero_le _ | some l => exact (HSS.out l rfl).2) (by cases mg with | none => exact fun x hx => by cases hx | some l => exact fun x hx => Nat.le_trans ((HSS.out l rfl).1 x hx) (by omega))
              have HJ := Lib.hid hj
              clear hj hN5 hx14 hx5
              go_wp2_with fail
              refine HJ.out.mono ?_
              clear HJ
              rintro e w6 ⟨rfl, hx6⟩
              have hx16 := hx15.trans hx6
              cases mg with
              | none =>
                have h : tm = none := HT3.out
                subst h
                clear HT3 HSS
                go_wp2_with fail
                go_returns
                exact ⟨rfl, hx16⟩
              | some l =>
                have HT4 : Hid (tm = if (joinT l).size ≤ 400 then some (joinT l) else none) := Lib.hid HT3.out
                clear HT3 HSS
                rw [show (some l).getD [] = l from rfl]
                obtain ⟨j, hj⟩ : ∃ j, joinT l = j := ⟨_, rfl⟩
                rw [hj] at HT4 ⊢
                clear hj
                by_cases hs : j.size ≤ 400
                · have hd : decide ((400 : Int) < (j.size : Int)) = false := decide_eq_false (by omega)
                  have h : tm = some j := by rw [HT4.out, if_pos hs]
                  subst h
                  clear HT4
                  go_wp2_with fail
                  go_returns
                  exact ⟨rfl, hx16⟩
                · have hd : decide ((400 : Int) < (j.size : Int)) = true := decide_eq_true (by omega)
                  have h : tm = none := by rw [HT4.out, if_neg hs]
                  subst h
                  clear HT4
                  go_wp2_with fail
                  go_returns
                  exact ⟨rfl, hx16⟩


end Go.Proofs.YtgjbfkaepalkiaaGreatDoor
