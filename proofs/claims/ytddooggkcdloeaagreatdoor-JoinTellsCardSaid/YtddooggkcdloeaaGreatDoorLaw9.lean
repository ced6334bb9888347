/-
  cortegelaw9: great, has; join.Of and join.Virtual at trees that are not great.
-/
import Derived.Test.YtddooggkcdloeaaGreatDoorAwake9
import Derived.Test.YtddooggkcdloeaaGreatDoorText
namespace Go.Proofs.YtddooggkcdloeaaGreatDoor
open Go.RowKit
set_option linter.unusedVariables false
set_option linter.unusedSimpArgs false
attribute [local go_sem] Oper.semAt_some

def great9 (o a b : List File) : Bool := greatB o 14 || (greatB a 14 || greatB b 14)
theorem great9_calls (v1 v2 v3 : Value) (xs ys zs : List File) (w : World) (hA : RdF w v1 xs) (hB : RdF w v2 ys) (hC : RdF w v3 zs) :
    Calls Tryz.prog 9 #[v1, v2, v3] w fun e w' => e = .returned (.bool (great9 xs ys zs)) ∧ w = w' := by
  have c1 := Lib.hid (greatFiles_calls v1 xs 14 _ w hA (by omega))
  have c2 := Lib.hid (greatFiles_calls v2 ys 14 _ w hB (by omega))
  have c3 := Lib.hid (greatFiles_calls v3 zs 14 _ w hC (by omega))
  unfold great9
  clear hA hB hC
  generalize greatB xs 14 = q1 at c1 ⊢
  generalize greatB ys 14 = q2 at c2 ⊢
  generalize greatB zs 14 = q3 at c3 ⊢
  go_enter Tryz.func9, Tryz.ntmps9
  go_wp2_with fail
  refine c1.out.mono ?_
  rintro e w1 ⟨rfl, rfl⟩
  cases q1 with
  | true =>
    go_wp2_with fail
    go_ret
    exact ⟨rfl, rfl⟩
  | false =>
    go_wp2_with fail
    refine c2.out.mono ?_
    rintro e w2 ⟨rfl, rfl⟩
    cases q2 with
    | true =>
      go_wp2_with fail
      go_ret
      exact ⟨rfl, rfl⟩
    | false =>
      go_wp2_with fail
      refine c3.out.mono ?_
      rintro e w3 ⟨rfl, rfl⟩
      go_wp2_with fail
      go_ret
      exact ⟨rfl, rfl⟩

def hasB (xs : List ByteArray) (p : ByteArray) : Bool := xs.any fun x => x.toList == p.toList
theorem hasB_iff (xs : List ByteArray) (p : ByteArray) : hasB xs p = true ↔ p ∈ xs := by
  unfold hasB
  rw [List.any_eq_true]
  constructor
  · rintro ⟨x, hx, h⟩
    rw [beq_iff_eq] at h
    rw [← toList_inj h]
    exact hx
  · exact fun h => ⟨p, h, by simp⟩
theorem has_calls (v : Value) (p : ByteArray) (xs : List ByteArray) (S : Fp) (w : World) (hR : Rd ES S w v xs) :
    Calls Tryz.prog 23 #[v, .string p] w fun e w' => e = .returned (.bool (hasB xs p)) ∧ w = w' := by
  obtain ⟨A, c, rfl, hO⟩ := hR.open_
  have hlen := hO.len
  clear hR
  obtain ⟨n, hn⟩ : ∃ n, xs.length = n := ⟨_, rfl⟩
  rw [hn] at hlen ⊢
  have HN := Lib.hid hn
  clear hn
  obtain ⟨q, hq⟩ : ∃ q, hasB xs p = q := ⟨_, rfl⟩
  have HQ := Lib.hid hq
  rw [hq]
  clear hq
  go_enter Tryz.func23, Tryz.ntmps23
  go_wp2_with fail
  go_loopw [5] (fun i wr => ∃ k : Nat, k ≤ n ∧ i = .int .i64 k ∧ (xs.take k).any (fun x => x.toList == p.toList) = false ∧ w = wr) (fun i _ => n - (intOf i).toNat)
  case atStart => exact ⟨0, Nat.zero_le _, rfl, by simp, rfl⟩
  case round =>
    obtain ⟨k, hk, rfl, hno, rfl⟩ := hrel
    have HO := Lib.hid hno
    clear hno
    by_cases hlt : k < n
    · have hd3 : decide ((k : Int) < (n : Int)) = true := decide_eq_true (by omega)
      have hkc : k < xs.length := by have := HN.out; omega
      obtain ⟨b, off, rfl, _, hbl, c0⟩ := hO.rd.text hkc
      obtain ⟨y, hy⟩ : ∃ y, xs[k] = y := ⟨_, rfl⟩
      rw [hy] at c0
      have HS : Hid ((xs.take (k + 1)).any (fun x => x.toList == p.toList) = (y.toList == p.toList)) := Lib.hid (by rw [take_snoc xs hkc, List.any_append, HO.out, hy]; simp)
      have HH : Hid ((y.toList == p.toList) = true → q = true) := Lib.hid fun h => by
        rw [← HQ.out]; exact List.any_eq_true.2 ⟨y, by rw [← hy]; exact List.getElem_mem hkc, h⟩
      have hlt' : (k : Int) < (n : Int) := by omega
      have h0 : (0 : Int) ≤ (k : Int) := by omega
      have hw : IntKind.i64.wrap ((k : Int) + 1) = (k : Int) + 1 := IntWalk.i64_in _ (by omega)
      clear hy HO
      cases he : y.toList == p.toList with
      | true =>
        rw [he] at HS HH
        go_wp2_with fail
        go_ret
        exact ⟨by rw [HH.out (by trivial)]; rfl, rfl⟩
      | false =>
        rw [he] at HS
        clear HH
        go_wp2_with fail
        go_roundw
        case rel => exact ⟨k + 1, by omega, by go_num, HS.out, trivial⟩
        case measure => simp [intOf]; omega
    · have hd3 : decide ((k : Int) < (n : Int)) = false := decide_eq_false (by omega)
      have hres : q = false := by
        have h2 := HO.out
        rw [← HQ.out]
        rw [List.take_of_length_le (by have := HN.out; omega)] at h2
        exact h2
      go_wp2_with fail
      go_ret
      exact ⟨by rw [hres]; rfl, rfl⟩

theorem great9_false {o a b : List File} (h : great9 o a b = false) : greatB o 14 = false ∧ greatB a 14 = false ∧ greatB b 14 = false := by
  unfold great9 at h
  rw [Bool.or_eq_false_iff, Bool.or_eq_false_iff] at h
  exact h
theorem small_len {xs : List File} (h : greatB xs 14 = false) : xs.length ≤ 1000 := Nat.le_trans (greatB_false h).1 (by omega)
theorem small_path {xs : List File} (h : greatB xs 14 = false) : ∀ y ∈ xs, y.path.size ≤ 1000000 := fun y hy => Nat.le_trans ((greatB_false h).2 y hy).1 (by omega)
theorem atF_data {xs : List File} (h : mayB xs = true) (p : ByteArray) : (atF xs p).data.size ≤ 400 := by
  show (getD xs p).size ≤ 400
  unfold getD
  cases hg : getF xs p with
  | none => exact Nat.zero_le _
  | some f => exact (((mayB_iff xs).1 h).each f (List.mem_of_find?_eq_some hg)).2
theorem may3_iff (o a b : List File) : may3 o a b = true ↔ mayB o = true ∧ mayB a = true ∧ mayB b = true := by
  unfold may3
  rw [Bool.and_eq_true, Bool.and_eq_true]
theorem may3_merge {o a b : List File} (h : may3 o a b = true) (p : ByteArray) : MrgAt textM (atF o p).data (atF a p).data (atF b p).data := fun W =>
  textMerge_calls _ _ _ (atF_data ((may3_iff _ _ _).1 h).1 p) (atF_data ((may3_iff _ _ _).1 h).2.1 p) (atF_data ((may3_iff _ _ _).1 h).2.2 p) W

/-- join.Of. -/
theorem of9_calls (v1 v2 v3 : Value) (xs ys zs : List File) (w : World) (hA : RdF w v1 xs) (hB : RdF w v2 ys) (hC : RdF w v3 zs) (g1 : greatB xs 14 = false) (g2 : greatB ys 14 = false) (g3 : greatB zs 14 = false) :
    Calls Tryz.prog 12 #[v1, v2, v3] w (JoinPost w (joinOf textM xs ys zs).1 (joinOf textM xs ys zs).2) :=
  joinOf_calls textM v1 v2 v3 xs ys zs _ w hA hB hC (small_len g1) (small_len g2) (small_len g3) (small_path g1) (small_path g2) (small_path g3) (fun _ => gathF_size _ _ (small_path g1) (small_path g2) (small_path g3)) fun h p _ => may3_merge h p
/-- join.Virtual. -/
theorem virt9_calls (v1 v2 v3 : Value) (xs ys zs : List File) (w : World) (hA : RdF w v1 xs) (hB : RdF w v2 ys) (hC : RdF w v3 zs) (g1 : greatB xs 14 = false) (g2 : greatB ys 14 = false) (g3 : greatB zs 14 = false) :
    Calls Tryz.prog 14 #[v1, v2, v3] w (VirtPost w (virtOf textM xs ys zs)) :=
  virtOf_calls textM v1 v2 v3 xs ys zs _ w hA hB hC (small_len g1) (small_len g2) (small_len g3) (small_path g1) (small_path g2) (small_path g3) (fun _ => gathF_size _ _ (small_path g1) (small_path g2) (small_path g3)) fun h p _ => may3_merge h p

end Go.Proofs.YtddooggkcdloeaaGreatDoor
