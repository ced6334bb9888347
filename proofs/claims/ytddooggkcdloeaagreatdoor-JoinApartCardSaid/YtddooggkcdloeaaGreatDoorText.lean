/-
  line.Join, text.Merge.
-/
import Derived.Test.YtddooggkcdloeaaGreatDoorThree
import Derived.Test.YtddooggkcdloeaaGreatDoorTplain
namespace Go.Proofs.YtddooggkcdloeaaGreatDoor
open Go.RowKit
set_option linter.unusedVariables false
set_option linter.unusedSimpArgs false
attribute [local go_sem] Oper.semAt_some

/-! ### Plain -/
def joinT (xs : List ByteArray) : ByteArray := lb (xs.map bl).flatten
theorem libJoin (xs : List ByteArray) : Lib.join (xs.map (·.data.toList)) [] = (xs.map bl).flatten := by
  cases xs with
  | nil => rfl
  | cons x xs =>
    rw [List.map_cons, Lib.join_cons, List.flatten_cons]
    congr 1
    unfold Lib.joinTail
    congr 1
    simp
theorem flat_le (n : Nat) : ∀ xs : List ByteArray, (∀ x ∈ xs, x.size ≤ n) → ((xs.map bl).flatten).length ≤ xs.length * n
  | [], _ => Nat.zero_le _
  | x :: xs, h => by
    rw [List.map_cons, List.flatten_cons, List.length_append, List.length_cons, Nat.add_mul]
    have h1 : (bl x).length ≤ n := h x (List.mem_cons_self ..)
    have h2 := flat_le n xs fun y hy => h y (List.mem_cons_of_mem _ hy)
    omega
theorem linesL_sub : ∀ (l : List UInt8), ∀ x ∈ linesL l, x.length ≤ l.length
  | [], x, h => by cases h
  | c :: cs, x, h => by
    unfold linesL at h
    split at h
    · rcases List.mem_cons.1 h with rfl | h
      · simp
      · have := linesL_sub cs x h; simp only [List.length_cons]; omega
    · split at h
      · rw [List.mem_singleton.1 h]; simp
      · rename_i l ls hl
        rcases List.mem_cons.1 h with rfl | h
        · have := linesL_sub cs l (by rw [hl]; exact List.mem_cons_self ..)
          simp only [List.length_cons]; omega
        · have := linesL_sub cs x (by rw [hl]; exact List.mem_cons_of_mem _ h)
          simp only [List.length_cons]; omega
theorem linesT_sub (s : ByteArray) : ∀ x ∈ linesT s, x.size ≤ s.size := by
  intro x hx
  unfold linesT at hx
  obtain ⟨l, hl, rfl⟩ := List.mem_map.1 hx
  exact linesL_sub _ l hl
/-- A piece's lists are made of the lists' elements. -/
structure PtIn (o a b : List ByteArray) (q : Pt) : Prop where
  a : ∀ x ∈ q.a, x ∈ a
  b : ∀ x ∈ q.b, x ∈ b
theorem sub_mem {α : Type} {xs : List α} {i j : Nat} {x : α} (h : x ∈ sub xs i j) : x ∈ xs := List.mem_of_mem_drop (List.mem_of_mem_take h)
theorem partF_in (o a b : List ByteArray) (f t : Pl) : PtIn o a b (partF o a b f t) := ⟨fun _ h => sub_mem h, fun _ h => sub_mem h⟩
theorem partsF_in (o a b : List ByteArray) : ∀ q ∈ partsF o a b, PtIn o a b q := by
  have key : ∀ ps : List Pl, ∀ q ∈ (partsK o a b ps).l, PtIn o a b q := by
    intro ps
    refine snocInd (p := fun ps => ∀ q ∈ (partsK o a b ps).l, PtIn o a b q) (fun q hq => by cases hq) (fun l x ih => ?_) ps
    rw [partsK_snoc]
    unfold stepP fastP
    split
    · exact ih
    · intro q hq
      rcases List.mem_append.1 hq with hq | hq
      · split at hq
        · rcases List.mem_append.1 hq with hq | hq
          · exact ih q hq
          · rw [List.mem_singleton.1 hq]; exact partF_in _ _ _ _ _
        · exact ih q hq
      · rw [List.mem_singleton.1 hq]
        have h := partF_in o a b (partsK o a b l).at_ x
        exact ⟨h.a, h.b⟩
  unfold partsF fastP
  dsimp only
  intro q hq
  split at hq
  · rcases List.mem_append.1 hq with hq | hq
    · exact key _ q hq
    · rw [List.mem_singleton.1 hq]; exact partF_in _ _ _ _ _
  · exact key _ q hq
theorem mergeL_in {o a b l : List ByteArray} (h : mergeL o a b = some l) : (∀ x ∈ l, x ∈ a ∨ x ∈ b) ∧ ∀ n, a.length ≤ n → b.length ≤ n → l.length ≤ (2 * o.length + 3) * n := by
  unfold mergeL at h
  split at h
  · cases h
  · injection h with h
    subst h
    refine ⟨fun x hx => ?_, fun n h1 h2 => ?_⟩
    · obtain ⟨q, hq, hx⟩ := List.mem_flatMap.1 hx
      have hi := partsF_in o a b q hq
      unfold chosenF at hx
      split at hx
      · exact .inl (hi.a x hx)
      · exact .inr (hi.b x hx)
    · exact Nat.le_trans (flatMap_le chosenF n _ fun q hq => chosenF_le (partsF_le o a b q hq) h1 h2) (Nat.mul_le_mul_right n (partsF_length o a b))
def eqT (x y : ByteArray) : Bool := x.toList == y.toList
theorem eqT_iff (x y : ByteArray) : eqT x y = true ↔ x = y := by
  unfold eqT
  rw [beq_iff_eq]
  exact ⟨toList_inj, fun h => by rw [h]⟩
/-- text.Merge's answer. -/
def textM (o a b : ByteArray) : Option ByteArray :=
  if (eqT a b || eqT b o) = true then some a else if eqT a o = true then some b
  else if ([o, a, b].any oddT) = true then none
  else match mergeL (linesT o) (linesT a) (linesT b) with
    | none => none
    | some l => if (joinT l).size ≤ 400 then some (joinT l) else none

/-- line.Join. -/
theorem lineJoin_calls (v : Value) (xs : List ByteArray) (S : Fp) (w : World) (hR : Rd ES S w v xs) (hn : xs.length ≤ 1000000) (hz : ∀ x ∈ xs, x.size ≤ 400) :
    Calls Tryz.prog 105 #[v] w fun e w' => e = .returned (.string (joinT xs)) ∧ Ext w w' := by
  obtain ⟨A, c, rfl, hO⟩ := hR.open_
  have hlen : (Lib.join (xs.map (·.data.toList)) (ByteArray.data ⟨#[]⟩).toList).length ≤ 140737488355328 := by
    show (Lib.join (xs.map (·.data.toList)) []).length ≤ _
    rw [libJoin]
    have := flat_le 400 xs hz
    omega
  have hc : Calls Tryz.prog 129 #[.slice A xs.length c, .string ⟨#[]⟩] w fun e w' => e = .returned (.string (joinT xs)) ∧ Ext w w' := by
    by_cases h0 : 0 < xs.length
    · obtain ⟨b, off, hA, _, hbl, hcell⟩ := hO.rd h0
      cases hA
      refine (Tryz.strings_Join b off c xs ⟨#[]⟩ w (fun j x hx => hcell j _ (by rw [flatS, List.getElem?_map, hx]; rfl)) hbl (by omega) hO.le hlen).mono ?_
      rintro e w' ⟨rfl, hbw⟩
      refine ⟨?_, ext_of_below hbw⟩
      show Ending.returned (.string ⟨(Lib.join (xs.map (·.data.toList)) []).toArray⟩) = _
      rw [libJoin]; rfl
    · have hx : xs = [] := List.eq_nil_of_length_eq_zero (by omega)
      subst hx
      refine (Tryz.strings_Join_none A c ⟨#[]⟩ w).mono ?_
      rintro e w' ⟨rfl, rfl⟩
      exact ⟨rfl, Kp.refl _ _⟩
  have HC := Lib.hid hc
  clear hc hlen hO hR hz
  go_enter Tryz.func105, Tryz.ntmps105
  go_wp2_with fail
  refine HC.out.mono ?_
  rintro e w1 ⟨rfl, hx⟩
  go_wp2_with fail
  go_ret
  exact ⟨rfl, hx⟩

set_option maxHeartbeats 2000000 in
/-- text.Merge. -/
theorem textMerge_calls (o a b : ByteArray) (ho : o.size ≤ 400) (ha : a.size ≤ 400) (hb : b.size ≤ 400) (w : World) :
    Calls Tryz.prog 79 #[.string o, .string a, .string b] w fun e w' => e = .returned (.tuple #[.string ((textM o a b).getD ⟨#[]⟩), .bool (textM o a b).isSome]) ∧ Ext w w' := by
  have HT : textM o a b = if (eqT a b || eqT b o) = true then some a else if eqT a o = true then some b else if ([o, a, b].any oddT) = true then none else match mergeL (linesT o) (linesT a) (linesT b) with
    | none => none
    | some l => if (joinT l).size ≤ 400 then some (joinT l) else none := rfl
  obtain ⟨tm, htm⟩ : ∃ t, textM o a b = t := ⟨_, rfl⟩
  rw [htm] at HT ⊢
  have q1 : (a.toList == b.toList) = eqT a b := rfl
  have q2 : (b.toList == o.toList) = eqT b o := rfl
  have q3 : (a.toList == o.toList) = eqT a o := rfl
  generalize eqT a b = e1 at q1 HT
  generalize eqT b o = e2 at q2 HT
  generalize eqT a o = e3 at q3 HT
  have HTT := Lib.hid HT
  clear htm HT
  cases e1 with
  | true =>
    have h : tm = some a := HTT.out
    subst h
    clear HTT
    go_enter Tryz.func79, Tryz.ntmps79
    go_wp2_with fail
    go_returns
    exact ⟨rfl, Kp.refl _ _⟩
  | false =>
    cases e2 with
    | true =>
      have h : tm = some a := HTT.out
      subst h
      clear HTT
      go_enter Tryz.func79, Tryz.ntmps79
      go_wp2_with fail
      go_returns
      exact ⟨rfl, Kp.refl _ _⟩
    | false =>
      cases e3 with
      | true =>
        have h : tm = some b := HTT.out
        subst h
        clear HTT
        go_enter Tryz.func79, Tryz.ntmps79
        go_wp2_with fail
        go_returns
        exact ⟨rfl, Kp.refl _ _⟩
      | false =>
        have HT2 : Hid (tm = if ([o, a, b].any oddT) = true then none else match mergeL (linesT o) (linesT a) (linesT b) with
          | none => none
          | some l => if (joinT l).size ≤ 400 then some (joinT l) else none) := Lib.hid HTT.out
        have hpl := plain_calls (.slice (some ⟨w.heap.size, 0, none⟩) 3 3) [o, a, b] _ _ (New.made (E := ES) w 9 [o, a, b] (by simp [maxLen])).rd (by simp) (by intro y hy; simp only [List.mem_cons, List.not_mem_nil, or_false] at hy; rcases hy with rfl | rfl | rfl <;> omega)
        obtain ⟨od, hod⟩ : ∃ x, [o, a, b].any oddT = x := ⟨_, rfl⟩
        rw [hod] at HT2 hpl
        have HPL := Lib.hid hpl
        have HL1 := Lib.hid fun W => split_line o W (by omega)
        have HL2 := Lib.hid fun W => split_line a W (by omega)
        have HL3 := Lib.hid fun W => split_line b W (by omega)
        have hl1 := linesT_length o
        have hl2 := linesT_length a
        have hl3 := linesT_length b
        have HLL : Hid ((linesT o).length ≤ 400 ∧ (linesT a).length ≤ 400 ∧ (linesT b).length ≤ 400) := Lib.hid ⟨by omega, by omega, by omega⟩
        have hs2 := linesT_sub a
        have hs3 := linesT_sub b
        have HSS : Hid (∀ l, mergeL (linesT o) (linesT a) (linesT b) = some l → (∀ x ∈ l, x.size ≤ 400) ∧ l.length ≤ 1000000) := Lib.hid fun l hl => by
          obtain ⟨m1, m2⟩ := mergeL_in hl
          refine ⟨fun x hx => ?_, ?_⟩
          · rcases m1 x hx with h | h
            · exact Nat.le_trans (hs2 x h) ha
            · exact Nat.le_trans (hs3 x h) hb
          · have h2 := m2 400 (by omega) (by omega)
            have h3 : (2 * (linesT o).length + 3) * 400 ≤ 803 * 400 := Nat.mul_le_mul_right 400 (by omega)
            omega
        clear HTT hod hpl hl1 hl2 hl3 hs2 hs3 ho ha hb
        go_enter Tryz.func79, Tryz.ntmps79
        go_wp2_with fail
        refine HPL.out.mono ?_
        clear HPL
        rintro e w1 ⟨rfl, hx1'⟩
        have hx1 : Ext w w1 := ((Kp.refl _ w).alloc _).trans hx1'
        clear hx1'
        cases od with
        | true =>
          have h : tm = none := HT2.out
          subst h
          go_wp2_with fail
          go_returns
          exact ⟨rfl, hx1⟩
        | false =>
          have HT3 : Hid (tm = match mergeL (linesT o) (linesT a) (linesT b) with
            | none => none
            | some l => if (joinT l).size ≤ 400 then some (joinT l) else none) := Lib.hid HT2.out
          clear HT2
          go_wp2_with fail
          refine (HL1.out _).mono ?_
          rintro e w2 ⟨u1, rfl, hN1, hx2⟩
          obtain ⟨B1, n1, d1, hu1⟩ := hN1.1.slice
          subst hu1
          have N1 := Lib.hid fun W (hW : Ext w2 W) => (hN1.ext hW).rd.wide (T := fun k => k < W.heap.size ∨ True) fun _ _ => .inr trivial
          have M1 := Lib.hid hN1
          clear hN1 HL1
          go_wp2_with fail
          refine (HL2.out _).mono ?_
          rintro e w3 ⟨u2, rfl, hN2, hx3⟩
          obtain ⟨B2, n2, d2, hu2⟩ := hN2.1.slice
          subst hu2
          have M2 := Lib.hid hN2
          clear hN2 HL2 N1
          go_wp2_with fail
          refine (HL3.out _).mono ?_
          rintro e w4 ⟨u3, rfl, hN3, hx4⟩
          obtain ⟨B3, n3, d3, hu3⟩ := hN3.1.slice
          subst hu3
          have hx14 := ((hx1.trans hx2).trans hx3).trans hx4
          have hmg := merge3_calls _ _ _ (linesT o) (linesT a) (linesT b) (fun k => k < w4.heap.size) w4
            (((M1.out.ext (hx3.trans hx4)).1.rd).wide fun k hk => (M1.out.ext (hx3.trans hx4)).1.lt hk) (((M2.out.ext hx4).1.rd).wide fun k hk => (M2.out.ext hx4).1.lt hk) (hN3.1.rd.wide fun k hk => hN3.1.lt hk) HLL.out.1 HLL.out.2.1 HLL.out.2.2 (fun k hk => hk)
          obtain ⟨mg, hm⟩ : ∃ m, mergeL (linesT o) (linesT a) (linesT b) = m := ⟨_, rfl⟩
          rw [hm] at hmg HT3 HSS
          have HMG := Lib.hid hmg
          clear hmg hm hN3 HL3 M1 M2 hx1 hx2 hx3 hx4
          go_wp2_with fail
          refine HMG.out.mono ?_
          clear HMG
          rintro e w5 ⟨r, rfl, hN5, hx5⟩
          have hx15 := hx14.trans hx5
          obtain ⟨B5, n5, d5, hu5⟩ := hN5.1.slice
          subst hu5
          have hj := lineJoin_calls _ (mg.getD []) _ w5 hN5.rd (by cases mg with | none => exact Nat.zero_le _ | some l => exact (HSS.out l rfl).2) (by cases mg with | none => exact fun x hx => by cases hx | some l => exact (HSS.out l rfl).1)
          have HJ := Lib.hid hj
          clear hj hN5 hx14 hx5
          go_wp2_with fail
          refine HJ.out.mono ?_
          clear HJ
          rintro e w6 ⟨rfl, hx6⟩
          have hx16 := hx15.trans hx6
          cases mg with
          | none =>
            have h : tm = none := HT3.out
            subst h
            clear HT3 HSS
            go_wp2_with fail
            go_returns
            exact ⟨rfl, hx16⟩
          | some l =>
            have HT4 : Hid (tm = if (joinT l).size ≤ 400 then some (joinT l) else none) := Lib.hid HT3.out
            clear HT3 HSS
            rw [show (some l).getD [] = l from rfl]
            obtain ⟨j, hj⟩ : ∃ j, joinT l = j := ⟨_, rfl⟩
            rw [hj] at HT4 ⊢
            clear hj
            by_cases hs : j.size ≤ 400
            · have hd : decide ((j.size : Int) ≤ 400) = true := decide_eq_true (by omega)
              have h : tm = some j := by rw [HT4.out, if_pos hs]
              subst h
              clear HT4
              go_wp2_with fail
              go_returns
              exact ⟨rfl, hx16⟩
            · have hd : decide ((j.size : Int) ≤ 400) = false := decide_eq_false (by omega)
              have h : tm = none := by rw [HT4.out, if_neg hs]
              subst h
              clear HT4
              go_wp2_with fail
              go_returns
              exact ⟨rfl, hx16⟩

end Go.Proofs.YtddooggkcdloeaaGreatDoor
