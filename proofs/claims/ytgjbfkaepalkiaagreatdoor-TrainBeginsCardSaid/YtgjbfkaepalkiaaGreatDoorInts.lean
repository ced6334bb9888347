/-
  Rows of numbers: slices.Clone, Equal, Insert, Delete, Reverse, SameInts, at numbers.
-/
import Derived.Test.YtgjbfkaepalkiaaGreatDoorKom
import Derived.Test.YtgjbfkaepalkiaaGreatDoorConcat
import Derived.Test.YtgjbfkaepalkiaaGreatDoorShelf
import Derived.Shelf.Spec.SlicesInsertGrow
namespace Go.Proofs.YtgjbfkaepalkiaaGreatDoor
open Go.RowKit
set_option linter.unusedVariables false
set_option linter.unusedSimpArgs false
attribute [local go_sem] Oper.semAt_some

abbrev iv (x : Int) : Value := .int .i64 x
abbrev encI' (x : Int) : Array Value := #[.int .i64 x]
theorem flat_EI (xs : List Int) : EI.flat xs = xs.map iv := by
  unfold El.flat
  induction xs with
  | nil => rfl
  | cons x xs ih => rw [List.flatMap_cons, ih]; rfl
theorem newI_of_row {α : Type} {E : El α} {t : TypeId} {w : World} {n : Nat} {v : Value} {xs : List α} (h : w.ownsRow n t E.sz v xs.length (E.flat xs)) : New E t n w v xs := by
  obtain ⟨h1, h2⟩ := h
  rcases h2 with ⟨h2, h3⟩ | ⟨g, cap, cur, h2, hb, hg, h3⟩
  · exact ⟨⟨h1, .inl ⟨h2, h3⟩⟩, fun g hg => by subst h2; simp [Value.ownBlock] at hg⟩
  · exact ⟨⟨h1, .inr ⟨g, cap, cur, h2, Nat.zero_le _, hg, h3⟩⟩, fun g' hg' => by subst h2; simp [Value.ownBlock] at hg'; omega⟩
theorem ext_of_below' {w w' : World} (h : Below w.heap.size w w') : Ext w w' := ⟨h.os, h.tape, h.output, h.size, fun k hk _ => h.block k hk⟩
theorem Opn.getI {S : Fp} {w : World} {b off c : Nat} {xs : List Int} (h : Opn EI S w (some ⟨b, off, none⟩) c xs) {j : Nat} (hj : j < xs.length) : w.cell? ⟨b, off + j, none⟩ = some (.int .i64 (xs.getD j 0)) := by
  obtain ⟨b', off', he, _, _, hc⟩ := h.rd.num hj
  cases he
  rw [hc, List.getD_eq_getElem?_getD, List.getElem?_eq_getElem hj]; rfl

/-- slices.Clone at numbers. -/
theorem cloneI_calls (v : Value) (xs : List Int) (S : Fp) (w : World) (hR : Rd EI S w v xs) (hb : xs.length ≤ 1000000) :
    Calls Tryz.prog 116 #[v] w fun e w' => ∃ u, e = .returned u ∧ New EI 3 w.heap.size w' u xs ∧ Ext w w' := by
  obtain ⟨A, c, rfl, hO⟩ := hR.open_
  cases A with
  | none =>
    obtain ⟨rfl, rfl⟩ := hO.none_
    refine (Tryz.slices_Clone_int_nil 0 0 w).mono ?_
    rintro e w' ⟨rfl, rfl⟩
    exact ⟨_, rfl, New.nil _ _ _, Kp.refl _ _⟩
  | some a =>
    by_cases h0 : 0 < xs.length
    · obtain ⟨b, off, hA, _, hbl, hc⟩ := hO.rd h0
      cases hA
      refine (Tryz.slices_Clone_int b off xs.length c xs w (Nat.le_refl _) (by omega) (fun j hj => hO.getI hj)).mono ?_
      rintro e w' ⟨u, rfl, hown, _, hbw⟩
      rw [List.take_length, ← flat_EI] at hown
      exact ⟨u, rfl, newI_of_row hown, ext_of_below' hbw⟩
    · have hx : xs = [] := List.eq_nil_of_length_eq_zero (by omega)
      subst hx
      refine (Tryz.slices_Clone_int_zero a c w).mono ?_
      rintro e w' ⟨u, rfl, hown, _, hbw⟩
      exact ⟨u, rfl, newI_of_row (E := EI) (xs := []) hown, ext_of_below' hbw⟩

/-- slices.Equal at numbers. -/
theorem equalI_calls (v u : Value) (xs ys : List Int) (S T : Fp) (w : World) (hR : Rd EI S w v xs) (hR' : Rd EI T w u ys) :
    Calls Tryz.prog 154 #[v, u] w fun e w' => e = .returned (.bool (decide (xs = ys))) ∧ Ext w w' := by
  obtain ⟨A, c, rfl, hO⟩ := hR.open_
  obtain ⟨A', c', rfl, hO'⟩ := hR'.open_
  have l1 := hO.len
  have l2 := hO'.len
  by_cases h0 : 0 < xs.length
  · by_cases h1 : 0 < ys.length
    · obtain ⟨b, off, hA, _, hbl, _⟩ := hO.rd h0
      obtain ⟨b', off', hA', _, hbl', _⟩ := hO'.rd h1
      cases hA; cases hA'
      refine (Tryz.slices_Equal_int b off xs.length c b' off' ys.length c' xs ys w (Nat.le_refl _) (Nat.le_refl _) l1 l2 (fun j hj => hO.getI hj) (fun j hj => hO'.getI hj)).mono ?_
      rintro e w' ⟨rfl, q, rfl⟩
      rw [List.take_length, List.take_length]
      have he : (xs == ys) = decide (xs = ys) := by by_cases h : xs = ys <;> simp [h]
      exact ⟨by rw [he], (Kp.refl _ w).drewN q⟩
    · have hy : ys = [] := List.eq_nil_of_length_eq_zero (by omega)
      subst hy
      refine (Tryz.slices_Equal_int_lens A A' xs.length c 0 c' w (by omega)).mono ?_
      rintro e w' ⟨rfl, rfl⟩
      have : xs ≠ [] := fun h => by rw [h] at h0; simp at h0
      exact ⟨by rw [decide_eq_false this], Kp.refl _ _⟩
  · have hx : xs = [] := List.eq_nil_of_length_eq_zero (by omega)
    subst hx
    refine (Tryz.slices_Equal_int_empty A A' c ys.length c' w l2).mono ?_
    rintro e w' ⟨rfl, rfl⟩
    refine ⟨?_, Kp.refl _ _⟩
    congr 2
    rw [eq_comm]
    simp only [List.length_eq_zero_iff]
    rw [decide_eq_decide]
    exact eq_comm

/-! ### Stores into a row of one's own -/
theorem Kp.setCells {S : Fp} {a : World} {b : Nat} (hb : a.heap.size ≤ b ∨ ¬ S b) : ∀ (vs : List Value) (o : Nat) {w : World}, Kp S a w → Kp S a (w.setCells b o vs)
  | [], _, _, h => h
  | v :: r, o, w, h => by
    unfold World.setCells
    exact Kp.setCells hb r (o + 1) (h.setCell (p := ⟨b, o, none⟩) hb v)
def setL : List Value → Nat → List Value → List Value
  | l, _, [] => l
  | l, o, v :: r => setL (l.set o v) (o + 1) r
theorem setL_eq : ∀ (vs l : List Value) (o : Nat), o + vs.length ≤ l.length → setL l o vs = l.take o ++ vs ++ l.drop (o + vs.length)
  | [], l, o, _ => by simp [setL]
  | v :: r, l, o, h => by
    simp only [List.length_cons] at h
    unfold setL
    rw [setL_eq r _ _ (by rw [List.length_set]; omega), List.set_eq_take_append_cons_drop, if_pos (by omega)]
    have ht : (l.take o).length = o := by rw [List.length_take]; omega
    rw [List.take_append, ht, List.take_of_length_le (by omega : (l.take o).length ≤ o + 1), List.drop_append, ht, List.drop_of_length_le (by omega : (l.take o).length ≤ o + 1 + r.length)]
    rw [show o + 1 - o = 1 by omega, show o + 1 + r.length - o = r.length + 1 by omega, List.length_cons, List.take_succ_cons, List.take_zero, List.drop_succ_cons, List.drop_drop]
    simp [Nat.add_assoc, Nat.add_comm, Nat.add_left_comm]
theorem Blk.setCells {b : Nat} {t : TypeId} : ∀ (vs : List Value) (o : Nat) {w : World} {l : List Value}, Blk w b t l.toArray → Blk (w.setCells b o vs) b t (setL l o vs).toArray
  | [], _, _, _, h => h
  | v :: r, o, w, l, h => by
    unfold World.setCells setL
    refine Blk.setCells r (o + 1) ?_
    have := h.set_ o v
    simpa using this
theorem Own.of_blk {α : Type} {E : El α} {t : TypeId} {w : World} {g c : Nat} {ys : List α} {zs : List Value} (h : Blk w g t (E.flat ys ++ zs).toArray) (hz : ys.length * E.sz + zs.length = c * E.sz) (hc : ys.length ≤ c) (hm : c ≤ maxLen) : Own E t w (.slice (some ⟨g, 0, none⟩) ys.length c) ys := by
  refine ⟨E.flat_length ys, .inr ⟨g, c, _, rfl, Nat.zero_le _, h, hc, hm, ?_, ?_⟩⟩
  · rw [List.size_toArray, List.length_append, E.flat_length]; exact hz
  · show List.take (ys.length * E.sz) (E.flat ys ++ zs) = E.flat ys
    rw [← E.flat_length]; exact List.take_left ..
/-- A row of one's own of which as many cells as were are stored anew, of which it keeps a beginning. -/
theorem Own.putI {t : TypeId} {w : World} {g n c : Nat} {xs : List Int} (h : Own EI t w (.slice (some ⟨g, 0, none⟩) n c) xs) (ys zs : List Int) (hl : (ys ++ zs).length = n) (q : Nat) :
    Own EI t ((w.drewN q).setCells g 0 ((ys ++ zs).map iv)) (.slice (some ⟨g, 0, none⟩) ys.length c) ys := by
  obtain ⟨us, hb, hu, hn, hnc, hcm⟩ := h.block
  have hlen : (EI.flat xs ++ us).length = c := by rw [List.length_append, EI.flat_length, hn, hu]; simp [EI]; omega
  have hb2 : Blk (w.drewN q) g t (EI.flat xs ++ us).toArray := hb
  have h2 := Blk.setCells ((ys ++ zs).map iv) 0 hb2
  have hL : setL (EI.flat xs ++ us) 0 ((ys ++ zs).map iv) = EI.flat ys ++ (zs.map iv ++ (EI.flat xs ++ us).drop (ys ++ zs).length) := by
    rw [setL_eq _ _ _ (by rw [hlen, List.length_map]; omega), List.take_zero, List.nil_append, Nat.zero_add, List.length_map, List.map_append, List.append_assoc, ← flat_EI ys]
  rw [hL] at h2
  rw [List.length_append] at hl
  refine Own.of_blk h2 ?_ (by omega) hcm
  have e1 : ((EI.flat xs ++ us).drop (ys ++ zs).length).length = c - n := by rw [List.length_drop, hlen, List.length_append]; omega
  rw [List.length_append, List.length_map, e1]
  show ys.length * 1 + (zs.length + (c - n)) = c * 1
  omega
theorem ins_list0 (a zs : List Value) (x z : Value) : setL (a ++ z :: zs) a.length [x] = (a ++ [x]) ++ zs := by
  rw [setL_eq _ _ _ (by simp)]
  have e2 : (a ++ z :: zs).drop (a.length + [x].length) = zs := by
    rw [show a ++ z :: zs = (a ++ [z]) ++ zs by simp, List.drop_left' (by simp)]
  rw [List.take_left' rfl, e2]
theorem ins_list (a d zs : List Value) (y x z : Value) : setL (setL ((a ++ y :: d) ++ z :: zs) (a.length + 1) (y :: d)) a.length [x] = (a ++ x :: y :: d) ++ zs := by
  have h1 : setL ((a ++ y :: d) ++ z :: zs) (a.length + 1) (y :: d) = a ++ y :: y :: d ++ zs := by
    rw [setL_eq _ _ _ (by simp; omega)]
    have e1 : ((a ++ y :: d) ++ z :: zs).take (a.length + 1) = a ++ [y] := by
      rw [show (a ++ y :: d) ++ z :: zs = (a ++ [y]) ++ (d ++ z :: zs) by simp, List.take_left' (by simp)]
    have e2 : ((a ++ y :: d) ++ z :: zs).drop (a.length + 1 + (y :: d).length) = zs := by
      rw [show (a ++ y :: d) ++ z :: zs = (a ++ y :: d ++ [z]) ++ zs by simp, List.drop_left' (by simp; omega)]
    rw [e1, e2]; simp
  rw [h1, setL_eq _ _ _ (by simp)]
  have e1 : (a ++ y :: y :: d ++ zs).take a.length = a := by rw [List.append_assoc, List.take_left' rfl]
  have e2 : (a ++ y :: y :: d ++ zs).drop (a.length + [x].length) = y :: d ++ zs := by
    rw [show a ++ y :: y :: d ++ zs = (a ++ [y]) ++ (y :: d ++ zs) by simp, List.drop_left' (by simp)]
  rw [e1, e2]; simp
theorem ins_list2 (a d Z : List Value) (x z : Value) (zs : List Value) (hz : zs.length = d.length) : setL (setL (a ++ (z :: zs) ++ Z) a.length [x]) (a.length + 1) d = a ++ x :: d ++ Z := by
  have e1 : (a ++ (z :: zs) ++ Z).take a.length = a := by rw [List.append_assoc, List.take_left' rfl]
  have e2 : (a ++ (z :: zs) ++ Z).drop (a.length + [x].length) = zs ++ Z := by
    rw [show a ++ (z :: zs) ++ Z = (a ++ [z]) ++ (zs ++ Z) by simp, List.drop_left' (by simp)]
  have h1 : setL (a ++ (z :: zs) ++ Z) a.length [x] = a ++ [x] ++ (zs ++ Z) := by
    rw [setL_eq _ _ _ (by simp), e1, e2]
  rw [h1, setL_eq _ _ _ (by simp; omega)]
  have e3 : (a ++ [x] ++ (zs ++ Z)).take (a.length + 1) = a ++ [x] := List.take_left' (by simp)
  have e4 : (a ++ [x] ++ (zs ++ Z)).drop (a.length + 1 + d.length) = Z := by
    rw [show a ++ [x] ++ (zs ++ Z) = (a ++ [x] ++ zs) ++ Z by simp, List.drop_left' (by simp; omega)]
  rw [e3, e4]; simp

/-! ### slices.Insert, Delete, Reverse -/
def insRen : Go.Shelf.Ren := ⟨fun | 21 => 167 | 27 => 195 | 28 => 196 | 35 => 221 | 39 => 65 | n => n, fun | 22 => 40 | 3 => 3 | 4 => 4 | 0 => 0 | n => n, fun | n => n⟩
theorem insLays : Go.Proofs.Lays2.n21 Tryz.prog insRen := {
  mixed := by kernel_rfl
  f21 := Tryz.func167.trans (congrArg some (by kernel_rfl))
  f27 := Tryz.func195.trans (congrArg some (by kernel_rfl))
  f28 := Tryz.func196.trans (congrArg some (by kernel_rfl))
  f35 := Tryz.func221.trans (congrArg some (by kernel_rfl))
  f39 := Tryz.func65.trans (congrArg some (by kernel_rfl))
  t0 := Tryz.underlying0
  a0 := Tryz.isAgg0
  z0 := Tryz.sizeOf0
  v0 := Tryz.zeroValue0
  t3 := Tryz.underlying3
  a3 := Tryz.isAgg3
  z3 := Tryz.sizeOf3
  v3 := Tryz.zeroValue3
  t4 := Tryz.underlying4
  a4 := Tryz.isAgg4
  z4 := Tryz.sizeOf4
  v4 := Tryz.zeroValue4
  t22 := Tryz.underlying40
  a22 := Tryz.isAgg40
  z22 := Tryz.sizeOf40
  v22 := Tryz.zeroValue40
  i3 := by kernel_rfl }

def InsPost (w : World) (v : Value) (zs : List Int) (e : Ending) (w' : World) : Prop := ∃ v', e = .returned v' ∧ Own EI 3 w' v' zs ∧ Kp (fun k => v.ownBlock ≠ some k) w w' ∧ (v'.ownBlock = v.ownBlock ∨ v'.ownBlock = some w.heap.size)

theorem iv_one (xs : List Int) : ∀ v ∈ xs.map iv, v.oneCell' = true := fun v hv => by
  obtain ⟨x, _, rfl⟩ := List.mem_map.1 hv
  rfl
theorem zeroI (n : Nat) : (Builtin.zeroCells (Value.int .i64 0).cells n).toList = List.replicate n (iv 0) := by
  rw [List.eq_replicate_iff]
  simp [Builtin.zeroCells, Value.cells, Nat.mod_one]

theorem Own.of_alloc {t : TypeId} (w1 : World) (A : Array Value) (ys : List Int) (zs : List Value) (c : Nat) (hA : A.toList = ys.map iv ++ zs) (hl : ys.length + zs.length = c) (hm : c ≤ maxLen) : Own EI t (w1.alloc (.cells A t)) (.slice (some ⟨w1.heap.size, 0, none⟩) ys.length c) ys := by
  have h := Blk.new w1 t A
  have he : A = (EI.flat ys ++ zs).toArray := by
    apply Array.ext'
    rw [hA, flat_EI]
  rw [he] at h
  have := Own.of_blk (ys := ys) (E := EI) (zs := zs) h (by simp [EI]; omega) (by omega) hm
  rw [he]; exact this

set_option maxHeartbeats 800000 in
theorem insI_calls (v : Value) (xs : List Int) (i : Nat) (x : Int) (vb : Nat) (w : World) (hO : Own EI 3 w v xs) (hi : i ≤ xs.length) (hb : xs.length ≤ 100000) (hB : Blk w vb 3 #[.int .i64 x]) (hne : v.ownBlock ≠ some vb) :
    Calls Tryz.prog 167 #[v, .int .i64 i, .slice (some ⟨vb, 0, none⟩) 1 1] w (InsPost w v (xs.take i ++ x :: xs.drop i)) := by
  have hvs : ∀ j u, ([iv x] : List Value)[j]? = some u → w.cell? ⟨vb, 0 + j, none⟩ = some u := by
    intro j u hu
    cases j with
    | zero => simp at hu; subst hu; exact hB.cell 0
    | succ j => simp at hu
  have h1v : ∀ u ∈ ([iv x] : List Value), u.oneCell' = true := iv_one [x]
  have hcap : ∀ n c, n ≤ 100001 → grownCap w n c (insRen.t 3) ≤ maxLen ∧ n ≤ grownCap w n c (insRen.t 3) := fun n c hn => ⟨grownCap_le_maxLen w n c (insRen.t 3) (by unfold maxLen; omega), grownCap_ge w _ _ _⟩
  rcases hO.2 with ⟨rfl, hn⟩ | ⟨g, cap, cur, hv, _⟩
  · have hx : xs = [] := List.eq_nil_of_length_eq_zero hn
    subst hx
    have hi0 : i = 0 := by simpa using hi
    subst hi0
    refine (Any2.slices_Insert_int_end_grow insLays none 0 0 vb 0 1 1 [] [iv x] w (by omega) (by omega) (by omega) (by omega) rfl rfl (fun _ => rfl) (fun a h => by cases h) hvs h1v).mono ?_
    rintro e w' ⟨rfl, rfl⟩
    obtain ⟨hc1, hc2⟩ := hcap (0 + 1) 0 (by omega)
    refine ⟨_, rfl, ?_, ((Kp.refl _ w).drew).alloc _, .inr rfl⟩
    exact Own.of_alloc w.drew _ [x] (List.replicate (grownCap w (0 + 1) 0 (insRen.t 3) - (0 + 1)) (iv 0)) (grownCap w (0 + 1) 0 (insRen.t 3)) (by rw [Array.toList_append, zeroI]; rfl) (by rw [List.length_replicate]; show 1 + _ = _; omega) hc1
  · have hO' := hO
    rw [hv] at hO'
    obtain ⟨us, hbk, hu, _, hnc, hcm⟩ := hO'.block
    subst hv
    rw [flat_EI] at hbk
    have hsz1 : EI.sz = 1 := rfl
    rw [hsz1, Nat.mul_one] at hu
    have hcell : ∀ j, w.cell? ⟨g, j, none⟩ = (xs.map iv ++ us)[j]? := fun j => by rw [hbk.cell j]; simp
    have hcs : ∀ j u, (xs.map iv)[j]? = some u → w.cell? ⟨g, 0 + j, none⟩ = some u := fun j u h => by
      rw [hcell, Nat.zero_add, List.getElem?_append_left ((List.getElem?_eq_some_iff.1 h).1)]; exact h
    have hmx : maxLen ≤ 9223372036854775807 := by unfold maxLen; omega
    have hne' : vb ≠ g := fun h => hne (by rw [h]; rfl)
    have hsome : ∀ j, j < cap → (w.cell? ⟨g, j, none⟩).isSome = true := fun j hj => by
      rw [hcell, List.getElem?_eq_getElem (by rw [List.length_append, List.length_map]; omega)]; rfl
    by_cases hin : i = xs.length
    · subst hin
      rw [List.take_length, List.drop_length]
      by_cases hroom : xs.length + 1 ≤ cap
      · obtain ⟨z, zs, rfl⟩ : ∃ z zs, us = z :: zs := by
          cases us with
          | nil => simp at hu; omega
          | cons z zs => exact ⟨z, zs, rfl⟩
        simp only [List.length_cons] at hu
        refine (Any2.slices_Insert_int_end_room insLays g 0 xs.length cap vb 0 1 1 [iv x] w (by omega) hroom (by omega) rfl (fun j hj => hsome _ (by omega)) (fun j hj => hbk.frozen _) hvs h1v).mono ?_
        rintro e w' ⟨rfl, rfl⟩
        refine ⟨_, rfl, ?_, (Kp.refl _ w).setCells (.inr (by simp [Value.ownBlock])) _ _, .inl rfl⟩
        have h2 := Blk.setCells [iv x] (0 + xs.length) hbk
        rw [show setL (xs.map iv ++ z :: zs) (0 + xs.length) [iv x] = EI.flat (xs ++ [x]) ++ zs by
          have := ins_list0 (xs.map iv) zs (iv x) z
          rw [List.length_map] at this
          rw [Nat.zero_add, this, flat_EI]; simp] at h2
        rw [show xs.length + 1 = (xs ++ [x]).length by simp]
        exact Own.of_blk h2 (by simp [EI]; omega) (by simp; omega) hcm
      · refine (Any2.slices_Insert_int_end_grow insLays (some ⟨g, 0, none⟩) xs.length cap vb 0 1 1 (xs.map iv) [iv x] w (by omega) hnc (by omega) (by omega) (by simp) rfl (fun h => by cases h) (fun a h j u hj => by
          cases h
          have := hcs j u hj
          unfold Addr.add
          split
          · rename_i h0; subst h0; simpa using this
          · simpa using this) hvs h1v).mono ?_
        rintro e w' ⟨rfl, rfl⟩
        obtain ⟨hc1, hc2⟩ := hcap (xs.length + 1) cap (by omega)
        refine ⟨_, rfl, ?_, ((Kp.refl _ w).drew).alloc _, .inr rfl⟩
        have := Own.of_alloc (t := insRen.t 3) w.drew ((xs.map iv ++ [iv x]).toArray ++ Builtin.zeroCells (Value.int .i64 0).cells (grownCap w (xs.length + 1) cap (insRen.t 3) - (xs.length + 1))) (xs ++ [x]) (List.replicate (grownCap w (xs.length + 1) cap (insRen.t 3) - (xs.length + 1)) (iv 0)) (grownCap w (xs.length + 1) cap (insRen.t 3)) (by rw [Array.toList_append, zeroI]; simp) (by simp; omega) hc1
        rw [List.length_append] at this
        exact this
    · obtain ⟨a, y, d, rfl, rfl⟩ : ∃ a y d, xs = a ++ y :: d ∧ a.length = i := ⟨xs.take i, xs[i]'(by omega), xs.drop (i + 1), by rw [← List.drop_eq_getElem_cons]; exact (List.take_append_drop i xs).symm, by rw [List.length_take]; omega⟩
      have hdr : ((a ++ y :: d).map iv).drop a.length = iv y :: d.map iv := by
        rw [List.map_append, List.drop_left' (by simp)]; rfl
      have htk : ((a ++ y :: d).map iv).take a.length = a.map iv := by
        rw [List.map_append, List.take_left' (by simp)]
      have hres : (a ++ y :: d).take a.length ++ x :: (a ++ y :: d).drop a.length = a ++ x :: y :: d := by
        rw [List.take_left' rfl, List.drop_left' rfl]
      have hnl : (a ++ y :: d).length = a.length + d.length + 1 := by simp; omega
      rw [hres]
      by_cases hroom : (a ++ y :: d).length + 1 ≤ cap
      · obtain ⟨z, zs, rfl⟩ : ∃ z zs, us = z :: zs := by
          cases us with
          | nil => simp at hu; simp at hroom; omega
          | cons z zs => exact ⟨z, zs, rfl⟩
        simp only [List.length_cons] at hu
        refine (Any2.slices_Insert_int_shift insLays g 0 (a ++ y :: d).length cap a.length vb 0 1 1 ((a ++ y :: d).map iv) [iv x] w (by omega) (by omega) hroom (by omega) hne' (by simp) rfl hcs (fun j hj => by rw [Nat.zero_add]; exact hsome _ (by omega)) (fun j hj => hbk.frozen _) hvs (iv_one _) h1v
          3 3 1 _ (by unfold World.shape?; rw [show w.heap[vb]? = _ from hB]; rfl) (by unfold World.shape?; rw [show w.heap[g]? = _ from hbk]) (by simp) (hB.frozen _) (hB.frozen _)).mono ?_
        rintro e w' ⟨rfl, rfl⟩
        refine ⟨_, rfl, ?_, ((Kp.refl _ w).drew.setCells (.inr (by simp [Value.ownBlock])) _ _).setCells (.inr (by simp [Value.ownBlock])) _ _, .inl rfl⟩
        have h2 := Blk.setCells [iv x] (0 + a.length) (Blk.setCells (((a ++ y :: d).map iv).drop a.length) (0 + (a.length + 1)) (show Blk w.drew g 3 ((a ++ y :: d).map iv ++ z :: zs).toArray from hbk))
        rw [show setL (setL ((a ++ y :: d).map iv ++ z :: zs) (0 + (a.length + 1)) (((a ++ y :: d).map iv).drop a.length)) (0 + a.length) [iv x] = EI.flat (a ++ x :: y :: d) ++ zs by
          have := ins_list (a.map iv) (d.map iv) zs (iv y) (iv x) z
          rw [List.length_map] at this
          rw [Nat.zero_add, Nat.zero_add, hdr, flat_EI, List.map_append, List.map_append]
          exact this] at h2
        rw [show (a ++ y :: d).length + 1 = (a ++ x :: y :: d).length by simp; omega]
        exact Own.of_blk h2 (by simp [EI]; simp at hu; omega) (by simp; simp at hroom; omega) hcm
      · refine (Any2.slices_Insert_int_grow insLays g 0 (a ++ y :: d).length cap a.length vb 0 1 1 ((a ++ y :: d).map iv) [iv x] w (by omega) (by omega) hnc (by omega) (by omega) (by simp) rfl hcs hvs (iv_one _) h1v).mono ?_
        rintro e w' ⟨rfl, rfl⟩
        obtain ⟨G, hG⟩ : ∃ G, grownCap w ((a ++ y :: d).length + 1) cap (insRen.t 3) = G := ⟨_, rfl⟩
        obtain ⟨hc1, hc2⟩ := hcap ((a ++ y :: d).length + 1) cap (by omega)
        rw [hG] at hc1 hc2 ⊢
        rw [htk]
        refine ⟨_, rfl, ?_, (((Kp.refl _ w).alloc _).drew.setCells (.inl (Nat.le_refl _)) _ _).drew.setCells (.inl (Nat.le_refl _)) _ _, .inr rfl⟩
        obtain ⟨A, hA⟩ : ∃ A, (a.map iv).toArray ++ Builtin.zeroCells (Value.int .i64 0).cells ((a ++ y :: d).length + 1 - a.length) ++ Builtin.zeroCells (Value.int .i64 0).cells (G - ((a ++ y :: d).length + 1)) = A := ⟨_, rfl⟩
        have hA2 : A = (a.map iv ++ (iv 0 :: List.replicate (d.length + 1) (iv 0)) ++ List.replicate (G - ((a ++ y :: d).length + 1)) (iv 0)).toArray := by
          rw [← hA]
          apply Array.ext'
          rw [Array.toList_append, Array.toList_append, zeroI, zeroI, ← List.replicate_succ, show (a ++ y :: d).length + 1 - a.length = d.length + 1 + 1 by omega]
        rw [hA]
        have h0 := Blk.new w (insRen.t 3) A
        rw [hA2] at h0
        have h2 := Blk.setCells (((a ++ y :: d).map iv).drop a.length) (a.length + 1) (show Blk (((w.alloc (.cells A (insRen.t 3))).drew.setCells w.heap.size a.length [iv x]).drew) w.heap.size (insRen.t 3) _ from Blk.setCells [iv x] a.length (show Blk (w.alloc (.cells A (insRen.t 3))).drew w.heap.size (insRen.t 3) _ from by rw [hA2]; exact h0))
        rw [show setL (setL (a.map iv ++ (iv 0 :: List.replicate (d.length + 1) (iv 0)) ++ List.replicate (G - ((a ++ y :: d).length + 1)) (iv 0)) a.length [iv x]) (a.length + 1) (((a ++ y :: d).map iv).drop a.length) = EI.flat (a ++ x :: y :: d) ++ List.replicate (G - ((a ++ y :: d).length + 1)) (iv 0) by
          have := ins_list2 (a.map iv) (iv y :: d.map iv) (List.replicate (G - ((a ++ y :: d).length + 1)) (iv 0)) (iv x) (iv 0) (List.replicate (d.length + 1) (iv 0)) (by simp)
          rw [List.length_map] at this
          rw [hdr, flat_EI, this, List.map_append]; rfl] at h2
        rw [show (a ++ y :: d).length + 1 = (a ++ x :: y :: d).length by simp; omega]
        exact Own.of_blk h2 (by simp [EI]; simp at hc2; omega) (by simp; simp at hc2; omega) hc1

theorem delI_calls (v : Value) (xs : List Int) (w : World) (hO : Own EI 3 w v xs) (h0 : 0 < xs.length) (hb : xs.length ≤ 100000) :
    Calls Tryz.prog 146 #[v, .int .i64 0, .int .i64 1] w fun e w' => ∃ v', e = .returned v' ∧ Own EI 3 w' v' xs.tail ∧ Kp (fun k => v.ownBlock ≠ some k) w w' ∧ v'.ownBlock = v.ownBlock := by
  rcases hO.2 with ⟨rfl, hn⟩ | ⟨g, cap, cur, hv, _⟩
  · omega
  · subst hv
    obtain ⟨us, hbk, hu, _, hnc, hcm⟩ := hO.block
    rw [flat_EI] at hbk
    have hmx : maxLen ≤ 9223372036854775807 := by unfold maxLen; omega
    refine (Tryz.slices_Delete_int_cells g 0 xs.length cap 0 1 xs w (Nat.le_refl _) hnc (by omega) (by omega) h0 (fun j hj => by
      rw [Nat.zero_add, hbk.cell j, List.getElem?_toArray, List.getElem?_append_left (by simpa using hj), List.getElem?_map, List.getElem?_eq_getElem hj, List.getD_eq_getElem?_getD, List.getElem?_eq_getElem hj]; rfl) (fun j hj => hbk.frozen _)).mono ?_
    rintro e w' ⟨rfl, q, rfl⟩
    have hp := hO.putI xs.tail [0] (by simp; omega) q
    rw [List.length_tail] at hp
    refine ⟨_, rfl, ?_, (Kp.refl _ w).drewN q |>.setCells (.inr (by simp [Value.ownBlock])) _ _, rfl⟩
    rw [List.take_zero, List.nil_append, List.take_length, List.drop_one]
    exact hp

theorem revI_calls (v : Value) (xs : List Int) (w : World) (hO : Own EI 3 w v xs) (hb : xs.length ≤ 100000) :
    Calls Tryz.prog 65 #[v] w fun e w' => (∃ r, e = .returned r) ∧ Own EI 3 w' v xs.reverse ∧ Kp (fun k => v.ownBlock ≠ some k) w w' := by
  rcases hO.2 with ⟨rfl, hn⟩ | ⟨g, cap, cur, hv, _⟩
  · have hx : xs = [] := List.eq_nil_of_length_eq_zero hn
    subst hx
    refine (Tryz.slices_Reverse_int_empty none 0 w).mono ?_
    rintro e w' ⟨rfl, rfl⟩
    exact ⟨⟨_, rfl⟩, hO, Kp.refl _ _⟩
  · subst hv
    obtain ⟨us, hbk, hu, _, hnc, hcm⟩ := hO.block
    rw [flat_EI] at hbk
    refine (Tryz.slices_Reverse_int_cells g 0 xs.length cap xs w (Nat.le_refl _) (by omega) (fun j hj => by
      rw [Nat.zero_add, hbk.cell j, List.getElem?_toArray, List.getElem?_append_left (by simpa using hj), List.getElem?_map, List.getElem?_eq_getElem hj, List.getD_eq_getElem?_getD, List.getElem?_eq_getElem hj]; rfl) (fun j hj => hbk.frozen _)).mono ?_
    rintro e w' ⟨rfl, q, rfl⟩
    have hp := hO.putI xs.reverse [] (by simp) q
    rw [List.length_reverse, List.append_nil] at hp
    refine ⟨⟨_, rfl⟩, ?_, (Kp.refl _ w).drewN q |>.setCells (.inr (by simp [Value.ownBlock])) _ _⟩
    rw [List.take_length]
    exact hp

set_option maxHeartbeats 400000 in
/-- cortege/cortegelaw0.SameInts. -/
theorem sameInts_calls (v u : Value) (xs ys : List Int) (S T : Fp) (w : World) (hR : Rd EI S w v xs) (hR' : Rd EI T w u ys) :
    Calls Tryz.prog 26 #[v, u] w fun e w' => e = .returned (.bool (decide (xs = ys))) ∧ Ext w w' := by
  obtain ⟨A, c, rfl, hO⟩ := hR.open_
  obtain ⟨A', c', rfl, hO'⟩ := hR'.open_
  have hlen := hO.len
  have hlen' := hO'.len
  clear hR hR'
  by_cases hn : xs.length = ys.length
  · have HO := Lib.hid hO
    have HO' := Lib.hid hO'
    have HN := Lib.hid hn
    obtain ⟨n, hxn⟩ : ∃ n, n = xs.length := ⟨_, rfl⟩
    have hyn : n = ys.length := hxn.trans hn
    have HX := Lib.hid hxn
    have HY := Lib.hid hyn
    rw [← hxn] at hlen ⊢
    rw [← hyn] at hlen' ⊢
    clear hO hO' hn hxn hyn
    go_enter Tryz.func26, Tryz.ntmps26
    go_wp2_with fail
    go_loopw [5] (fun i wr => ∃ k : Nat, k ≤ n ∧ i = .int .i64 k ∧ xs.take k = ys.take k ∧ Ext w wr) (fun i _ => n - (intOf i).toNat)
    case atStart => exact ⟨0, Nat.zero_le _, rfl, rfl, Kp.refl _ _⟩
    case round =>
      obtain ⟨k, hk, rfl, hs, hx⟩ := hrel
      rename_i wr
      by_cases hlt : k < n
      · have hd3 : decide ((k : Int) < (n : Int)) = true := decide_eq_true (by omega)
        have hkx : k < xs.length := by have := HX.out; omega
        have hky : k < ys.length := by have := HY.out; omega
        have hst : (xs.take (k + 1) = ys.take (k + 1)) ↔ xs[k] = ys[k] := by
          rw [take_snoc xs hkx, take_snoc ys hky, hs, List.append_cancel_left_eq]; simp
        have hst2 : xs[k] ≠ ys[k] → xs ≠ ys := fun h e => h (by subst e; rfl)
        obtain ⟨f, hf⟩ : ∃ f, xs[k] = f := ⟨_, rfl⟩
        obtain ⟨g, hg⟩ : ∃ g, ys[k] = g := ⟨_, rfl⟩
        obtain ⟨b, off, rfl, _, hb, c0⟩ := (HO.out.rd.kp (hx.mono fun _ _ _ => trivial)).num hkx
        obtain ⟨b', off', rfl, _, hb', d0⟩ := (HO'.out.rd.kp (hx.mono fun _ _ _ => trivial)).num hky
        have hlt' : (k : Int) < (n : Int) := by omega
        have h0 : (0 : Int) ≤ (k : Int) := by omega
        have hw : IntKind.i64.wrap ((k : Int) + 1) = (k : Int) + 1 := IntWalk.i64_in _ (by omega)
        rw [hf] at c0
        rw [hg] at d0
        rw [hf, hg] at hst hst2
        have HS := Lib.hid hst
        have HS2 := Lib.hid hst2
        clear hst hst2 hs hf hg hkx hky
        by_cases hfg : f = g
        · have hne : (f != g) = false := by rw [hfg]; simp
          go_wp2_with fail
          go_quiet (fail)
          go_wp2_with fail
          go_roundw
          case rel => exact ⟨k + 1, by omega, by go_num, HS.out.2 hfg, hx.drewN _⟩
          case measure => simp [intOf]; omega
        · have hne : (f != g) = true := by simpa using hfg
          go_wp2_with fail
          go_quiet (fail)
          go_wp2_with fail
          go_ret
          exact ⟨by rw [decide_eq_false (HS2.out hfg)]; rfl, hx.drewN _⟩
      · have hd3 : decide ((k : Int) < (n : Int)) = false := decide_eq_false (by omega)
        have hres : xs = ys := by
          rw [List.take_of_length_le (by have := HX.out; omega), List.take_of_length_le (by have := HY.out; omega)] at hs; exact hs
        go_wp2_with fail
        go_ret
        exact ⟨by rw [decide_eq_true hres]; rfl, hx⟩
  · have hd1 : ((xs.length : Int) == (ys.length : Int)) = false := by
      rw [beq_eq_false_iff_ne]; omega
    have hd2 : (xs.length == ys.length) = false := by rw [beq_eq_false_iff_ne]; exact hn
    have hd3 : ((xs.length : Int) != (ys.length : Int)) = true := by rw [bne, hd1]; rfl
    have hd4 : (xs.length != ys.length) = true := by rw [bne, hd2]; rfl
    have hres : xs ≠ ys := fun h => hn (by rw [h])
    go_enter Tryz.func26, Tryz.ntmps26
    go_wp2_with fail
    go_ret
    exact ⟨by rw [decide_eq_false hres]; rfl, Kp.refl _ _⟩

set_option maxHeartbeats 400000 in
/-- cortege/cortegeref10.SameInts. -/
theorem refSameInts_calls (v u : Value) (xs ys : List Int) (S T : Fp) (w : World) (hR : Rd EI S w v xs) (hR' : Rd EI T w u ys) :
    Calls Tryz.prog 156 #[v, u] w fun e w' => e = .returned (.bool (decide (xs = ys))) ∧ Ext w w' := by
  obtain ⟨A, c, rfl, hO⟩ := hR.open_
  obtain ⟨A', c', rfl, hO'⟩ := hR'.open_
  have hlen := hO.len
  have hlen' := hO'.len
  clear hR hR'
  by_cases hn : xs.length = ys.length
  · have HO := Lib.hid hO
    have HO' := Lib.hid hO'
    have HN := Lib.hid hn
    obtain ⟨n, hxn⟩ : ∃ n, n = xs.length := ⟨_, rfl⟩
    have hyn : n = ys.length := hxn.trans hn
    have HX := Lib.hid hxn
    have HY := Lib.hid hyn
    rw [← hxn] at hlen ⊢
    rw [← hyn] at hlen' ⊢
    clear hO hO' hn hxn hyn
    go_enter Tryz.func156, Tryz.ntmps156
    go_wp2_with fail
    go_loopw [5] (fun i wr => ∃ k : Nat, k ≤ n ∧ i = .int .i64 k ∧ xs.take k = ys.take k ∧ Ext w wr) (fun i _ => n - (intOf i).toNat)
    case atStart => exact ⟨0, Nat.zero_le _, rfl, rfl, Kp.refl _ _⟩
    case round =>
      obtain ⟨k, hk, rfl, hs, hx⟩ := hrel
      rename_i wr
      by_cases hlt : k < n
      · have hd3 : decide ((k : Int) < (n : Int)) = true := decide_eq_true (by omega)
        have hkx : k < xs.length := by have := HX.out; omega
        have hky : k < ys.length := by have := HY.out; omega
        have hst : (xs.take (k + 1) = ys.take (k + 1)) ↔ xs[k] = ys[k] := by
          rw [take_snoc xs hkx, take_snoc ys hky, hs, List.append_cancel_left_eq]; simp
        have hst2 : xs[k] ≠ ys[k] → xs ≠ ys := fun h e => h (by subst e; rfl)
        obtain ⟨f, hf⟩ : ∃ f, xs[k] = f := ⟨_, rfl⟩
        obtain ⟨g, hg⟩ : ∃ g, ys[k] = g := ⟨_, rfl⟩
        obtain ⟨b, off, rfl, _, hb, c0⟩ := (HO.out.rd.kp (hx.mono fun _ _ _ => trivial)).num hkx
        obtain ⟨b', off', rfl, _, hb', d0⟩ := (HO'.out.rd.kp (hx.mono fun _ _ _ => trivial)).num hky
        have hlt' : (k : Int) < (n : Int) := by omega
        have h0 : (0 : Int) ≤ (k : Int) := by omega
        have hw : IntKind.i64.wrap ((k : Int) + 1) = (k : Int) + 1 := IntWalk.i64_in _ (by omega)
        rw [hf] at c0
        rw [hg] at d0
        rw [hf, hg] at hst hst2
        have HS := Lib.hid hst
        have HS2 := Lib.hid hst2
        clear hst hst2 hs hf hg hkx hky
        by_cases hfg : f = g
        · have hne : (f != g) = false := by rw [hfg]; simp
          go_wp2_with fail
          go_quiet (fail)
          go_wp2_with fail
          go_roundw
          case rel => exact ⟨k + 1, by omega, by go_num, HS.out.2 hfg, hx.drewN _⟩
          case measure => simp [intOf]; omega
        · have hne : (f != g) = true := by simpa using hfg
          go_wp2_with fail
          go_quiet (fail)
          go_wp2_with fail
          go_ret
          exact ⟨by rw [decide_eq_false (HS2.out hfg)]; rfl, hx.drewN _⟩
      · have hd3 : decide ((k : Int) < (n : Int)) = false := decide_eq_false (by omega)
        have hres : xs = ys := by
          rw [List.take_of_length_le (by have := HX.out; omega), List.take_of_length_le (by have := HY.out; omega)] at hs; exact hs
        go_wp2_with fail
        go_ret
        exact ⟨by rw [decide_eq_true hres]; rfl, hx⟩
  · have hd1 : ((xs.length : Int) == (ys.length : Int)) = false := by
      rw [beq_eq_false_iff_ne]; omega
    have hd2 : (xs.length == ys.length) = false := by rw [beq_eq_false_iff_ne]; exact hn
    have hd3 : ((xs.length : Int) != (ys.length : Int)) = true := by rw [bne, hd1]; rfl
    have hd4 : (xs.length != ys.length) = true := by rw [bne, hd2]; rfl
    have hres : xs ≠ ys := fun h => hn (by rw [h])
    go_enter Tryz.func156, Tryz.ntmps156
    go_wp2_with fail
    go_ret
    exact ⟨by rw [decide_eq_false hres]; rfl, Kp.refl _ _⟩

end Go.Proofs.YtgjbfkaepalkiaaGreatDoor
