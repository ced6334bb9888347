/-
  slices.Clone, slices.Reverse at changes; patch.Turn.
-/
import Derived.Test.YtinafpbdlblcaaaDoorPlain4
namespace Go.Proofs.YtinafpbdlblcaaaDoor
open Go.RowKit
set_option linter.unusedVariables false
set_option linter.unusedSimpArgs false
attribute [local go_sem] Oper.semAt_some

/-- slices.Clone, at changes. -/
theorem cloneC_calls (v : Value) (xs : List Ch) (S : Fp) (w : World) (hR : Rd EC S w v xs) (hb : xs.length ≤ 1000000) :
    Calls Tryd.prog 60 #[v] w fun e w' => ∃ u, e = .returned u ∧ New EC 57 w.heap.size w' u xs ∧ Ext w w' := by
  obtain ⟨A, c, rfl, hO⟩ := hR.open_
  have hnil := fun W a n c => Lib.run_eql_slice_nil (P := Tryd.prog) W 51 _ a n c 0 0 Tryd.underlying51
  cases A with
  | none =>
    obtain ⟨rfl, rfl⟩ := hO.none_
    clear hb hR hO
    go_enter Tryd.func60, Tryd.ntmps60
    go_wp2_with fail
    go_ret
    exact ⟨.slice none 0 0, rfl, New.nil _ _ _, Kp.refl _ w⟩
  | some ad =>
    go_enter Tryd.func60, Tryd.ntmps60
    go_wp2_with (at_builtin; refine stop ?_)
    refine list_append (v := .slice (some ⟨w.heap.size, 0, none⟩) 0 0) tiC rfl rfl rfl rfl (Own.made w 57 ([] : List Ch) (Nat.zero_le _)) ((hR.kp ((Kp.refl _ w).alloc _))) (by simp; omega) (by simp [maxLen]; omega) ?_
    intro v' w' hown hkp hblk
    clear hnil
    go_wp2_with fail
    go_ret
    have hz : w.heap.size + 1 ≤ w'.heap.size := by simpa using hkp.size
    refine ⟨v', rfl, ⟨hown, fun g hg => ?_⟩, ((Kp.refl _ w).alloc _).trans' hkp fun k hk _ => ?_⟩
    · rcases hblk with h | h
      · rw [h] at hg; simp [Value.ownBlock] at hg; omega
      · rw [h] at hg; simp at hg; omega
    · simp [Value.ownBlock]; omega

/-- One change is stored over another one. -/
theorem Own.setC {t : TypeId} {w : World} {g n c : Nat} {xs : List Ch} (h : Own EC t w (.slice (some ⟨g, 0, none⟩) n c) xs) {i : Nat} (hi : i < xs.length) (y : Ch) :
    Own EC t (((((w.setCell ⟨g, i * 5, none⟩ (.string y.path)).setCell ⟨g, i * 5 + 1, none⟩ (.bool y.was)).setCell ⟨g, i * 5 + 2, none⟩ (.bool y.is)).setCell ⟨g, i * 5 + 3, none⟩ (.string y.old)).setCell ⟨g, i * 5 + 4, none⟩ (.string y.new)) (.slice (some ⟨g, 0, none⟩) n c) (xs.set i y) := by
  obtain ⟨hl, h2⟩ := h
  rcases h2 with ⟨h1, _⟩ | ⟨g', cap, cur, h1, hb, hg, hn, hm, hs, ht⟩
  · cases h1
  · injection h1 with h1 h1' h1''
    injection h1 with h1
    injection h1 with h1
    subst h1 h1' h1''
    have hfl : ∀ (l : List Ch) (i : Nat) (y : Ch), EC.flat (l.set i y) = (((((EC.flat l).set (i * 5) (.string y.path)).set (i * 5 + 1) (.bool y.was)).set (i * 5 + 2) (.bool y.is)).set (i * 5 + 3) (.string y.old)).set (i * 5 + 4) (.string y.new) := by
      intro l
      induction l with
      | nil => intro i y; simp [El.flat]
      | cons z l ih =>
        intro i y
        cases i with
        | zero => rfl
        | succ i =>
          rw [List.set_cons_succ, EC.flat_cons, EC.flat_cons, ih]
          show _ = (((((EC.enc z ++ EC.flat l).set ((i + 1) * 5) _).set ((i + 1) * 5 + 1) _).set ((i + 1) * 5 + 2) _).set ((i + 1) * 5 + 3) _).set ((i + 1) * 5 + 4) _
          rw [show (i + 1) * 5 = i * 5 + 5 by omega]
          rfl
    have hh : (((((w.setCell ⟨g, i * 5, none⟩ (.string y.path)).setCell ⟨g, i * 5 + 1, none⟩ (.bool y.was)).setCell ⟨g, i * 5 + 2, none⟩ (.bool y.is)).setCell ⟨g, i * 5 + 3, none⟩ (.string y.old)).setCell ⟨g, i * 5 + 4, none⟩ (.string y.new)).heap[g]? = some (.cells (((((cur.setIfInBounds (i * 5) (.string y.path)).setIfInBounds (i * 5 + 1) (.bool y.was)).setIfInBounds (i * 5 + 2) (.bool y.is)).setIfInBounds (i * 5 + 3) (.string y.old)).setIfInBounds (i * 5 + 4) (.string y.new)) t (0, 0)) :=
      Blk.set_ (Blk.set_ (Blk.set_ (Blk.set_ (Blk.set_ (show Blk w g t cur from hg) (i * 5) (.string y.path)) (i * 5 + 1) (.bool y.was)) (i * 5 + 2) (.bool y.is)) (i * 5 + 3) (.string y.old)) (i * 5 + 4) (.string y.new)
    refine ⟨by rw [hfl]; simpa using hl, .inr ⟨g, c, _, by rw [List.length_set], hb, hh, by rw [List.length_set]; exact hn, hm, by simpa using hs, ?_⟩⟩
    rw [hfl, ← ht, List.length_set]
    simp only [Array.toList_setIfInBounds]
    show List.take (xs.length * 5) _ = (((((List.take (xs.length * 5) _).set _ _).set _ _).set _ _).set _ _).set _ _
    rw [List.take_set, List.take_set, List.take_set, List.take_set, List.take_set]
theorem Own.ch {t : TypeId} {w : World} {g n c : Nat} {xs : List Ch} (h : Own EC t w (.slice (some ⟨g, 0, none⟩) n c) xs) {i : Nat} {x : Ch} (hx : xs[i]? = some x) :
    w.cell? ⟨g, i * 5, none⟩ = some (.string x.path) ∧ w.cell? ⟨g, i * 5 + 1, none⟩ = some (.bool x.was) ∧ w.cell? ⟨g, i * 5 + 2, none⟩ = some (.bool x.is) ∧ w.cell? ⟨g, i * 5 + 3, none⟩ = some (.string x.old) ∧ w.cell? ⟨g, i * 5 + 4, none⟩ = some (.string x.new) := by
  obtain ⟨hi, rfl⟩ := List.getElem?_eq_some_iff.1 hx
  obtain ⟨A, c', hv, _, _, _, hA⟩ := h.rd
  obtain ⟨b, off, h1, _, _, h2, h3, h4, h5, h6⟩ := hA.ch hi
  cases hv
  cases h1
  simp only [Nat.zero_add] at h2 h3 h4 h5 h6
  exact ⟨h2, h3, h4, h5, h6⟩

/-- Turned round so far. -/
def revL {α : Type} (xs : List α) (k : Nat) : List α := List.ofFn fun i : Fin xs.length => if i.val < k ∨ xs.length ≤ i.val + k then xs[xs.length - 1 - i.val]'(by have := i.isLt; omega) else xs[i.val]
theorem revL_length {α : Type} (xs : List α) (k : Nat) : (revL xs k).length = xs.length := by simp [revL]
theorem revL_get {α : Type} (xs : List α) (k i : Nat) (h : i < xs.length) : (revL xs k)[i]'(by rw [revL_length]; exact h) = if i < k ∨ xs.length ≤ i + k then xs[xs.length - 1 - i]'(by omega) else xs[i] := by simp [revL]
theorem revL_zero {α : Type} (xs : List α) : revL xs 0 = xs := by
  refine List.ext_getElem (revL_length _ _) fun i h1 h2 => ?_
  rw [revL_get _ _ _ h2, if_neg (by omega)]
theorem revL_at {α : Type} (xs : List α) (k i : Nat) (h : i < xs.length) (h1 : k ≤ i) (h2 : i + k < xs.length) : (revL xs k)[i]? = some xs[i] := by
  rw [List.getElem?_eq_getElem (by rw [revL_length]; exact h), revL_get _ _ _ h, if_neg (by omega)]
theorem revL_next {α : Type} (xs : List α) (k : Nat) (h : k + k + 1 < xs.length) : ((revL xs k).set k (xs[xs.length - 1 - k]'(by omega))).set (xs.length - 1 - k) (xs[k]'(by omega)) = revL xs (k + 1) := by
  refine List.ext_getElem (by simp [revL_length]) fun i h1 h2 => ?_
  rw [revL_length] at h2
  rw [List.getElem_set, List.getElem_set, revL_get _ _ _ h2, revL_get _ _ _ h2]
  by_cases e1 : xs.length - 1 - k = i
  · subst e1
    rw [if_pos rfl, if_pos (by omega)]
    congr 1; omega
  · rw [if_neg e1]
    by_cases e2 : k = i
    · subst e2
      rw [if_pos rfl, if_pos (by omega)]
    · rw [if_neg e2]
      by_cases e3 : i < k ∨ xs.length ≤ i + k
      · rw [if_pos e3, if_pos (by omega)]
      · rw [if_neg e3, if_neg (by omega)]
theorem revL_done {α : Type} (xs : List α) (k : Nat) (h : xs.length ≤ k + k + 1) : revL xs k = xs.reverse := by
  refine List.ext_getElem (by simp [revL_length]) fun i h1 h2 => ?_
  rw [revL_length] at h1
  rw [List.getElem_reverse, revL_get _ _ _ h1]
  split
  · rfl
  · congr 1; omega

set_option maxHeartbeats 1000000 in
set_option maxRecDepth 100000 in
/-- slices.Reverse, at changes. -/
theorem reverse_calls (g c : Nat) (xs : List Ch) (n : Nat) (hn : xs.length = n) (hl : n ≤ 1000000) (w : World) (h : Own EC 57 w (.slice (some ⟨g, 0, none⟩) n c) xs) :
    Calls Tryd.prog 61 #[.slice (some ⟨g, 0, none⟩) n c] w fun e w' => (∃ v, e = .returned v) ∧
      Own EC 57 w' (.slice (some ⟨g, 0, none⟩) n c) xs.reverse ∧ Kp (fun k => k ≠ g) w w' := by
  have hw0 : IntKind.i64.wrap ((n : Int) - 1) = (n : Int) - 1 := IntWalk.i64_in _ (by omega)
  go_enter Tryd.func61, Tryd.ntmps61
  have HN := Lib.hid hn
  clear hn
  go_wp2_with fail
  clear hw0
  go_loopw [2, 3] (fun i j wr => ∃ (k : Nat) (q : Int), k ≤ n ∧ i = .int .i64 k ∧ j = .int .i64 q ∧ q = (n : Int) - 1 - (k : Int) ∧ Own EC 57 wr (.slice (some ⟨g, 0, none⟩) n c) (revL xs k) ∧ Kp (fun j => j ≠ g) w wr) (fun i _ _ => n - (intOf i).toNat)
  case atStart => exact ⟨0, (n : Int) - 1, Nat.zero_le _, rfl, rfl, by simp, by rw [revL_zero]; exact h, Kp.refl _ _⟩
  case round =>
    obtain ⟨k, q', hk, rfl, rfl, hq', hOwn, hKp⟩ := hrel
    rename World => wo
    by_cases hlt : k + k + 1 < n
    · obtain ⟨q, hq⟩ : ∃ q : Nat, n - 1 - k = q := ⟨_, rfl⟩
      have hqi : q' = (q : Int) := by omega
      subst hqi
      have hd : decide ((k : Int) < (q : Int)) = true := decide_eq_true (by omega)
      have hdN : k < q := by omega
      have h1 := HN.out
      have hgx := revL_at xs k k (by omega) (Nat.le_refl _) (by omega)
      have hgy := revL_at xs k q (by omega) (by omega) (by omega)
      have hnx := revL_next xs k (by omega)
      have hqe : xs.length - 1 - k = q := by omega
      have hgq : xs[xs.length - 1 - k]'(by omega) = xs[q]'(by omega) := by congr 1
      rw [hgq, hqe] at hnx
      obtain ⟨x, hxk⟩ : ∃ x, xs[k]'(by omega) = x := ⟨_, rfl⟩
      obtain ⟨y, hyk⟩ : ∃ y, xs[q]'(by omega) = y := ⟨_, rfl⟩
      rw [hxk] at hgx hnx
      rw [hyk] at hgy hnx
      obtain ⟨cx0, cx1, cx2, cx3, cx4⟩ := hOwn.ch hgx
      obtain ⟨cy0, cy1, cy2, cy3, cy4⟩ := hOwn.ch hgy
      have fx0 := hOwn.free (k * 5)
      have fx1 := hOwn.free (k * 5 + 1)
      have fx2 := hOwn.free (k * 5 + 2)
      have fx3 := hOwn.free (k * 5 + 3)
      have fx4 := hOwn.free (k * 5 + 4)
      have fy0 := hOwn.free (q * 5)
      have fy1 := hOwn.free (q * 5 + 1)
      have fy2 := hOwn.free (q * 5 + 2)
      have fy3 := hOwn.free (q * 5 + 3)
      have fy4 := hOwn.free (q * 5 + 4)
      have hpq : k ≠ q := by omega
      have hw : IntKind.i64.wrap ((k : Int) + 1) = (k : Int) + 1 := IntWalk.i64_in _ (by omega)
      have hw2 : IntKind.i64.wrap ((q : Int) - 1) = (q : Int) - 1 := IntWalk.i64_in _ (by omega)
      have hp1 : (k : Int) < (n : Int) := by omega
      have hq1 : (q : Int) < (n : Int) := by omega
      have hp0 : (0 : Int) ≤ (k : Int) := by omega
      have hq0 : (0 : Int) ≤ (q : Int) := by omega
      have HNX := Lib.hid hnx
      have HGX := Lib.hid hgx
      have HGY := Lib.hid hgy
      have HQ := Lib.hid hq
      clear h1 hxk hyk hnx hgx hgy hgq hqe hq hq'
      go_wp2_with fail
      go_region
      go_wp2_with fail
      go_roundw
      case rel =>
        refine ⟨k + 1, (q : Int) - 1, by omega, by go_num, rfl, by have := HQ.out; omega, ?_, ((((((((((hKp.setCell (.inr (by simp)) _).setCell (.inr (by simp)) _).setCell (.inr (by simp)) _).setCell (.inr (by simp)) _).setCell (.inr (by simp)) _).setCell (.inr (by simp)) _).setCell (.inr (by simp)) _).setCell (.inr (by simp)) _).setCell (.inr (by simp)) _).setCell (.inr (by simp)) _).drew⟩
        · have h1 := (hOwn.setC (i := k) (List.getElem?_eq_some_iff.1 HGX.out).1 y).setC (i := q) (by rw [List.length_set]; exact (List.getElem?_eq_some_iff.1 HGY.out).1) x
          rw [HNX.out] at h1
          exact h1.kp (S := All) ((Kp.refl _ _).drew) (fun _ _ => trivial)
      case measure => simp [intOf]; omega
    · have hd : decide ((k : Int) < q') = false := decide_eq_false (by omega)
      rw [revL_done xs k (by have := HN.out; omega)] at hOwn
      go_wp2_with fail
      exact bodyPost_end (results_none rfl _ _ _) rfl ⟨⟨_, rfl⟩, hOwn, hKp⟩

theorem reverseNil_calls (w : World) :
    Calls Tryd.prog 61 #[.slice none 0 0] w fun e w' => (∃ v, e = .returned v) ∧ w' = w := by
  have hw0 : IntKind.i64.wrap ((0 : Int) - 1) = -1 := by decide
  go_enter Tryd.func61, Tryd.ntmps61
  go_wp2_with fail
  refine wp_loop_once ?_
  go_wp2_with fail
  exact bodyPost_end (results_none rfl _ _ _) rfl ⟨⟨_, rfl⟩, rfl⟩

def turnAt (xs : List Ch) (k : Nat) : List Ch := (xs.take k).map Ch.turn ++ xs.drop k
theorem turnAt_get (xs : List Ch) (k : Nat) (h : k < xs.length) : (turnAt xs k)[k]? = some xs[k] := by
  unfold turnAt
  rw [List.getElem?_append_right (by simp; omega)]
  simp [List.length_take, Nat.min_eq_left (Nat.le_of_lt h), List.getElem?_drop]
theorem turnAt_next (xs : List Ch) (k : Nat) (h : k < xs.length) : (turnAt xs k).set k xs[k].turn = turnAt xs (k + 1) := by
  unfold turnAt
  have hl : ((xs.take k).map Ch.turn).length = k := by simp; omega
  rw [List.set_append_right _ _ (by omega), hl, Nat.sub_self, List.drop_eq_getElem_cons h, List.set_cons_zero, take_snoc xs h, List.map_append, List.append_assoc]
  rfl

set_option maxHeartbeats 1000000 in
set_option maxRecDepth 100000 in
/-- patch.Turn. -/
theorem turn_calls (v : Value) (cs : List Ch) (S : Fp) (w : World) (hR : Rd EC S w v cs) (hb : cs.length ≤ 1000) :
    Calls Tryd.prog 37 #[v] w fun e w' => ∃ u, e = .returned u ∧ New EC 57 w.heap.size w' u (cs.map Ch.turn).reverse ∧ Ext w w' := by
  go_enter Tryd.func37, Tryd.ntmps37
  go_wp2_with (go_at_call 60; refine stop ?_)
  refine (cloneC_calls v cs S w hR (by omega)).mono ?_
  rintro e w1 ⟨u, rfl, hN, hx1⟩
  clear hR
  have hslice : (u = .slice none 0 0 ∧ cs = []) ∨ ∃ g n c, u = .slice (some ⟨g, 0, none⟩) n c ∧ cs.length = n := by
    rcases hN.1.2 with ⟨h, h0⟩ | ⟨g, cap, cur, h, _⟩
    · exact .inl ⟨h, List.eq_nil_of_length_eq_zero h0⟩
    · exact .inr ⟨g, _, cap, h, rfl⟩
  rcases hslice with ⟨rfl, rfl⟩ | ⟨g, n, c, rfl, hn⟩
  · clear hb
    go_wp2_with fail
    refine (reverseNil_calls w1).mono ?_
    rintro e w2 ⟨⟨v2, rfl⟩, rfl⟩
    go_wp2_with fail
    refine wp_loop_once ?_
    go_wp2_with fail
    go_ret
    exact ⟨_, rfl, hN, hx1⟩
  · rw [hn] at hb
    go_wp2_with fail
    refine (reverse_calls g c cs n hn (by omega) w1 hN.1).mono ?_
    rintro e w2 ⟨⟨v2, rfl⟩, hO2, hk2⟩
    have hx2 : Ext w w2 := hx1.trans' hk2 fun k hk _ => by have := hN.2 g rfl; omega
    have hg := hN.2 g rfl
    obtain ⟨rs, hrs⟩ : ∃ rs, cs.reverse = rs := ⟨_, rfl⟩
    have hrl : rs.length = n := by rw [← hrs, List.length_reverse, hn]
    have HE : Hid ((cs.map Ch.turn).reverse = rs.map Ch.turn) := Lib.hid (by rw [← hrs, List.map_reverse])
    have HN := Lib.hid hrl
    rw [hrs] at hO2
    clear hN hx1 hk2 hn hrs hrl
    go_wp2_with fail
    go_loopw [12] (fun i wr => ∃ k : Nat, k ≤ n ∧ i = .int .i64 k ∧ Own EC 57 wr (.slice (some ⟨g, 0, none⟩) n c) (turnAt rs k) ∧ Ext w wr) (fun i _ => n - (intOf i).toNat)
    case atStart => exact ⟨0, Nat.zero_le _, rfl, by simpa [turnAt] using hO2, hx2⟩
    case round =>
      obtain ⟨k, hk, rfl, hOwn, hx⟩ := hrel
      rename World => wo
      by_cases hlt : k < n
      · have hd : decide ((k : Int) < (n : Int)) = true := decide_eq_true (by omega)
        have hkr : k < rs.length := by have := HN.out; omega
        have hgx := turnAt_get rs k hkr
        have hnx := turnAt_next rs k hkr
        obtain ⟨x, hxk⟩ : ∃ x, rs[k] = x := ⟨_, rfl⟩
        rw [hxk] at hgx hnx
        have hi : k < (turnAt rs k).length := (List.getElem?_eq_some_iff.1 hgx).1
        have hgl : g < wo.heap.size := hOwn.lt rfl
        obtain ⟨cx0, cx1, cx2, cx3, cx4⟩ := hOwn.ch hgx
        obtain ⟨xp, xw, xi, xo, xn⟩ := x
        dsimp only at cx0 cx1 cx2 cx3 cx4
        have fx0 := hOwn.free (k * 5)
        have fx1 := hOwn.free (k * 5 + 1)
        have fx2 := hOwn.free (k * 5 + 2)
        have fx3 := hOwn.free (k * 5 + 3)
        have fx4 := hOwn.free (k * 5 + 4)
        have hne : g ≠ wo.heap.size := by omega
        have hw : IntKind.i64.wrap ((k : Int) + 1) = (k : Int) + 1 := IntWalk.i64_in _ (by omega)
        have hlt' : (k : Int) < (n : Int) := by omega
        have h0 : (0 : Int) ≤ (k : Int) := by omega
        have HX := Lib.hid hnx
        have HI := Lib.hid hi
        clear hkr hgx hnx hxk hi
        go_wp2_with fail
        go_roundw
        case rel =>
          have hset := hOwn.setC HI.out ⟨xp, xi, xw, xn, xo⟩
          rw [show (turnAt rs k).set k ⟨xp, xi, xw, xn, xo⟩ = turnAt rs (k + 1) from HX.out] at hset
          dsimp only at hset
          refine ⟨k + 1, by omega, by go_num, ?_, ?_⟩
          · exact hset.kp ((Kp.refl _ _).alloc _) (fun _ _ => trivial)
          · exact ((((((hx.setCell (.inl hg) _).setCell (.inl hg) _).setCell (.inl hg) _).setCell (.inl hg) _).setCell (.inl hg) _).alloc _)
        case measure => simp [intOf]; omega
      · have hd : decide ((k : Int) < (n : Int)) = false := decide_eq_false (by omega)
        have hall : turnAt rs k = rs.map Ch.turn := by
          unfold turnAt
          have := HN.out
          rw [List.take_of_length_le (by omega), List.drop_of_length_le (by omega), List.append_nil]
        rw [hall, ← HE.out] at hOwn
        clear hall
        go_wp2_with fail
        go_ret
        exact ⟨_, rfl, ⟨hOwn, fun k hk => by cases hk; exact hg⟩, hx⟩

end Go.Proofs.YtinafpbdlblcaaaDoor
