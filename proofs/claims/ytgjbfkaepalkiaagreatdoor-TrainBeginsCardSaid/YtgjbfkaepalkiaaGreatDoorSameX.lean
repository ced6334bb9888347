/-
  slices.Sort, slices.Compact at texts of one's own. tree.Paths. Texts that rise: put in one by one. Plain: sorted and compacted, or put in one by one: the same texts. cortegelaw0: SameTexts, OverTexts.
-/
import Derived.Test.YtgjbfkaepalkiaaGreatDoorConcat
import Derived.Test.YtgjbfkaepalkiaaGreatDoorShelf
import Derived.Sort.OwnSorted
namespace Go.Proofs.YtgjbfkaepalkiaaGreatDoor
open Go.RowKit
set_option linter.unusedVariables false
set_option linter.unusedSimpArgs false
attribute [local go_sem] Oper.semAt_some

abbrev bl (b : ByteArray) : List UInt8 := b.data.toList
abbrev lb (l : List UInt8) : ByteArray := ⟨l.toArray⟩
theorem lb_bl (b : ByteArray) : lb (bl b) = b := by cases b; simp [lb, bl]
theorem bl_lb (l : List UInt8) : bl (lb l) = l := by simp [lb, bl]
theorem flat_ES (xs : List ByteArray) : ES.flat xs = (xs.map bl).map encStr := by
  unfold El.flat
  induction xs with
  | nil => rfl
  | cons x xs ih =>
    rw [List.flatMap_cons, ih]
    show [Value.string x] ++ _ = encStr (bl x) :: _
    simp [encStr]

def sortT (xs : List ByteArray) : List ByteArray := ((xs.map bl).mergeSort fun x y => decide (x ≤ y)).map lb
def compactT (xs : List ByteArray) : List ByteArray := (Lib.compact (xs.map bl)).map lb
theorem sortT_bl (xs : List ByteArray) : (sortT xs).map bl = (xs.map bl).mergeSort fun x y => decide (x ≤ y) := by
  unfold sortT
  rw [List.map_map]
  conv => rhs; rw [← List.map_id ((xs.map bl).mergeSort fun x y => decide (x ≤ y))]
  exact List.map_congr_left fun x _ => bl_lb x
theorem compactT_bl (xs : List ByteArray) : (compactT xs).map bl = Lib.compact (xs.map bl) := by
  unfold compactT
  rw [List.map_map]
  conv => rhs; rw [← List.map_id (Lib.compact (xs.map bl))]
  exact List.map_congr_left fun x _ => bl_lb x
theorem sortT_length (xs : List ByteArray) : (sortT xs).length = xs.length := by
  have := congrArg List.length (sortT_bl xs)
  simpa using this

/-- slices.Sort at texts. -/
theorem sortS_calls (v : Value) (xs : List ByteArray) (w : World) (hO : Own ES 9 w v xs) (hb : xs.length ≤ 1000000) :
    Calls Tryz.prog 118 #[v] w fun e w' => (∃ r, e = .returned r) ∧ Own ES 9 w' v (sortT xs) ∧ Kp (fun k => v.ownBlock ≠ some k) w w' := by
  have hO2 := hO
  rcases hO.2 with ⟨rfl, hn⟩ | ⟨g, cap, cur, rfl, hbase, hg, h1, h2, h3, h4⟩
  · have hx : xs = [] := List.eq_nil_of_length_eq_zero hn
    subst hx
    refine (Tryz.slices_Sort_string_none none 0 w).mono ?_
    rintro e w' ⟨rfl, rfl⟩
    refine ⟨⟨_, rfl⟩, ?_, Kp.refl _ _⟩
    have : sortT [] = [] := List.eq_nil_of_length_eq_zero (by rw [sortT_length]; rfl)
    rw [this]; exact hO
  · have hlen : (xs.map bl).length = xs.length := List.length_map ..
    have hH : Sort.Holds encStr w g 0 (xs.map bl).toArray := holds_of_block hg (by rw [hlen, ← flat_ES]; simpa [ES] using h4)
    have hS := Tryz.slices_Sort_string g 0 cap (xs.map bl) w hH (Array.getElem?_eq_some_iff.1 hg).1 (by rw [hlen]; omega)
    rw [hlen] at hS
    refine hS.mono ?_
    rintro e w' ⟨rfl, n, os, rfl⟩
    refine ⟨⟨_, rfl⟩, ?_, (Kp.refl _ w).grown (grownBy_sorted _) fun k hk => .inr (by cases hk; simp [Value.ownBlock])⟩
    have := ownsRow_sorted (n := n) (os := os) (ss := xs.map bl) (ts := (xs.map bl).mergeSort fun x y => decide (x ≤ y)) (by simp) hbase hg (by rw [hlen]; exact h1) h2 (by simpa [ES] using h3)
    rw [hlen] at this
    unfold Own
    rw [flat_ES, sortT_bl, sortT_length]
    exact this

theorem compactT_length_le (xs : List ByteArray) : (compactT xs).length ≤ xs.length := by
  have := congrArg List.length (compactT_bl xs)
  rw [List.length_map] at this
  rw [this]
  unfold Lib.compact Lib.compactUpTo
  rw [List.length_map]
  refine Nat.le_trans (List.length_filter_le _ _) ?_
  simp

/-- slices.Compact at texts. -/
theorem compactS_calls (v : Value) (xs : List ByteArray) (n0 : Nat) (w : World) (hN : New ES 9 n0 w v xs) (hb : xs.length ≤ 1000000) :
    Calls Tryz.prog 119 #[v] w fun e w' => ∃ u, e = .returned u ∧ New ES 9 n0 w' u (compactT xs) ∧ Kp (fun k => v.ownBlock ≠ some k) w w' := by
  obtain ⟨hO, hn0⟩ := hN
  have hO2 := hO
  rcases hO.2 with ⟨rfl, hn⟩ | ⟨g, cap, cur, rfl, hbase, hg, h1, h2, h3, h4⟩
  · have hx : xs = [] := List.eq_nil_of_length_eq_zero hn
    subst hx
    refine (Tryz.slices_Compact_string_empty none 0 w).mono ?_
    rintro e w' ⟨rfl, rfl⟩
    refine ⟨_, rfl, ?_, Kp.refl _ _⟩
    have : compactT [] = [] := List.eq_nil_of_length_eq_zero (by have := compactT_length_le []; simpa using this)
    rw [this]; exact New.nil _ _ _
  · have hlen : (xs.map bl).length = xs.length := List.length_map ..
    have hH : Sort.Holds encStr w g 0 (xs.map bl).toArray := holds_of_block hg (by rw [hlen, ← flat_ES]; simpa [ES] using h4)
    have hC := Tryz.slices_Compact_string g 0 cap (xs.map bl) w hH (by rw [hlen]; omega) (by rw [hlen]; exact h1)
    rw [hlen] at hC
    have hcl := compactT_length_le xs
    have hcb := congrArg List.length (compactT_bl xs)
    rw [List.length_map] at hcb
    rw [← hcb] at hC
    refine hC.mono ?_
    rintro e w' ⟨rfl, q, rfl⟩
    have hts : (Lib.compact (xs.map bl) ++ List.replicate ((xs.map bl).length - (Lib.compact (xs.map bl)).length) []).length = (xs.map bl).length := by
      rw [List.length_append, List.length_replicate, ← hcb, hlen]; omega
    have hrow := ownsRow_sorted (n := q) (os := #[]) (ss := xs.map bl) hts hbase hg (by rw [hlen]; exact h1) h2 (by simpa [ES] using h3)
    have hgr := grownBy_sorted (w := w) (g := g) (n := q) (os := #[]) (Lib.compact (xs.map bl) ++ List.replicate ((xs.map bl).length - (Lib.compact (xs.map bl)).length) []).toArray
    rw [Sort.grow_empty, hlen, ← hcb] at hrow hgr
    refine ⟨_, rfl, ⟨?_, fun g' hg' => hn0 g' (by simpa [Value.ownBlock] using hg')⟩, (Kp.refl _ w).grown hgr fun k hk => .inr (by cases hk; simp [Value.ownBlock])⟩
    rcases hrow.2 with ⟨h0, _⟩ | ⟨g', cap', cur', hv, hb', hg', hn', hc', hs', ht'⟩
    · cases h0
    · injection hv with hv hv' hv''
      injection hv with hv
      injection hv with hv
      subst hv hv''
      refine ⟨ES.flat_length _, .inr ⟨g, cap, cur', rfl, hb', hg', by omega, hc', by simpa [ES] using hs', ?_⟩⟩
      have h5 := congrArg (List.take ((compactT xs).length)) ht'
      rw [List.take_take, List.map_append, Nat.mul_one] at h5
      show List.take ((compactT xs).length * 1) cur'.toList = ES.flat (compactT xs)
      rw [flat_ES, compactT_bl, Nat.mul_one]
      rw [Nat.min_eq_left (by omega)] at h5
      rw [h5, List.take_left' (by rw [List.length_map, hcb])]

end Go.Proofs.YtgjbfkaepalkiaaGreatDoor

namespace Go.Proofs.YtgjbfkaepalkiaaGreatDoor
open Go.RowKit
set_option linter.unusedVariables false
set_option linter.unusedSimpArgs false
attribute [local go_sem] Oper.semAt_some

def pathsF (xss : List (List File)) : List ByteArray := compactT (sortT (xss.flatten.map File.path))

set_option maxHeartbeats 800000 in
/-- tree.Paths. -/
theorem paths_calls (v : Value) (ss : List SliceV) (xss : List (List File)) (S : Fp) (w : World) (hV : Rd ESL S w v ss) (hA : RdAll S w ss xss) (hb : sumL xss ≤ 100000) :
    Calls Tryz.prog 128 #[v] w fun e w' => ∃ u, e = .returned u ∧ New ES 9 w.heap.size w' u (pathsF xss) ∧ Ext w w' := by
  refine calls_of_body Tryz.func128 rfl ?_
  simp only [Tryz.ntmps128, List.size_toArray, List.length_cons, List.length_nil, Nat.reduceAdd, Nat.reduceSub, Array.replicate_succ, Array.replicate_zero, List.push_toArray, List.append_toArray, List.nil_append, List.cons_append]
  gi_wp2_with fail
  refine wide_call ((concat_calls v ss xss S _ (hV.kp ((Kp.refl _ w).alloc _)) (hA.kp ((Kp.refl _ w).alloc _)) hb).mono ?_)
  rintro e w1 ⟨u, rfl, hN1, hx1⟩
  have hbox : Blk w1 w.heap.size 52 #[.slice none 0 0] := (Blk.new w 52 #[.slice none 0 0]).ext hx1
  have hz1 := hx1.size
  simp only [World.size_alloc] at hz1
  have hfl : xss.flatten.length ≤ 100000 := hb
  obtain ⟨A1, n1, c1, rfl⟩ := hN1.1.slice
  gi_wp2_with fail
  refine wide_call ((of_calls _ xss.flatten _ w1 hN1.rd (by omega)).mono ?_)
  rintro e w2 ⟨s, rfl, hs, hx2⟩
  have hbox2 := hbox.ext hx2
  have hxw : Ext w w2 := ((Kp.refl _ w).alloc _).trans (hx1.trans hx2)
  have hz2 := hx2.size
  have HFL := Lib.hid hfl
  clear hN1 hV hA hx1 hbox hfl
  gi_wp2_with fail
  refine range_wp (fv := s) rfl hs (fun k hk => hk.2) (fun _ => rfl) (fun pre D W => Coll ES 52 9 w.heap.size (pre.map File.path) D W) (fun _ _ _ _ => False)
    (fun pre D W W' h _ hk => h.frame hk) (fun _ _ _ _ _ h _ _ => h) (fun k => k = w.heap.size) ⟨_, hbox2, Own.nil _ _, rfl, fun g hg => by simp [Value.ownBlock] at hg⟩ (fun k hk => ⟨by omega, fun h => by omega⟩) ?round ?done ?stop
  case stop => exact fun _ _ _ _ _ _ h => h.elim
  case round =>
    intro l pre x D W hI hD hpre hsub hkp hl hlt hnl K hK
    gi_wp2_with fail
    refine hK _ _ ((Kp.refl _ W).alloc _) ?_
    intro W₂ hk2 hsz hrec
    have hWW : Kp (fun k => k ≠ l) W W₂ := (Kp.of_ext ((Kp.refl _ W).alloc _)).trans hk2
    have hx := (Blk.new W 39 #[.string x.path, .string x.data]).kp hk2 (by simp; omega)
    have hx0 : W₂.cell? ⟨W.heap.size, 0, none⟩ = some (.string x.path) := hx.cell 0
    have hx1 : W₂.cell? ⟨W.heap.size, 1, none⟩ = some (.string x.data) := hx.cell 1
    obtain ⟨v, hv, hown, hB, hg⟩ := hI.frame (hWW.mono fun k _ hk => by rintro rfl; exact hnl hk)
    have hv0 := hv.cell0
    have hpl : (pre ++ [x]).length ≤ xss.flatten.length := hpre.length_le
    have hpm : (pre.map File.path).length + 1 ≤ 100000 := by rw [List.length_map]; have := HFL.out; simp only [List.length_append, List.length_singleton] at hpl; omega
    have hpa : (pre ++ [x]).map File.path = pre.map File.path ++ [x.path] := by simp
    have HPA := Lib.hid hpa
    have HPM := Lib.hid hpm
    clear hsub hkp hl hrec hK hs hpl hpa hpm
    gi_wp2_with (gi_at_builtin; refine stop ?_)
    refine listIn_append (v := v) (u := .slice (some ⟨W₂.heap.size, 0, none⟩) 1 1) (ys := [x.path]) tiS rfl rfl rfl rfl (hown.kp ((Kp.refl _ _).alloc _) (fun _ _ => trivial)) (Own.made W₂ 9 [x.path] (by simp [maxLen])).rd (by have := HPM.out; simp at this ⊢; omega) (by have := HPM.out; simp [maxLen] at this ⊢; omega) ?_
    intro v' w' hown' hkp' hblk'
    rw [← HPA.out] at hown'
    obtain ⟨A', n', c', rfl⟩ := hown'.slice
    have hvB : v.ownBlock ≠ some w.heap.size := fun h => by have := (hg _ h).2; omega
    have hv' : Blk w' w.heap.size 52 #[v] := (hv.ext ((Kp.refl _ W₂).alloc _)).kp hkp' hvB
    have hv0' := hv'.cell0
    have hf0' := hv'.frozen 0
    clear hv0 hx0 hx1
    gi_wp2_with fail
    exact coll_step (fun k hk => .inl hk) (fun k hk => by have := hWW.size; rcases hk with hk | hk; exact hWW.lt (hD k hk); omega) hv hB hg ((Kp.refl _ _).alloc _) hown' hkp' hblk'
  case done =>
    intro q D' W' hI hsub hkp hlt hq hnq hblk
    obtain ⟨v, hv, hown, hB, hg⟩ := hI
    have hv0 := hv.cell0
    have hq' : q ≠ w.heap.size := by omega
    have hgq : ∀ g, v.ownBlock = some g → g ≠ q := fun g h e => hnq (e ▸ (hg g h).1)
    have hbk : v.ownBlock ≠ some w.heap.size := fun h => by have := (hg _ h).2; omega
    clear hs
    gi_wp2_with fail
    have hml : (xss.flatten.map File.path).length ≤ 1000000 := by rw [List.length_map]; have := HFL.out; omega
    have HML := Lib.hid hml
    clear hml
    refine wide_call ((sortS_calls v _ W' hown HML.out).mono ?_)
    rintro e w4 ⟨⟨r, rfl⟩, hown4, hk4⟩
    have hv4 : Blk w4 w.heap.size 52 #[v] := hv.kp hk4 hbk
    have hv04 := hv4.cell0
    clear hv0
    gi_wp2_with fail
    have hw4 : w.heap.size + 1 ≤ w4.heap.size := by have := hkp.size; have := hk4.size; omega
    refine wide_call ((compactS_calls v _ w.heap.size w4 ⟨hown4, fun g h => by have := (hg g h).2; omega⟩ (by rw [sortT_length]; exact HML.out)).mono ?_)
    rintro e w5 ⟨u5, rfl, hN5, hk5⟩
    clear hv04
    gi_wp2_with fail
    have hvq : v.ownBlock ≠ some q := fun h => hgq q h rfl
    have hblk5 : w5.heap[q]? = some (.deferred (some [])) := hk5.heap hvq (hk4.heap hvq hblk)
    have hx5 : Ext w w5 := (((hxw.mono fun _ _ _ => trivial).trans' hkp fun k hk _ => Nat.ne_of_lt hk).trans' hk4 fun k hk _ e => by have := (hg _ e).2; omega).trans' hk5 fun k hk _ e => by have := (hg _ e).2; omega
    refine leaves1 hblk5 fun W3 hk3 _ => ⟨_, results_tmp rfl _ _ _, u5, rfl, ⟨hN5.1.kp hk3 fun g hg' e => ?_, hN5.2⟩, hx5.trans' hk3 fun k hk _ => by omega⟩
    subst e
    rcases hN5.1.2 with ⟨h0, _⟩ | ⟨g', cap, cur, h0, _, hc, _⟩
    · rw [h0] at hg'; cases hg'
    · rw [h0] at hg'
      injection hg' with hg'
      subst hg'
      rw [hblk5] at hc
      cases hc

end Go.Proofs.YtgjbfkaepalkiaaGreatDoor

namespace Go.Proofs.YtgjbfkaepalkiaaGreatDoor
open Go.RowKit
set_option linter.unusedVariables false
set_option linter.unusedSimpArgs false
attribute [local go_sem] Oper.semAt_some

/-- A text put into rising ones, where it is none of them. -/
def addT (acc : List ByteArray) (x : ByteArray) : List ByteArray := if (acc.any fun y => y.toList == x.toList) = true then acc else insK id x acc
def riseT (l : List ByteArray) : List ByteArray := l.foldl addT []
theorem riseT_snoc (l : List ByteArray) (x : ByteArray) : riseT (l ++ [x]) = addT (riseT l) x := by simp [riseT, List.foldl_append]
abbrev StrictT (l : List ByteArray) : Prop := l.Pairwise fun a b => ltB a b = true
theorem any_mem {acc : List ByteArray} {x : ByteArray} : (acc.any fun y => y.toList == x.toList) = true ↔ x ∈ acc := by
  rw [List.any_eq_true]
  exact ⟨fun ⟨y, hy, h⟩ => by rw [← toList_inj (beq_iff_eq.1 h)]; exact hy, fun h => ⟨x, h, by simp⟩⟩
theorem addT_mem {acc : List ByteArray} {x y : ByteArray} : y ∈ addT acc x ↔ y = x ∨ y ∈ acc := by
  unfold addT
  split
  · rename_i hx
    exact ⟨.inr, fun h => by rcases h with rfl | h; exact any_mem.1 hx; exact h⟩
  · exact insK_mem id
theorem addT_strict {acc : List ByteArray} (x : ByteArray) (h : StrictT acc) : StrictT (addT acc x) := by
  unfold addT
  split
  · exact h
  · rename_i hx
    rw [any_mem] at hx
    induction acc with
    | nil => simp [insK]
    | cons a acc ih =>
      have ha := List.pairwise_cons.1 h
      rw [insK]
      split
      · rename_i hlt
        refine List.pairwise_cons.2 ⟨fun y hy => ?_, h⟩
        rcases List.mem_cons.1 hy with rfl | hy
        · exact hlt
        · exact ltB_trans hlt (ha.1 y hy)
      · rename_i hlt
        have hne : x ≠ a := by rintro rfl; exact hx (by simp)
        have hax : ltB a x = true := by
          cases h' : ltB a x with
          | true => rfl
          | false => exact absurd (ltB_tri (by simpa using hlt) h') hne
        refine List.pairwise_cons.2 ⟨fun y hy => ?_, ih ha.2 (fun hm => hx (by simp [hm]))⟩
        rcases (insK_mem id).1 hy with rfl | hy
        · exact hax
        · exact ha.1 y hy
theorem riseT_strict (l : List ByteArray) : StrictT (riseT l) := by
  refine snocInd (p := fun l => StrictT (riseT l)) .nil (fun l x ih => ?_) l
  rw [riseT_snoc]; exact addT_strict x ih
theorem riseT_mem (l : List ByteArray) (y : ByteArray) : y ∈ riseT l ↔ y ∈ l := by
  refine snocInd (p := fun l => y ∈ riseT l ↔ y ∈ l) (by simp [riseT]) (fun l x ih => ?_) l
  rw [riseT_snoc, addT_mem, ih]; simp [or_comm]
theorem riseT_length (l : List ByteArray) : (riseT l).length ≤ l.length := by
  refine snocInd (p := fun l => (riseT l).length ≤ l.length) (by simp [riseT]) (fun l x ih => ?_) l
  rw [riseT_snoc]
  unfold addT
  split
  · simp; omega
  · rw [insK_length]; simp; omega
theorem StrictT.riseK {l : List ByteArray} (h : StrictT l) : RiseK id l := h.imp fun hab => ltB_asymm hab
/-- Where it goes. -/
theorem addT_at {acc : List ByteArray} {x : ByteArray} (h : StrictT acc) (j : Nat) (hj : j ≤ acc.length) (h1 : ∀ y ∈ acc.take j, ltB x y = false) (h2 : ∀ y ∈ acc.drop j, ltB x y = true) (hx : x ∉ acc) : addT acc x = acc.take j ++ x :: acc.drop j := by
  unfold addT
  rw [if_neg (fun h => hx (any_mem.1 h))]
  exact insK_at id x acc j hj h1 h2
theorem not_mem_of {acc : List ByteArray} {x : ByteArray} (j : Nat) (h1 : ∀ y ∈ acc.take j, ltB y x = true) (h2 : ∀ y ∈ acc.drop j, ltB x y = true) : x ∉ acc := by
  intro hm
  rw [← List.take_append_drop j acc] at hm
  rcases List.mem_append.1 hm with hm | hm
  · have := h1 x hm; rw [ltB_irrefl] at this; cases this
  · have := h2 x hm; rw [ltB_irrefl] at this; cases this
theorem put_sizesT (ss : List ByteArray) (f : ByteArray) (j : Nat) (h : ss.length ≤ 200000) :
    (([] : List ByteArray).length + (ss.take j).length) * 16 ≤ 140737488355328 ∧ ([] : List ByteArray).length + (ss.take j).length ≤ maxLen ∧ (([] ++ ss.take j).length + [f].length) * 16 ≤ 140737488355328 ∧ ([] ++ ss.take j).length + [f].length ≤ maxLen ∧
    ((([] ++ ss.take j) ++ [f]).length + (ss.drop j).length) * 16 ≤ 140737488355328 ∧ (([] ++ ss.take j) ++ [f]).length + (ss.drop j).length ≤ maxLen := by
  unfold maxLen
  simp only [List.nil_append, List.length_append, List.length_take, List.length_drop, List.length_cons, List.length_nil]
  omega
theorem StrictT.take_lt {l : List ByteArray} (h : StrictT l) {s : Nat} (hs : s < l.length) {x : ByteArray} (hx : ltB l[s] x = true) : ∀ y ∈ l.take (s + 1), ltB y x = true := by
  intro y hy
  obtain ⟨i, hi, rfl⟩ := List.mem_iff_getElem.1 hy
  rw [List.length_take] at hi
  rw [List.getElem_take]
  by_cases e : i = s
  · subst e; exact hx
  · exact ltB_trans (List.pairwise_iff_getElem.1 h i s (by omega) hs (by omega)) hx


def flatP (xss : List (List File)) : List ByteArray := xss.flatten.map File.path
theorem flatP_take (xss : List (List File)) (k : Nat) (hk : k < xss.length) : flatP (xss.take (k + 1)) = flatP (xss.take k) ++ xss[k].map File.path := by
  unfold flatP
  rw [take_snoc xss hk, List.flatten_append, List.map_append]; simp
theorem flatP_len (xss : List (List File)) : (flatP xss).length = sumL xss := by unfold flatP sumL; rw [List.length_map]

end Go.Proofs.YtgjbfkaepalkiaaGreatDoor

namespace Go.Proofs.YtgjbfkaepalkiaaGreatDoor
open Go.RowKit
set_option linter.unusedVariables false
set_option linter.unusedSimpArgs false

theorem strict_unique : ∀ {l m : List ByteArray}, StrictT l → StrictT m → (∀ y, y ∈ l ↔ y ∈ m) → l = m
  | [], [], _, _, _ => rfl
  | [], b :: m, _, _, h => by have := (h b).2 (by simp); simp at this
  | a :: l, [], _, _, h => by have := (h a).1 (by simp); simp at this
  | a :: l, b :: m, hl, hm, h => by
    have ha := List.pairwise_cons.1 hl
    have hb := List.pairwise_cons.1 hm
    have hab : a = b := by
      rcases List.mem_cons.1 ((h a).1 (by simp)) with e | e
      · exact e
      · rcases List.mem_cons.1 ((h b).2 (by simp)) with e' | e'
        · exact e'.symm
        · have h1 := ha.1 b e'
          have h2 := hb.1 a e
          rw [ltB_asymm h1] at h2; cases h2
    subst hab
    congr 1
    refine strict_unique ha.2 hb.2 fun y => ?_
    constructor
    · intro hy
      rcases List.mem_cons.1 ((h y).1 (by simp [hy])) with e | e
      · subst e; have := ha.1 _ hy; rw [ltB_irrefl] at this; cases this
      · exact e
    · intro hy
      rcases List.mem_cons.1 ((h y).2 (by simp [hy])) with e | e
      · subst e; have := hb.1 _ hy; rw [ltB_irrefl] at this; cases this
      · exact e

theorem ltB_bl {a b : ByteArray} : ltB a b = true ↔ bl a < bl b := by
  rw [ltB_iff, Lib.toList_data, Lib.toList_data]

/-- Of rising texts those that are no repetition. -/
theorem compactUpTo_facts (d : Array (List UInt8)) (hd : ∀ i j, i ≤ j → j < d.size → d[i]! ≤ d[j]!) : ∀ m, m ≤ d.size →
    (Lib.compactUpTo d m).Pairwise (· < ·) ∧ (∀ y, y ∈ Lib.compactUpTo d m ↔ ∃ i, i < m ∧ d[i]! = y) := by
  intro m
  induction m with
  | zero => intro _; exact ⟨by simp [Lib.compactUpTo], fun y => by simp [Lib.compactUpTo]⟩
  | succ m ih =>
    intro hm
    obtain ⟨h1, h2⟩ := ih (by omega)
    rw [Lib.compactUpTo_succ]
    by_cases hk : Lib.keeps d m = true
    · rw [if_pos hk]
      refine ⟨List.pairwise_append.2 ⟨h1, List.pairwise_singleton _ _, fun x hx y hy => ?_⟩, fun y => ?_⟩
      · rw [List.mem_singleton.1 hy]
        obtain ⟨i, hi, rfl⟩ := (h2 x).1 hx
        have hne : d[m]! ≠ d[m - 1]! := by
          unfold Lib.keeps at hk
          rcases of_decide_eq_true hk with h | h
          · omega
          · exact h
        have h3 : d[i]! ≤ d[m - 1]! := hd i (m - 1) (by omega) (by omega)
        have h4 : d[m - 1]! ≤ d[m]! := hd (m - 1) m (by omega) (by omega)
        have h5 : d[m - 1]! < d[m]! := by
          rcases List.le_iff_lt_or_eq.1 h4 with h | h
          · exact h
          · exact absurd h.symm hne
        exact List.lt_of_le_of_lt h3 h5
      · rw [List.mem_append, h2, List.mem_singleton]
        constructor
        · rintro (⟨i, hi, rfl⟩ | rfl)
          · exact ⟨i, by omega, rfl⟩
          · exact ⟨m, by omega, rfl⟩
        · rintro ⟨i, hi, rfl⟩
          by_cases e : i = m
          · subst e; exact .inr rfl
          · exact .inl ⟨i, by omega, rfl⟩
    · rw [if_neg hk, List.append_nil]
      refine ⟨h1, fun y => ?_⟩
      rw [h2]
      have he : m ≠ 0 ∧ d[m]! = d[m - 1]! := by
        unfold Lib.keeps at hk
        simp only [decide_eq_true_eq, not_or, Decidable.not_not, ne_eq] at hk
        exact hk
      constructor
      · rintro ⟨i, hi, rfl⟩; exact ⟨i, by omega, rfl⟩
      · rintro ⟨i, hi, rfl⟩
        by_cases e : i = m
        · subst e; exact ⟨i - 1, by omega, he.2.symm⟩
        · exact ⟨i, by omega, rfl⟩

theorem compact_sorted (zs : List (List UInt8)) (h : zs.Pairwise (· ≤ ·)) : (Lib.compact zs).Pairwise (· < ·) ∧ ∀ y, y ∈ Lib.compact zs ↔ y ∈ zs := by
  have := compactUpTo_facts zs.toArray (by
    intro i j hij hj
    simp only [List.size_toArray] at hj
    rw [getElem!_pos _ i (by simpa using Nat.lt_of_le_of_lt hij hj), getElem!_pos _ j (by simpa using hj)]
    by_cases e : i = j
    · subst e; exact List.le_refl _
    · exact List.pairwise_iff_getElem.1 h i j (by omega) hj (by omega)) zs.length (by simp)
  refine ⟨this.1, fun y => (this.2 y).trans ?_⟩
  constructor
  · rintro ⟨i, hi, rfl⟩
    rw [getElem!_pos _ i (by simpa using hi)]
    simp
  · intro hy
    obtain ⟨i, hi, rfl⟩ := List.mem_iff_getElem.1 hy
    exact ⟨i, hi, by rw [getElem!_pos _ i (by simpa using hi)]; simp⟩

theorem paths_rise (l : List ByteArray) : compactT (sortT l) = riseT l := by
  have hs : ((l.map bl).mergeSort fun x y => decide (x ≤ y)).Pairwise (· ≤ ·) := by
    have := List.pairwise_mergeSort (le := fun x y : List UInt8 => decide (x ≤ y)) (fun a b c h1 h2 => decide_eq_true (List.le_trans (of_decide_eq_true h1) (of_decide_eq_true h2))) (fun a b => by
      rcases List.le_total a b with h | h
      · simp [h]
      · simp [h]) (l.map bl)
    exact this.imp fun h => of_decide_eq_true h
  obtain ⟨h1, h2⟩ := compact_sorted _ hs
  rw [← sortT_bl] at h1 h2
  refine strict_unique ?_ (riseT_strict l) fun y => ?_
  · unfold compactT
    refine List.pairwise_map.2 (h1.imp fun {a b} hab => ?_)
    rw [ltB_bl, bl_lb, bl_lb]; exact hab
  · rw [riseT_mem]
    unfold compactT
    rw [List.mem_map]
    constructor
    · rintro ⟨z, hz, rfl⟩
      have := (h2 z).1 hz
      rw [sortT_bl, List.mem_mergeSort, List.mem_map] at this
      obtain ⟨b, hb, rfl⟩ := this
      rw [lb_bl]; exact hb
    · intro hy
      refine ⟨bl y, (h2 _).2 ?_, lb_bl y⟩
      rw [sortT_bl, List.mem_mergeSort]
      exact List.mem_map_of_mem hy
theorem pathsF_rise (xss : List (List File)) : pathsF xss = riseT (flatP xss) := paths_rise _

end Go.Proofs.YtgjbfkaepalkiaaGreatDoor

namespace Go.Proofs.YtgjbfkaepalkiaaGreatDoor
open Go.RowKit
set_option linter.unusedVariables false
set_option linter.unusedSimpArgs false
attribute [local go_sem] Oper.semAt_some

set_option maxHeartbeats 400000 in
set_option maxHeartbeats 400000 in
/-- cortegelaw0.SameTexts, at the same texts. -/
theorem sameTexts_calls (v u : Value) (xs : List ByteArray) (S T : Fp) (w : World) (hR : Rd ES S w v xs) (hR' : Rd ES T w u xs) :
    Calls Tryz.prog 36 #[v, u] w fun e w' => e = .returned (.bool true) ∧ Ext w w' := by
  obtain ⟨A, c, rfl, hO⟩ := hR.open_
  obtain ⟨A', c', rfl, hO'⟩ := hR'.open_
  have hlen := hO.len
  obtain ⟨n, hn⟩ : ∃ n, xs.length = n := ⟨_, rfl⟩
  rw [hn] at hlen ⊢
  have HN := Lib.hid hn
  clear hn hR hR'
  go_enter Tryz.func36, Tryz.ntmps36
  go_wp2_with fail
  go_loopw [5] (fun i wr => ∃ k : Nat, k ≤ n ∧ i = .int .i64 k ∧ Ext w wr) (fun i _ => n - (intOf i).toNat)
  case atStart => exact ⟨0, Nat.zero_le _, rfl, Kp.refl _ _⟩
  case round =>
    obtain ⟨k, hk, rfl, hx⟩ := hrel
    by_cases hlt : k < n
    · have hd3 : decide ((k : Int) < (n : Int)) = true := decide_eq_true (by omega)
      have hkc : k < xs.length := by have := HN.out; omega
      obtain ⟨b, off, rfl, _, hbl, c0⟩ := (hO.rd.kp (hx.mono fun _ _ _ => trivial)).text hkc
      obtain ⟨b', off', rfl, _, hbl', d0⟩ := (hO'.rd.kp (hx.mono fun _ _ _ => trivial)).text hkc
      obtain ⟨p, hp⟩ : ∃ p, xs[k] = p := ⟨_, rfl⟩
      rw [hp] at c0 d0
      have hlt' : (k : Int) < (n : Int) := by omega
      have h0 : (0 : Int) ≤ (k : Int) := by omega
      have hw : IntKind.i64.wrap ((k : Int) + 1) = (k : Int) + 1 := IntWalk.i64_in _ (by omega)
      clear hp
      go_wp2_with fail
      go_quiet (fail)
      go_wp2_with fail
      go_roundw
      case rel => exact ⟨k + 1, by omega, by go_num, hx.drewN _⟩
      case measure => simp [intOf]; omega
    · have hd3 : decide ((k : Int) < (n : Int)) = false := decide_eq_false (by omega)
      go_wp2_with fail
      go_ret
      exact ⟨rfl, hx⟩

/-- One text is stored over another one. -/
theorem Own.setS {t : TypeId} {w : World} {g n c : Nat} {xs : List ByteArray} (h : Own ES t w (.slice (some ⟨g, 0, none⟩) n c) xs) {i : Nat} (hi : i < xs.length) (y : ByteArray) :
    Own ES t (w.setCell ⟨g, i, none⟩ (.string y)) (.slice (some ⟨g, 0, none⟩) n c) (xs.set i y) := by
  obtain ⟨hl, h2⟩ := h
  rcases h2 with ⟨h1, _⟩ | ⟨g', cap, cur, h1, hb, hg, hn, hm, hs, ht⟩
  · cases h1
  · injection h1 with h1 h1' h1''
    injection h1 with h1
    injection h1 with h1
    subst h1 h1' h1''
    have hfl : ∀ (l : List ByteArray) (i : Nat) (y : ByteArray), ES.flat (l.set i y) = (ES.flat l).set i (.string y) := by
      intro l
      induction l with
      | nil => intro i y; simp [El.flat]
      | cons z l ih =>
        intro i y
        cases i with
        | zero => rfl
        | succ i => rw [List.set_cons_succ, ES.flat_cons, ES.flat_cons, ih]; rfl
    have hh : (w.setCell ⟨g, i, none⟩ (.string y)).heap[g]? = some (.cells (cur.setIfInBounds i (.string y)) t (0, 0)) := Blk.set_ (show Blk w g t cur from hg) i (.string y)
    refine ⟨by rw [hfl]; simpa using hl, .inr ⟨g, c, _, by rw [List.length_set], hb, hh, by rw [List.length_set]; exact hn, hm, by simpa using hs, ?_⟩⟩
    rw [hfl, ← ht, List.length_set]
    show List.take (xs.length * 1) _ = (List.take (xs.length * 1) _).set _ _
    rw [Nat.mul_one, Array.toList_setIfInBounds, List.take_set]
theorem Own.text {t : TypeId} {w : World} {g n c : Nat} {xs : List ByteArray} (h : Own ES t w (.slice (some ⟨g, 0, none⟩) n c) xs) {i : Nat} {x : ByteArray} (hx : xs[i]? = some x) : w.cell? ⟨g, i, none⟩ = some (.string x) := by
  obtain ⟨hi, rfl⟩ := List.getElem?_eq_some_iff.1 hx
  obtain ⟨A, c', hv, hO⟩ := h.rd.open_
  injection hv with hv
  subst hv
  obtain ⟨b, off, hb, _, _, hc⟩ := hO.rd.text hi
  injection hb with hb
  injection hb with hb hb'
  subst hb hb'
  simpa using hc

def overS : ByteArray := ⟨#[111, 118, 101, 114]⟩
set_option maxHeartbeats 400000 in
/-- cortegelaw0.OverTexts. -/
theorem overTexts_calls (v : Value) (xs : List ByteArray) (w : World) (hO : Own ES 9 w v xs) (hb : xs.length ≤ 10000) :
    Calls Tryz.prog 40 #[v] w fun e w' => (∃ r, e = .returned r) ∧ Kp (fun k => v.ownBlock ≠ some k) w w' := by
  have hslice : (v = .slice none 0 0 ∧ xs = []) ∨ ∃ g n c, v = .slice (some ⟨g, 0, none⟩) n c ∧ xs.length = n := by
    rcases hO.2 with ⟨h, h0⟩ | ⟨g, cap, cur, h, _⟩
    · exact .inl ⟨h, List.eq_nil_of_length_eq_zero h0⟩
    · exact .inr ⟨g, _, cap, h, rfl⟩
  rcases hslice with ⟨rfl, rfl⟩ | ⟨g, n, c, rfl, hn⟩
  · go_enter Tryz.func40, Tryz.ntmps40
    go_wp2_with fail
    refine wp_loop_once ?_
    go_wp2_with (at_builtin; refine stop ?_)
    refine list_append (xs := []) (ys := [overS]) tiS rfl rfl rfl rfl (hO.kp ((Kp.refl _ w).alloc _) (fun _ _ => trivial)) (Own.made w 9 [overS] (by simp [maxLen])).rd (by simp) (by simp [maxLen]) ?_
    intro v' w' hO' hK' hB'
    go_wp2_with fail
    exact bodyPost_end (results_none rfl _ _ _) rfl ⟨⟨_, rfl⟩, ((Kp.refl _ w).alloc _).trans' hK' (fun _ _ h => h)⟩
  · rw [hn] at hb
    have HN := Lib.hid hn
    clear hn
    go_enter Tryz.func40, Tryz.ntmps40
    go_wp2_with fail
    go_loopw [2] (fun i wr => ∃ (k : Nat) (zs : List ByteArray), k ≤ n ∧ i = .int .i64 k ∧ zs.length = n ∧ Own ES 9 wr (.slice (some ⟨g, 0, none⟩) n c) zs ∧ Kp (fun k => k ≠ g) w wr) (fun i _ => n - (intOf i).toNat)
    case atStart => exact ⟨0, xs, Nat.zero_le _, rfl, HN.out, hO, Kp.refl _ _⟩
    case round =>
      obtain ⟨k, zs, hk, rfl, hz, hOr, hKr⟩ := hrel
      rename World => wo
      have HZ := Lib.hid hz
      by_cases hlt : k < n
      · have hd3 : decide ((k : Int) < (n : Int)) = true := decide_eq_true (by omega)
        have hlt' : (k : Int) < (n : Int) := by omega
        have h0 : (0 : Int) ≤ (k : Int) := by omega
        have hw : IntKind.i64.wrap ((k : Int) + 1) = (k : Int) + 1 := IntWalk.i64_in _ (by omega)
        obtain ⟨x, hx⟩ : ∃ x, zs[k]? = some x := ⟨_, List.getElem?_eq_getElem (by omega)⟩
        have c0 := hOr.text hx
        have f0 := hOr.free k
        have HX := Lib.hid hx
        clear hz hx
        go_wp2_with fail
        go_roundw
        case rel => exact ⟨k + 1, zs.set k overS, by omega, by go_num, by rw [List.length_set]; exact HZ.out, hOr.setS (List.getElem?_eq_some_iff.1 HX.out).1 overS, hKr.setCell (.inr (by simp)) _⟩
        case measure => simp [intOf]; omega
      · have hd3 : decide ((k : Int) < (n : Int)) = false := decide_eq_false (by omega)
        clear hz
        go_wp2_with (at_builtin; refine stop ?_)
        refine list_append (v := .slice (some ⟨g, 0, none⟩) n c) (xs := zs) (ys := [overS]) tiS rfl rfl rfl rfl (hOr.kp ((Kp.refl _ wo).alloc _) (fun _ _ => trivial)) (Own.made wo 9 [overS] (by simp [maxLen])).rd (by rw [HZ.out]; simp; omega) (by rw [HZ.out]; simp [maxLen]; omega) ?_
        intro v' w' hO' hK' hB'
        go_wp2_with fail
        refine bodyPost_end (results_none rfl _ _ _) rfl ⟨⟨_, rfl⟩, ?_⟩
        refine ((hKr.alloc _).trans' hK' (fun k _ h e => h (by injection e with e; exact e.symm))).mono (fun k _ h e => h (by rw [e]; rfl))

end Go.Proofs.YtgjbfkaepalkiaaGreatDoor
