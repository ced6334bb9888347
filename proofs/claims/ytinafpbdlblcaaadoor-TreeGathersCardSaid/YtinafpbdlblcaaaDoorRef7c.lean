/-
  cortegeref7: Rise.
-/
import Derived.Test.YtinafpbdlblcaaaDoorRef7b
import Derived.Test.YtinafpbdlblcaaaDoorPaths
namespace Go.Proofs.YtinafpbdlblcaaaDoor
open Go.RowKit
set_option linter.unusedVariables false
set_option linter.unusedSimpArgs false
attribute [local go_sem] Oper.semAt_some

/-- A text put into rising ones, where it is none of them. -/
def addT (acc : List ByteArray) (x : ByteArray) : List ByteArray := if (acc.any fun y => y.toList == x.toList) = true then acc else insK id x acc
def riseT (l : List ByteArray) : List ByteArray := l.foldl addT []
theorem riseT_snoc (l : List ByteArray) (x : ByteArray) : riseT (l ++ [x]) = addT (riseT l) x := by simp [riseT, List.foldl_append]
abbrev StrictT (l : List ByteArray) : Prop := l.Pairwise fun a b => ltB a b = true
theorem any_mem {acc : List ByteArray} {x : ByteArray} : (acc.any fun y => y.toList == x.toList) = true ↔ x ∈ acc := by
  rw [List.any_eq_true]
  exact ⟨fun ⟨y, hy, h⟩ => by rw [← toList_inj (beq_iff_eq.1 h)]; exact hy, fun h => ⟨x, h, by simp⟩⟩
theorem addT_mem {acc : List ByteArray} {x y : ByteArray} : y ∈ addT acc x ↔ y = x ∨ y ∈ acc := by
  unfold addT
  split
  · rename_i hx
    exact ⟨.inr, fun h => by rcases h with rfl | h; exact any_mem.1 hx; exact h⟩
  · exact insK_mem id
theorem addT_strict {acc : List ByteArray} (x : ByteArray) (h : StrictT acc) : StrictT (addT acc x) := by
  unfold addT
  split
  · exact h
  · rename_i hx
    rw [any_mem] at hx
    induction acc with
    | nil => simp [insK]
    | cons a acc ih =>
      have ha := List.pairwise_cons.1 h
      rw [insK]
      split
      · rename_i hlt
        refine List.pairwise_cons.2 ⟨fun y hy => ?_, h⟩
        rcases List.mem_cons.1 hy with rfl | hy
        · exact hlt
        · exact ltB_trans hlt (ha.1 y hy)
      · rename_i hlt
        have hne : x ≠ a := by rintro rfl; exact hx (by simp)
        have hax : ltB a x = true := by
          cases h' : ltB a x with
          | true => rfl
          | false => exact absurd (ltB_tri (by simpa using hlt) h') hne
        refine List.pairwise_cons.2 ⟨fun y hy => ?_, ih ha.2 (fun hm => hx (by simp [hm]))⟩
        rcases (insK_mem id).1 hy with rfl | hy
        · exact hax
        · exact ha.1 y hy
theorem riseT_strict (l : List ByteArray) : StrictT (riseT l) := by
  refine snocInd (p := fun l => StrictT (riseT l)) .nil (fun l x ih => ?_) l
  rw [riseT_snoc]; exact addT_strict x ih
theorem riseT_mem (l : List ByteArray) (y : ByteArray) : y ∈ riseT l ↔ y ∈ l := by
  refine snocInd (p := fun l => y ∈ riseT l ↔ y ∈ l) (by simp [riseT]) (fun l x ih => ?_) l
  rw [riseT_snoc, addT_mem, ih]; simp [or_comm]
theorem riseT_length (l : List ByteArray) : (riseT l).length ≤ l.length := by
  refine snocInd (p := fun l => (riseT l).length ≤ l.length) (by simp [riseT]) (fun l x ih => ?_) l
  rw [riseT_snoc]
  unfold addT
  split
  · simp; omega
  · rw [insK_length]; simp; omega
theorem StrictT.riseK {l : List ByteArray} (h : StrictT l) : RiseK id l := h.imp fun hab => ltB_asymm hab
/-- Where it goes. -/
theorem addT_at {acc : List ByteArray} {x : ByteArray} (h : StrictT acc) (j : Nat) (hj : j ≤ acc.length) (h1 : ∀ y ∈ acc.take j, ltB x y = false) (h2 : ∀ y ∈ acc.drop j, ltB x y = true) (hx : x ∉ acc) : addT acc x = acc.take j ++ x :: acc.drop j := by
  unfold addT
  rw [if_neg (fun h => hx (any_mem.1 h))]
  exact insK_at id x acc j hj h1 h2
theorem not_mem_of {acc : List ByteArray} {x : ByteArray} (j : Nat) (h1 : ∀ y ∈ acc.take j, ltB y x = true) (h2 : ∀ y ∈ acc.drop j, ltB x y = true) : x ∉ acc := by
  intro hm
  rw [← List.take_append_drop j acc] at hm
  rcases List.mem_append.1 hm with hm | hm
  · have := h1 x hm; rw [ltB_irrefl] at this; cases this
  · have := h2 x hm; rw [ltB_irrefl] at this; cases this
theorem put_sizesT (ss : List ByteArray) (f : ByteArray) (j : Nat) (h : ss.length ≤ 200000) :
    (([] : List ByteArray).length + (ss.take j).length) * 16 ≤ 140737488355328 ∧ ([] : List ByteArray).length + (ss.take j).length ≤ maxLen ∧ (([] ++ ss.take j).length + [f].length) * 16 ≤ 140737488355328 ∧ ([] ++ ss.take j).length + [f].length ≤ maxLen ∧
    ((([] ++ ss.take j) ++ [f]).length + (ss.drop j).length) * 16 ≤ 140737488355328 ∧ (([] ++ ss.take j) ++ [f]).length + (ss.drop j).length ≤ maxLen := by
  unfold maxLen
  simp only [List.nil_append, List.length_append, List.length_take, List.length_drop, List.length_cons, List.length_nil]
  omega
theorem StrictT.take_lt {l : List ByteArray} (h : StrictT l) {s : Nat} (hs : s < l.length) {x : ByteArray} (hx : ltB l[s] x = true) : ∀ y ∈ l.take (s + 1), ltB y x = true := by
  intro y hy
  obtain ⟨i, hi, rfl⟩ := List.mem_iff_getElem.1 hy
  rw [List.length_take] at hi
  rw [List.getElem_take]
  by_cases e : i = s
  · subst e; exact hx
  · exact ltB_trans (List.pairwise_iff_getElem.1 h i s (by omega) hs (by omega)) hx

set_option maxHeartbeats 2000000 in
set_option maxRecDepth 100000 in
/-- cortegeref7.Rise. -/
theorem refRise_calls (v : Value) (all : List ByteArray) (S : Fp) (w : World) (hR : Rd ES S w v all) (hb : all.length ≤ 100000) :
    Calls Tryd.prog 55 #[v] w fun e w' => ∃ u, e = .returned u ∧ New ES 9 w.heap.size w' u (riseT all) ∧ Ext w w' := by
  obtain ⟨A, c, rfl, hO⟩ := hR.open_
  have hlen := hO.len
  clear hR
  go_enter Tryd.func55, Tryd.ntmps55
  go_wp2_with fail
  go_loopw [3, 4] (fun o i wr => ∃ k : Nat, k ≤ all.length ∧ i = .int .i64 k ∧ New ES 9 w.heap.size wr o (riseT (all.take k)) ∧ Ext w wr) (fun _ i _ => all.length - (intOf i).toNat)
  case atStart => exact ⟨0, Nat.zero_le _, rfl, New.nil _ _ _, Kp.refl _ _⟩
  case round =>
    obtain ⟨k, hk, rfl, hN, hx⟩ := hrel
    rename World => wo
    by_cases hlt : k < all.length
    · have hd3 : decide ((k : Int) < (all.length : Int)) = true := decide_eq_true (by omega)
      obtain ⟨b, off, rfl, _, hb, c0⟩ := (hO.kp (hx.mono fun _ _ _ => trivial)).rd.text hlt
      have hsn : riseT (all.take (k + 1)) = addT (riseT (all.take k)) all[k] := by rw [take_snoc all hlt, riseT_snoc]
      have hstr := riseT_strict (all.take k)
      have hsl : (riseT (all.take k)).length ≤ k := Nat.le_trans (riseT_length _) (by rw [List.length_take]; omega)
      obtain ⟨f, hf⟩ : ∃ f, all[k] = f := ⟨_, rfl⟩
      obtain ⟨ss, hss⟩ : ∃ ss, riseT (all.take k) = ss := ⟨_, rfl⟩
      rw [hf] at c0
      rw [hf, hss] at hsn
      rw [hss] at hN hstr hsl
      obtain ⟨m, hm⟩ : ∃ m, ss.length = m := ⟨_, rfl⟩
      rw [hm] at hsl
      have hlt' : (k : Int) < (all.length : Int) := by omega
      have h0 : (0 : Int) ≤ (k : Int) := by omega
      have HS := Lib.hid hsn
      have HL := Lib.hid hm
      have HSTR := Lib.hid hstr
      obtain ⟨A2, c2, hu5, hO2⟩ := hN.rd.open_
      subst hu5
      rw [hm] at hN ⊢
      have hmc : m ≤ c2 := by rw [← hm]; exact hO2.le
      clear hsn hf hss hm hstr
      go_wp2_with fail
      go_loopw [5] (fun q wj => ∃ j : Nat, j ≤ m ∧ q = .int .i64 j ∧ (∀ y ∈ ss.drop j, ltB f y = true) ∧ Ext wo wj) (fun q _ => (intOf q).toNat)
      case atStart => exact ⟨m, Nat.le_refl _, rfl, by rw [List.drop_of_length_le (by rw [HL.out]; exact Nat.le_refl _)]; simp, Kp.refl _ _⟩
      case round =>
        obtain ⟨j, hj, rfl, hgt, hxj⟩ := hrel
        rename World => wj
        have HG := Lib.hid hgt
        clear hgt
        have cf0 : wj.cell? ⟨b, off + k, none⟩ = some (.string f) := (hxj.cell (p := ⟨b, off + k, none⟩) hb trivial).trans c0
        rcases Nat.eq_zero_or_pos j with hj0 | hj0
        · subst hj0
          have d1 : decide ((0 : Int) < ((0 : Nat) : Int)) = false := by simp
          have hno : f ∉ ss := not_mem_of 0 (by simp) HG.out
          have hins := addT_at HSTR.out 0 (Nat.zero_le _) (by simp) HG.out hno
          have HI := Lib.hid hins
          clear hins hno
          go_wp2_with fail
          go_quiet (fail)
          have hxq : Ext wo (wj.drewN nq) := hxj.drewN nq
          have cq0 : (wj.drewN nq).cell? ⟨b, off + k, none⟩ = some (.string f) := cf0
          clear cf0
          generalize wj.drewN nq = wq at hxq cq0 ⊢
          go_wp2_with fail
          go_quiet (fail)
          go_wp2_with fail
          have HT : ∀ W, Ext wo W → Rd ES (fun k => w.heap.size ≤ k) W (.slice A2 (0) c2) (ss.take (0)) := fun W hW => (hO2.kp (hW.mono fun _ _ _ => trivial)).takeRd (by rw [HL.out]; omega)
          have HD : ∀ W, Ext wo W → Rd ES (fun k => w.heap.size ≤ k) W (.slice A2 m c2) (ss.drop (0)) := fun W hW => by rw [List.drop_zero]; have := (hO2.kp (hW.mono fun _ _ _ => trivial)).shut; rw [HL.out] at this; exact this
          have HKe : ∀ W, Ext wo W → W.cell? ⟨b, off + k, none⟩ = some (.string f) := fun W hW => (hW.cell (p := ⟨b, off + k, none⟩) hb trivial).trans c0
          obtain ⟨l1, l2, l3, l4, l5, l6⟩ := put_sizesT ss f (0) (by rw [HL.out]; omega)
          have HT' := Lib.hid HT
          have HD' := Lib.hid HD
          have HKe' := Lib.hid HKe
          clear HT HD HKe
          go_region_held3 (fun w' => w'.cell? ⟨b, off + k, none⟩ = some (.string f))
            (first | exact HKe'.out _ hx2a | exact HKe'.out _ hx9 | exact HKe'.out _ (hx3.alloc _) | exact HKe'.out _ hx3 | exact HKe'.out _ ((hxq.drewN nq).drew) | exact HKe'.out _ (((hxq.drewN nq).drew).alloc _) | fail)
            (first
              | (refine step_append_new (w0 := wo) tiS (by rfl) (by rfl) (New.nil (E := ES) _ _ _) ((hxq.drewN nq).drew) (HT'.out _ ((hxq.drewN nq).drew)) (by rfl) (by rfl) l1 l2 ?_; intro v3 w3 hN3 hx3 hk3)
              | (refine step_append_new (w0 := wo) tiS (by rfl) (by rfl) (New.nil (E := ES) _ _ _) (((hxq.drewN nq).drew).alloc _) (HT'.out _ (((hxq.drewN nq).drew).alloc _)) (by rfl) (by rfl) l1 l2 ?_; intro v3 w3 hN3 hx3 hk3)
              | (refine step_append_new (w0 := wo) (ys := [f]) tiS (by rfl) (by rfl) (hN3.ext ((Kp.refl _ w3).alloc _)) (hx3.alloc _) (Own.made w3 9 [f] one_max).rd (by rfl) (by rfl) l3 l4 ?_; intro v9 w9 hN9 hx9 hk9)
              | (refine step_append_new (w0 := wo) (ys := [f]) tiS (by rfl) (by rfl) hN3 hx3 ((Own.made _ 9 [f] one_max).rd.kp (hk3.mono fun _ _ _ => fun h => by cases h)) (by rfl) (by rfl) l3 l4 ?_; intro v9 w9 hN9 hx9 hk9)
              | (refine step_append_new (w0 := wo) tiS (by rfl) (by rfl) hN9 hx9 (HD'.out _ hx9) (by rfl) (by rfl) l5 l6 ?_; intro v10 w10 hN10 hx2a hk10)
              | fail)
          all_goals
            obtain ⟨A', n', c', rfl⟩ := hN10.1.slice
            go_wp2_with fail
            go_roundw
            case rel =>
              refine ⟨k + 1, by omega, by go_num, ?_, hx.trans hx2a⟩
              rw [HS.out, HI.out]
              have hsz := hx.size
              have := hN10.less (m := w.heap.size) hsz
              simpa using this
            case measure => simp [intOf]; omega
        · obtain ⟨s, hs⟩ : ∃ s, j = s + 1 := ⟨j - 1, by omega⟩
          subst hs
          have hslt : s < ss.length := by have := HL.out; omega
          obtain ⟨g, hg⟩ : ∃ g, ss[s] = g := ⟨_, rfl⟩
          obtain ⟨b2, off2, hA2, hb2S, hb2, e0⟩ := (hO2.kp (hxj.mono fun _ _ _ => trivial)).rd.text hslt
          rw [hg] at e0
          subst hA2
          have hcast : ((s + 1 : Nat) : Int) = (s : Int) + 1 := by omega
          rw [hcast]
          have d1' : decide ((0 : Int) < (s : Int) + 1) = true := decide_eq_true (by omega)
          have hs0 : (0 : Int) ≤ (s : Int) := by omega
          have hs1 : (s : Int) < (m : Int) := by omega
          have hs2 : (s : Int) + 1 ≤ (m : Int) := by omega
          have hs3 : (0 : Int) ≤ (s : Int) + 1 := by omega
          have hs4 : s + 1 ≤ c2 := by omega
          have hs5 : (s : Int) + 1 ≤ (c2 : Int) := by omega
          clear hcast
          cases hcmp : ltB f g with
          | true =>
            have hgt : (!Op.bytesLess g.toList f.toList && !(g.toList == f.toList)) = true := gtr_true hcmp
            have HG2 : Hid (∀ y ∈ ss.drop s, ltB f y = true) := Lib.hid fun y hy => by
              rw [List.drop_eq_getElem_cons hslt] at hy
              rcases List.mem_cons.1 hy with rfl | hy
              · rw [hg]; exact hcmp
              · exact HG.out y hy
            have hw1 : IntKind.i64.wrap ((s : Int) + 1 - 1) = (s : Int) := by rw [IntWalk.i64_in _ (by omega)]; omega
            clear hcmp hg
            go_wp2_with fail
            go_quiet (fail)
            go_wp2_with fail
            go_roundw
            case rel => exact ⟨s, by omega, rfl, HG2.out, hxj.drewN _⟩
            case measure => first | (simp [intOf]; done) | (simp [intOf]; omega)
          | false =>
            have hgt : (!Op.bytesLess g.toList f.toList && !(g.toList == f.toList)) = false := gtr_false hcmp
            have hw1 : IntKind.i64.wrap ((s : Int) + 1 - 1) = (s : Int) := by rw [IntWalk.i64_in _ (by omega)]; omega
            by_cases heq : g = f
            · have heq' : (g.toList == f.toList) = true := by rw [heq]; simp
              have hsame : addT ss f = ss := by unfold addT; exact if_pos (any_mem.2 (by rw [← heq, ← hg]; exact List.getElem_mem hslt))
              have HI := Lib.hid hsame
              clear hsame hcmp hg heq
              go_wp2_with fail
              go_quiet (fail)
              have hxq : Ext wo (wj.drewN nq) := hxj.drewN nq
              have cq0 : (wj.drewN nq).cell? ⟨b, off + k, none⟩ = some (.string f) := cf0
              have cq1 : (wj.drewN nq).cell? ⟨b2, off2 + s, none⟩ = some (.string g) := e0
              clear cf0 e0 hgt
              generalize wj.drewN nq = wq at hxq cq0 cq1 ⊢
              go_wp2_with fail
              go_quiet (fail)
              clear hw1
              go_wp2_with fail
              go_roundw
              case rel =>
                refine ⟨k + 1, by omega, by go_num, ?_, hx.trans (hxq.drewN _)⟩
                rw [HS.out, HI.out]
                exact hN.ext (hxq.drewN _)
              case measure => simp [intOf]; omega
            · have heq' : (g.toList == f.toList) = false := by rw [toList_beq]; simpa using heq
              have hltgf : ltB g f = true := by
                cases h' : ltB g f with
                | true => rfl
                | false => exact absurd (ltB_tri h' hcmp) heq
              have hbe := HSTR.out.take_lt hslt (x := f) (by rw [hg]; exact hltgf)
              have hno : f ∉ ss := not_mem_of (s + 1) hbe HG.out
              have hins := addT_at HSTR.out (s + 1) (by omega) (fun y hy => ltB_asymm (hbe y hy)) HG.out hno
              have HI := Lib.hid hins
              have hless : Op.bytesLess g.toList f.toList = true := hltgf
              clear hins hcmp hg hno hbe hltgf heq
              clear hgt
              have ht1 : ((s : Int) + 1).toNat = s + 1 := by omega
              go_wp2_with fail
              go_quiet (fail)
              have hxq : Ext wo (wj.drewN nq) := hxj.drewN nq
              have cq0 : (wj.drewN nq).cell? ⟨b, off + k, none⟩ = some (.string f) := cf0
              have cq1 : (wj.drewN nq).cell? ⟨b2, off2 + s, none⟩ = some (.string g) := e0
              clear cf0 e0 hless
              generalize wj.drewN nq = wq at hxq cq0 cq1 ⊢
              by_cases hc2 : c2 = s + 1
              · have hc2' : s + 1 = m := by omega
                subst hc2
                have HC2 := Lib.hid hc2'
                clear hc2' hmc
                go_wp2_with fail
                go_quiet (fail)
                clear hw1 cq1 heq'
                go_wp2_with fail
                have HT : ∀ W, Ext wo W → Rd ES (fun k => w.heap.size ≤ k) W (.slice (some ⟨b2, off2, none⟩) (s + 1) (s + 1)) (ss.take (s + 1)) := fun W hW => (hO2.kp (hW.mono fun _ _ _ => trivial)).takeRd (by rw [HL.out]; omega)
                have HD : ∀ W, Ext wo W → Rd ES (fun k => w.heap.size ≤ k) W (.slice (some ⟨b2, off2, none⟩) (m - (s + 1)) 0) (ss.drop (s + 1)) := fun W hW => Rd.empty (by have := HC2.out; omega) (by rw [List.drop_of_length_le (by rw [HL.out]; have := HC2.out; omega)])
                have HKe : ∀ W, Ext wo W → W.cell? ⟨b, off + k, none⟩ = some (.string f) := fun W hW => (hW.cell (p := ⟨b, off + k, none⟩) hb trivial).trans c0
                obtain ⟨l1, l2, l3, l4, l5, l6⟩ := put_sizesT ss f (s + 1) (by rw [HL.out]; omega)
                have HT' := Lib.hid HT
                have HD' := Lib.hid HD
                have HKe' := Lib.hid HKe
                clear HT HD HKe
                go_region_held3 (fun w' => w'.cell? ⟨b, off + k, none⟩ = some (.string f))
                  (first | exact HKe'.out _ hx2a | exact HKe'.out _ hx9 | exact HKe'.out _ (hx3.alloc _) | exact HKe'.out _ hx3 | exact HKe'.out _ ((hxq.drewN nq).drew) | exact HKe'.out _ (((hxq.drewN nq).drew).alloc _) | fail)
                  (first
                    | (refine step_append_new (w0 := wo) tiS (by rfl) (by rfl) (New.nil (E := ES) _ _ _) ((hxq.drewN nq).drew) (HT'.out _ ((hxq.drewN nq).drew)) (by rfl) (by rfl) l1 l2 ?_; intro v3 w3 hN3 hx3 hk3)
                    | (refine step_append_new (w0 := wo) tiS (by rfl) (by rfl) (New.nil (E := ES) _ _ _) (((hxq.drewN nq).drew).alloc _) (HT'.out _ (((hxq.drewN nq).drew).alloc _)) (by rfl) (by rfl) l1 l2 ?_; intro v3 w3 hN3 hx3 hk3)
                    | (refine step_append_new (w0 := wo) (ys := [f]) tiS (by rfl) (by rfl) (hN3.ext ((Kp.refl _ w3).alloc _)) (hx3.alloc _) (Own.made w3 9 [f] one_max).rd (by rfl) (by rfl) l3 l4 ?_; intro v9 w9 hN9 hx9 hk9)
                    | (refine step_append_new (w0 := wo) (ys := [f]) tiS (by rfl) (by rfl) hN3 hx3 ((Own.made _ 9 [f] one_max).rd.kp (hk3.mono fun _ _ _ => fun h => by cases h)) (by rfl) (by rfl) l3 l4 ?_; intro v9 w9 hN9 hx9 hk9)
                    | (refine step_append_new (w0 := wo) tiS (by rfl) (by rfl) hN9 hx9 (HD'.out _ hx9) (by rfl) (by rfl) l5 l6 ?_; intro v10 w10 hN10 hx2a hk10)
                    | fail)
                all_goals
                  obtain ⟨A', n', c', rfl⟩ := hN10.1.slice
                  go_wp2_with fail
                  go_roundw
                  case rel =>
                    refine ⟨k + 1, by omega, by go_num, ?_, hx.trans hx2a⟩
                    rw [HS.out, HI.out]
                    have hsz := hx.size
                    have := hN10.less (m := w.heap.size) hsz
                    simpa using this
                  case measure => simp [intOf]; omega
              · clear hmc
                go_wp2_with fail
                go_quiet (fail)
                clear hw1 cq1 heq'
                go_wp2_with fail
                have HT : ∀ W, Ext wo W → Rd ES (fun k => w.heap.size ≤ k) W (.slice (some ⟨b2, off2, none⟩) (s + 1) c2) (ss.take (s + 1)) := fun W hW => (hO2.kp (hW.mono fun _ _ _ => trivial)).takeRd (by rw [HL.out]; omega)
                have HD : ∀ W, Ext wo W → Rd ES (fun k => w.heap.size ≤ k) W (.slice (some ⟨b2, off2 + (s + 1), none⟩) (m - (s + 1)) (c2 - (s + 1))) (ss.drop (s + 1)) := fun W hW => by have := (hO2.kp (hW.mono fun _ _ _ => trivial)).dropRd (j := s + 1) (by rw [HL.out]; omega); rw [HL.out] at this; simpa [ES] using this
                have HKe : ∀ W, Ext wo W → W.cell? ⟨b, off + k, none⟩ = some (.string f) := fun W hW => (hW.cell (p := ⟨b, off + k, none⟩) hb trivial).trans c0
                obtain ⟨l1, l2, l3, l4, l5, l6⟩ := put_sizesT ss f (s + 1) (by rw [HL.out]; omega)
                have HT' := Lib.hid HT
                have HD' := Lib.hid HD
                have HKe' := Lib.hid HKe
                clear HT HD HKe
                go_region_held3 (fun w' => w'.cell? ⟨b, off + k, none⟩ = some (.string f))
                  (first | exact HKe'.out _ hx2a | exact HKe'.out _ hx9 | exact HKe'.out _ (hx3.alloc _) | exact HKe'.out _ hx3 | exact HKe'.out _ ((hxq.drewN nq).drew) | exact HKe'.out _ (((hxq.drewN nq).drew).alloc _) | fail)
                  (first
                    | (refine step_append_new (w0 := wo) tiS (by rfl) (by rfl) (New.nil (E := ES) _ _ _) ((hxq.drewN nq).drew) (HT'.out _ ((hxq.drewN nq).drew)) (by rfl) (by rfl) l1 l2 ?_; intro v3 w3 hN3 hx3 hk3)
                    | (refine step_append_new (w0 := wo) tiS (by rfl) (by rfl) (New.nil (E := ES) _ _ _) (((hxq.drewN nq).drew).alloc _) (HT'.out _ (((hxq.drewN nq).drew).alloc _)) (by rfl) (by rfl) l1 l2 ?_; intro v3 w3 hN3 hx3 hk3)
                    | (refine step_append_new (w0 := wo) (ys := [f]) tiS (by rfl) (by rfl) (hN3.ext ((Kp.refl _ w3).alloc _)) (hx3.alloc _) (Own.made w3 9 [f] one_max).rd (by rfl) (by rfl) l3 l4 ?_; intro v9 w9 hN9 hx9 hk9)
                    | (refine step_append_new (w0 := wo) (ys := [f]) tiS (by rfl) (by rfl) hN3 hx3 ((Own.made _ 9 [f] one_max).rd.kp (hk3.mono fun _ _ _ => fun h => by cases h)) (by rfl) (by rfl) l3 l4 ?_; intro v9 w9 hN9 hx9 hk9)
                    | (refine step_append_new (w0 := wo) tiS (by rfl) (by rfl) hN9 hx9 (HD'.out _ hx9) (by rfl) (by rfl) l5 l6 ?_; intro v10 w10 hN10 hx2a hk10)
                    | fail)
                all_goals
                  obtain ⟨A', n', c', rfl⟩ := hN10.1.slice
                  go_wp2_with fail
                  go_roundw
                  case rel =>
                    refine ⟨k + 1, by omega, by go_num, ?_, hx.trans hx2a⟩
                    rw [HS.out, HI.out]
                    have hsz := hx.size
                    have := hN10.less (m := w.heap.size) hsz
                    simpa using this
                  case measure => simp [intOf]; omega
    · have hd3 : decide ((k : Int) < (all.length : Int)) = false := decide_eq_false (by omega)
      have hkl : all.take k = all := List.take_of_length_le (by omega)
      rw [hkl] at hN
      obtain ⟨A', n', c', rfl⟩ := hN.1.slice
      clear hkl
      go_wp2_with fail
      go_ret
      exact ⟨_, rfl, hN, hx⟩

end Go.Proofs.YtinafpbdlblcaaaDoor
