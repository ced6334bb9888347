/-
  three.chosen, three.Merge at texts. line.Join, text.Merge.
-/
import Derived.Test.YtgjbfkaepalkiaaGreatDoorParts3
import Derived.Test.YtgjbfkaepalkiaaGreatDoorTplain
namespace Go.Proofs.YtgjbfkaepalkiaaGreatDoor
open Go.RowKit
set_option linter.unusedVariables false
set_option linter.unusedSimpArgs false
attribute [local go_sem] Oper.semAt_some

/-! ### Plain -/
def chosenF (q : Pt) : List ByteArray := if (sameT q.a q.b || sameT q.b q.base) = true then q.a else q.b
def mergeL (o a b : List ByteArray) : Option (List ByteArray) := if (partsF o a b).any Pt.conflict = true then none else some ((partsF o a b).flatMap chosenF)
structure PtLe (o a b : List ByteArray) (q : Pt) : Prop where
  base : q.base.length ≤ o.length
  a : q.a.length ≤ a.length
  b : q.b.length ≤ b.length
theorem sub_le {α : Type} (xs : List α) (i j : Nat) : (sub xs i j).length ≤ xs.length := by unfold sub; rw [List.length_take, List.length_drop]; omega
theorem partF_le (o a b : List ByteArray) (f t : Pl) : PtLe o a b (partF o a b f t) := ⟨sub_le _ _ _, sub_le _ _ _, sub_le _ _ _⟩
theorem fastP_le {o a b : List ByteArray} {l : List Pt} {s t : Pl} (h : ∀ q ∈ l, PtLe o a b q) : ∀ q ∈ fastP o a b l s t, PtLe o a b q := by
  unfold fastP
  split
  · intro q hq
    rcases List.mem_append.1 hq with hq | hq
    · exact h q hq
    · rw [List.mem_singleton.1 hq]; exact partF_le _ _ _ _ _
  · exact h
theorem partsF_le (o a b : List ByteArray) : ∀ q ∈ partsF o a b, PtLe o a b q := by
  have key : ∀ ps : List Pl, ∀ q ∈ (partsK o a b ps).l, PtLe o a b q := by
    intro ps
    refine snocInd (p := fun ps => ∀ q ∈ (partsK o a b ps).l, PtLe o a b q) (fun q hq => by cases hq) (fun l x ih => ?_) ps
    rw [partsK_snoc]
    unfold stepP
    split
    · exact ih
    · intro q hq
      rcases List.mem_append.1 hq with hq | hq
      · exact fastP_le ih q hq
      · rw [List.mem_singleton.1 hq]
        have h := partF_le o a b (partsK o a b l).at_ x
        exact ⟨h.base, h.a, h.b⟩
  unfold partsF
  exact fastP_le (key _)
theorem chosenF_le {o a b : List ByteArray} {q : Pt} (h : PtLe o a b q) {n : Nat} (h2 : a.length ≤ n) (h3 : b.length ≤ n) : (chosenF q).length ≤ n := by
  unfold chosenF
  have := h.a
  have := h.b
  split <;> omega
theorem partsF_length (o a b : List ByteArray) : (partsF o a b).length ≤ 2 * o.length + 3 := by
  unfold partsF
  have h1 := fastP_length o a b (partsK o a b (standF o a b)).l ⟨o.length, a.length, b.length⟩ (partsK o a b (standF o a b)).from_
  have h2 := partsK_length o a b (standF o a b)
  have h3 := standF_length o a b
  dsimp only
  omega
theorem flatMap_le {α β : Type} (f : α → List β) (n : Nat) : ∀ l : List α, (∀ x ∈ l, (f x).length ≤ n) → (l.flatMap f).length ≤ l.length * n
  | [], _ => Nat.zero_le _
  | x :: l, h => by
    rw [List.flatMap_cons, List.length_append, List.length_cons, Nat.add_mul]
    have h1 := h x (List.mem_cons_self ..)
    have h2 := flatMap_le f n l fun y hy => h y (List.mem_cons_of_mem _ hy)
    omega

/-- three.chosen. -/
theorem chosen_calls (n : Nat) (p : PtS) (q : Pt) (w : World) (h : RepP n w p q) :
    Calls Tryz.prog 213 #[.agg #[.bool p.c, p.s1.val, p.s2.val, p.s3.val]] w fun e w' => ∃ u, e = .returned u ∧ New ES 9 n w' u (chosenF q) ∧ Ext w w' := by
  obtain ⟨pc, ⟨P1, m1, k1⟩, ⟨P2, m2, k2⟩, ⟨P3, m3, k3⟩⟩ := p
  dsimp only [SliceV.val]
  have HQ := Lib.hid fun W (hW : Ext w W) => And.intro (equalS_calls _ _ _ _ _ _ W (h.s2.ext hW).rd (h.s3.ext hW).rd) (equalS_calls _ _ _ _ _ _ W (h.s3.ext hW).rd (h.s1.ext hW).rd)
  dsimp only [SliceV.val] at HQ
  have H := Lib.hid h
  have HC : Hid (chosenF q = if (sameT q.a q.b || sameT q.b q.base) = true then q.a else q.b) := Lib.hid rfl
  obtain ⟨cq, hcq⟩ : ∃ c, chosenF q = c := ⟨_, rfl⟩
  rw [hcq] at HC ⊢
  obtain ⟨sa, hsa⟩ : ∃ c, sameT q.a q.b = c := ⟨_, rfl⟩
  obtain ⟨sb, hsb⟩ : ∃ c, sameT q.b q.base = c := ⟨_, rfl⟩
  rw [hsa, hsb] at HQ HC
  clear h hcq hsa hsb
  go_enter Tryz.func213, Tryz.ntmps213
  have hx0 : Ext w (w.alloc (.cells #[.bool pc, .slice P1 m1 k1, .slice P2 m2 k2, .slice P3 m3 k3] 219)) := (Kp.refl _ w).alloc _
  have hb := Blk.new w 219 #[.bool pc, .slice P1 m1 k1, .slice P2 m2 k2, .slice P3 m3 k3]
  have hq1 := (HQ.out _ hx0).1
  go_wp2_with fail
  refine hq1.mono ?_
  rintro e w1 ⟨rfl, hx1⟩
  have hb1 := hb.ext hx1
  have x1 : w1.cell? ⟨w.heap.size, 1, none⟩ = some (.slice P1 m1 k1) := hb1.cell 1
  have x2 : w1.cell? ⟨w.heap.size, 2, none⟩ = some (.slice P2 m2 k2) := hb1.cell 2
  have x3 : w1.cell? ⟨w.heap.size, 3, none⟩ = some (.slice P3 m3 k3) := hb1.cell 3
  have hx01 := hx0.trans hx1
  have hq2 := (HQ.out _ hx01).2
  clear hq1 hx1 hx0 hb
  cases sa with
  | true =>
    clear hq2
    go_wp2_with fail
    go_ret
    exact ⟨_, rfl, by rw [HC.out]; exact H.out.s2.ext hx01, hx01⟩
  | false =>
    go_wp2_with fail
    refine hq2.mono ?_
    rintro e w2 ⟨rfl, hx2⟩
    have hb2 := hb1.ext hx2
    have y2 : w2.cell? ⟨w.heap.size, 2, none⟩ = some (.slice P2 m2 k2) := hb2.cell 2
    have y3 : w2.cell? ⟨w.heap.size, 3, none⟩ = some (.slice P3 m3 k3) := hb2.cell 3
    have hx02 := hx01.trans hx2
    clear hq2 hx2 hx01 x1 x2 x3 hb1
    cases sb with
    | true =>
      go_wp2_with fail
      go_ret
      exact ⟨_, rfl, by rw [HC.out]; exact H.out.s2.ext hx02, hx02⟩
    | false =>
      go_wp2_with fail
      go_ret
      exact ⟨_, rfl, by rw [HC.out]; exact H.out.s3.ext hx02, hx02⟩

theorem RdA.part {S : Fp} {w : World} {A : Option Addr} {xs : List PtS} (h : RdA EPt S w A xs) {i : Nat} (hi : i < xs.length) :
    ∃ b off, A = some ⟨b, off, none⟩ ∧ S b ∧ b < w.heap.size ∧ w.cell? ⟨b, off + i * 4, none⟩ = some (.bool xs[i].c) ∧ w.cell? ⟨b, off + i * 4 + 1, none⟩ = some xs[i].s1.val ∧ w.cell? ⟨b, off + i * 4 + 2, none⟩ = some xs[i].s2.val ∧ w.cell? ⟨b, off + i * 4 + 3, none⟩ = some xs[i].s3.val := by
  obtain ⟨b, off, hA, hs, hb, hc⟩ := h.at_ hi
  exact ⟨b, off, hA, hs, hb, hc 0 _ rfl, hc 1 _ rfl, hc 2 _ rfl, hc 3 _ rfl⟩

def MergePost (w : World) (m : Option (List ByteArray)) (e : Ending) (w' : World) : Prop := ∃ r, e = .returned (.tuple #[r, .bool m.isSome]) ∧ New ES 9 w.heap.size w' r (m.getD []) ∧ Ext w w'

set_option maxHeartbeats 2000000 in
/-- three.Merge. -/
theorem merge3_calls (v1 v2 v3 : Value) (xs ys zs : List ByteArray) (S : Fp) (w : World) (hA : Rd ES S w v1 xs) (hB : Rd ES S w v2 ys) (hC : Rd ES S w v3 zs) (h1 : xs.length ≤ 400) (h2 : ys.length ≤ 400) (h3 : zs.length ≤ 400) (hS : ∀ k, S k → k < w.heap.size) :
    Calls Tryz.prog 186 #[v1, v2, v3] w (MergePost w (mergeL xs ys zs)) := by
  have hP := parts_calls v1 v2 v3 xs ys zs S w hA hB hC h1 h2 h3 hS
  have hle := partsF_le xs ys zs
  have hpl := partsF_length xs ys zs
  have hM : mergeL xs ys zs = if (partsF xs ys zs).any Pt.conflict = true then none else some ((partsF xs ys zs).flatMap chosenF) := rfl
  obtain ⟨mg, hmg⟩ : ∃ m, mergeL xs ys zs = m := ⟨_, rfl⟩
  obtain ⟨ps, hps⟩ : ∃ m, partsF xs ys zs = m := ⟨_, rfl⟩
  rw [hmg] at hM ⊢
  rw [hps] at hP hle hpl hM
  have hch : ∀ q ∈ ps, (chosenF q).length ≤ 400 := fun q hq => chosenF_le (hle q hq) h2 h3
  have hpl2 : ps.length ≤ 803 := by omega
  obtain ⟨A1, c1, rfl, _⟩ := hA.open_
  obtain ⟨A2, c2, rfl, _⟩ := hB.open_
  obtain ⟨A3, c3, rfl, _⟩ := hC.open_
  obtain ⟨na, hna⟩ : ∃ n, xs.length = n := ⟨_, rfl⟩
  obtain ⟨nb, hnb⟩ : ∃ n, ys.length = n := ⟨_, rfl⟩
  obtain ⟨nc, hnc⟩ : ∃ n, zs.length = n := ⟨_, rfl⟩
  rw [hna, hnb, hnc] at hP
  rw [hna] at h1
  rw [hnb] at h2
  rw [hnc] at h3
  rw [hna, hnb, hnc]
  obtain ⟨M, hMx⟩ : ∃ M : Nat, max (max (na : Int) (nb : Int)) (nc : Int) = (M : Int) := ⟨max (max na nb) nc, by omega⟩
  have hM4 : M ≤ 400 := by omega
  have hd4 : decide ((400 : Int) < (M : Int)) = false := decide_eq_false (by omega)
  have hmr : ∀ (ts : Array TypeId) (t : TypeId) (W : World), (Builtin.max_ ts t #[.int .i64 (na : Int), .int .i64 (nb : Int), .int .i64 (nc : Int)]).run Tryz.prog W = .ok (.int .i64 (M : Int)) W := fun ts t W => by
    rw [run_max_int3]
    have : (if (nc : Int) > (if (nb : Int) > (na : Int) then (nb : Int) else (na : Int)) then (nc : Int) else (if (nb : Int) > (na : Int) then (nb : Int) else (na : Int))) = (M : Int) := by
      rw [← hMx]; split <;> split <;> omega
    rw [this]
  have HP := Lib.hid hP
  have HM := Lib.hid hM
  have HCH := Lib.hid hch
  clear hA hB hC hP hle hpl hM hmg hps hch hna hnb hnc hMx hS
  go_enter Tryz.func186, Tryz.ntmps186
  go_wp2_with fail
  refine HP.out.mono ?_
  clear HP
  rintro e w1 ⟨r, rows, rfl, hN, hRp, hx1⟩
  obtain ⟨B, d, hr, hO⟩ := hN.rd.open_
  subst hr
  have hrl := hRp.len
  obtain ⟨n, hn⟩ : ∃ n, rows.length = n := ⟨_, rfl⟩
  have hn8 : n ≤ 803 := by omega
  rw [hn]
  have HNN := Lib.hid hn
  have HRL := Lib.hid hrl
  have HO := Lib.hid fun W (hW : Ext w1 W) => hO.kp (hW.mono fun _ _ _ => trivial)
  have HRP := Lib.hid fun W (hW : Ext w1 W) => RepPs.ext hW hRp
  clear hN hRp hO hn hrl hmr
  go_wp2_with fail
  go_loopw [8, 24] (fun o i wr => ∃ k : Nat, k ≤ n ∧ i = .int .i64 k ∧ (ps.take k).any Pt.conflict = false ∧ New ES 9 w1.heap.size wr o ((ps.take k).flatMap chosenF) ∧ Ext w1 wr) (fun _ i _ => n - (intOf i).toNat)
  case atStart => exact ⟨0, Nat.zero_le _, rfl, rfl, New.nil _ _ _, Kp.refl _ _⟩
  case round =>
    obtain ⟨k, hk, rfl, hno, hN, hx⟩ := hrel
    rename World => wo
    by_cases hlt : k < n
    · have hd : decide ((k : Int) < (n : Int)) = true := decide_eq_true (by omega)
      have hkr : k < rows.length := by have := HNN.out; omega
      have hkp : k < ps.length := by have := HRL.out; omega
      obtain ⟨b, off, rfl, _, hb, e0, e1, e2, e3⟩ := (HO.out wo hx).rd.part hkr
      have hrep := RepPs.get (HRP.out wo hx) hkr hkp
      have hfl := flatMap_le chosenF 400 (ps.take k) fun q hq => HCH.out q (List.mem_of_mem_take hq)
      have htl : (ps.take k).length ≤ 803 := by rw [List.length_take]; omega
      have hfl2 : ((ps.take k).flatMap chosenF).length ≤ 321200 := Nat.le_trans hfl (Nat.le_trans (Nat.mul_le_mul_right 400 htl) (by decide))
      have hcl := HCH.out _ (List.getElem_mem hkp)
      have HAN : Hid ((ps.take (k + 1)).any Pt.conflict = ps[k].conflict) := Lib.hid (by rw [take_snoc ps hkp, List.any_append, hno]; simp)
      have HFM : Hid ((ps.take (k + 1)).flatMap chosenF = (ps.take k).flatMap chosenF ++ chosenF ps[k]) := Lib.hid (by rw [take_snoc ps hkp, List.flatMap_append]; simp)
      have HAY : Hid (ps[k].conflict = true → ps.any Pt.conflict = true) := Lib.hid fun h => List.any_eq_true.2 ⟨_, List.getElem_mem hkp, h⟩
      obtain ⟨row, hrow⟩ : ∃ r, rows[k] = r := ⟨_, rfl⟩
      obtain ⟨q, hq⟩ : ∃ r, ps[k] = r := ⟨_, rfl⟩
      obtain ⟨fm, hfm⟩ : ∃ r, (ps.take k).flatMap chosenF = r := ⟨_, rfl⟩
      rw [hrow] at e0 e1 e2 e3 hrep
      rw [hq] at hrep HAN HFM HAY hcl
      rw [hfm] at HFM hN hfl2
      obtain ⟨pc, ⟨P1, m1, k1⟩, ⟨P2, m2, k2⟩, ⟨P3, m3, k3⟩⟩ := row
      dsimp only [SliceV.val] at e0 e1 e2 e3
      have hpc : pc = q.conflict := hrep.c
      have hlt' : (k : Int) < (n : Int) := by omega
      have h0 : (0 : Int) ≤ (k : Int) := by omega
      have hw : IntKind.i64.wrap ((k : Int) + 1) = (k : Int) + 1 := IntWalk.i64_in _ (by omega)
      have HFL : Hid (fm.length ≤ 321200 ∧ (chosenF q).length ≤ 400) := Lib.hid ⟨hfl2, hcl⟩
      have HRE := Lib.hid hrep
      have HPC := Lib.hid hpc
      obtain ⟨Ao, no, co, ho⟩ := hN.1.slice
      subst ho
      clear hkr hkp hfl htl hfl2 hcl hrow hq hfm hrep hpc hno
      cases pc with
      | true =>
        have HM2 : Hid (mg = none) := Lib.hid (by rw [HM.out, if_pos (HAY.out HPC.out.symm)])
        go_wp2_with fail
        go_returns
        rw [HM2.out]
        exact ⟨_, rfl, New.nil _ _ _, (hx1.trans hx).alloc _⟩
      | false =>
        have hcc := chosen_calls w.heap.size ⟨false, ⟨P1, m1, k1⟩, ⟨P2, m2, k2⟩, ⟨P3, m3, k3⟩⟩ q _ (HRE.out.ext ((Kp.refl _ wo).alloc (.cells #[.bool false, .slice P1 m1 k1, .slice P2 m2 k2, .slice P3 m3 k3] 219)))
        dsimp only [SliceV.val] at hcc
        have HCC := Lib.hid hcc
        have hN2 := hN.ext ((Kp.refl _ wo).alloc (.cells #[.bool false, .slice P1 m1 k1, .slice P2 m2 k2, .slice P3 m3 k3] 219))
        have hx2 : Ext w1 (wo.alloc (.cells #[.bool false, .slice P1 m1 k1, .slice P2 m2 k2, .slice P3 m3 k3] 219)) := hx.alloc _
        clear hcc hN hx
        go_wp2_with fail
        refine HCC.out.mono ?_
        clear HCC
        rintro e w3 ⟨u, rfl, hNu, hx3⟩
        have hN3 := hN2.ext hx3
        have hx13 := hx2.trans hx3
        obtain ⟨Au, nu, cu, hu⟩ := hNu.1.slice
        subst hu
        have hRu := Lib.hid hNu.rd
        clear hNu hN2 hx2 hx3
        go_wp2_with (at_builtin; refine stop ?_)
        refine list_append_k (n := w1.heap.size) tiS rfl rfl hN3 hx13.size hRu.out rfl rfl (by have := HFL.out; omega) (by have := HFL.out; unfold maxLen; omega) ?_
        intro v' w' hN4 hk4
        have hx4 : Ext w1 w' := hx13.trans' hk4 fun k hk _ e => by have := hN3.2 k e; omega
        obtain ⟨A4, n4, c4, hv4⟩ := hN4.1.slice
        subst hv4
        have HN4 : Hid (New ES 9 w1.heap.size w' (.slice A4 n4 c4) ((ps.take (k + 1)).flatMap chosenF)) := Lib.hid (by rw [HFM.out]; exact hN4)
        have HA2 : Hid ((ps.take (k + 1)).any Pt.conflict = false) := Lib.hid (by rw [HAN.out]; exact HPC.out.symm)
        clear hN3 hRu hN4 hk4 hx13 e0 e1 e2 e3
        go_wp2_with fail
        go_roundw
        case rel => exact ⟨k + 1, by omega, by go_num, HA2.out, HN4.out, hx4⟩
        case measure => simp [intOf]; omega
    · have hd : decide ((k : Int) < (n : Int)) = false := decide_eq_false (by omega)
      have hall : ps.take k = ps := List.take_of_length_le (by have := HNN.out; have := HRL.out; omega)
      rw [hall] at hno hN
      have HM2 : Hid (mg = some (ps.flatMap chosenF)) := Lib.hid (by rw [HM.out, if_neg (by rw [hno]; simp)])
      obtain ⟨Ao, no, co, ho⟩ := hN.1.slice
      subst ho
      have HN := Lib.hid hN
      clear hall hno hN
      go_wp2_with fail
      go_returns
      rw [HM2.out]
      exact ⟨_, rfl, HN.out.less hx1.size, hx1.trans hx⟩

end Go.Proofs.YtgjbfkaepalkiaaGreatDoor

namespace Go.Proofs.YtgjbfkaepalkiaaGreatDoor
open Go.RowKit
set_option linter.unusedVariables false
set_option linter.unusedSimpArgs false
attribute [local go_sem] Oper.semAt_some

/-! ### Plain -/
def joinT (xs : List ByteArray) : ByteArray := lb (xs.map bl).flatten
theorem libJoin (xs : List ByteArray) : Lib.join (xs.map (·.data.toList)) [] = (xs.map bl).flatten := by
  cases xs with
  | nil => rfl
  | cons x xs =>
    rw [List.map_cons, Lib.join_cons, List.flatten_cons]
    congr 1
    unfold Lib.joinTail
    congr 1
    simp
theorem flat_le (n : Nat) : ∀ xs : List ByteArray, (∀ x ∈ xs, x.size ≤ n) → ((xs.map bl).flatten).length ≤ xs.length * n
  | [], _ => Nat.zero_le _
  | x :: xs, h => by
    rw [List.map_cons, List.flatten_cons, List.length_append, List.length_cons, Nat.add_mul]
    have h1 : (bl x).length ≤ n := h x (List.mem_cons_self ..)
    have h2 := flat_le n xs fun y hy => h y (List.mem_cons_of_mem _ hy)
    omega
theorem linesL_sub : ∀ (l : List UInt8), ∀ x ∈ linesL l, x.length ≤ l.length
  | [], x, h => by cases h
  | c :: cs, x, h => by
    unfold linesL at h
    split at h
    · rcases List.mem_cons.1 h with rfl | h
      · simp
      · have := linesL_sub cs x h; simp only [List.length_cons]; omega
    · split at h
      · rw [List.mem_singleton.1 h]; simp
      · rename_i l ls hl
        rcases List.mem_cons.1 h with rfl | h
        · have := linesL_sub cs l (by rw [hl]; exact List.mem_cons_self ..)
          simp only [List.length_cons]; omega
        · have := linesL_sub cs x (by rw [hl]; exact List.mem_cons_of_mem _ h)
          simp only [List.length_cons]; omega
theorem linesT_sub (s : ByteArray) : ∀ x ∈ linesT s, x.size ≤ s.size := by
  intro x hx
  unfold linesT at hx
  obtain ⟨l, hl, rfl⟩ := List.mem_map.1 hx
  exact linesL_sub _ l hl
/-- A piece's lists are made of the lists' elements. -/
structure PtIn (o a b : List ByteArray) (q : Pt) : Prop where
  a : ∀ x ∈ q.a, x ∈ a
  b : ∀ x ∈ q.b, x ∈ b
theorem sub_mem {α : Type} {xs : List α} {i j : Nat} {x : α} (h : x ∈ sub xs i j) : x ∈ xs := List.mem_of_mem_drop (List.mem_of_mem_take h)
theorem partF_in (o a b : List ByteArray) (f t : Pl) : PtIn o a b (partF o a b f t) := ⟨fun _ h => sub_mem h, fun _ h => sub_mem h⟩
theorem partsF_in (o a b : List ByteArray) : ∀ q ∈ partsF o a b, PtIn o a b q := by
  have key : ∀ ps : List Pl, ∀ q ∈ (partsK o a b ps).l, PtIn o a b q := by
    intro ps
    refine snocInd (p := fun ps => ∀ q ∈ (partsK o a b ps).l, PtIn o a b q) (fun q hq => by cases hq) (fun l x ih => ?_) ps
    rw [partsK_snoc]
    unfold stepP fastP
    split
    · exact ih
    · intro q hq
      rcases List.mem_append.1 hq with hq | hq
      · split at hq
        · rcases List.mem_append.1 hq with hq | hq
          · exact ih q hq
          · rw [List.mem_singleton.1 hq]; exact partF_in _ _ _ _ _
        · exact ih q hq
      · rw [List.mem_singleton.1 hq]
        have h := partF_in o a b (partsK o a b l).at_ x
        exact ⟨h.a, h.b⟩
  unfold partsF fastP
  dsimp only
  intro q hq
  split at hq
  · rcases List.mem_append.1 hq with hq | hq
    · exact key _ q hq
    · rw [List.mem_singleton.1 hq]; exact partF_in _ _ _ _ _
  · exact key _ q hq
theorem mergeL_in {o a b l : List ByteArray} (h : mergeL o a b = some l) : (∀ x ∈ l, x ∈ a ∨ x ∈ b) ∧ ∀ n, a.length ≤ n → b.length ≤ n → l.length ≤ (2 * o.length + 3) * n := by
  unfold mergeL at h
  split at h
  · cases h
  · injection h with h
    subst h
    refine ⟨fun x hx => ?_, fun n h1 h2 => ?_⟩
    · obtain ⟨q, hq, hx⟩ := List.mem_flatMap.1 hx
      have hi := partsF_in o a b q hq
      unfold chosenF at hx
      split at hx
      · exact .inl (hi.a x hx)
      · exact .inr (hi.b x hx)
    · exact Nat.le_trans (flatMap_le chosenF n _ fun q hq => chosenF_le (partsF_le o a b q hq) h1 h2) (Nat.mul_le_mul_right n (partsF_length o a b))
def eqT (x y : ByteArray) : Bool := x.toList == y.toList
theorem eqT_iff (x y : ByteArray) : eqT x y = true ↔ x = y := by
  unfold eqT
  rw [beq_iff_eq]
  exact ⟨toList_inj, fun h => by rw [h]⟩
/-- text.Merge's answer. -/
def textM (o a b : ByteArray) : Option ByteArray :=
  if (eqT a b || eqT b o) = true then some a else if eqT a o = true then some b
  else if ([o, a, b].any oddT) = true then none
  else match mergeL (linesT o) (linesT a) (linesT b) with
    | none => none
    | some l => if (joinT l).size ≤ 400 then some (joinT l) else none

/-- line.Join. -/
theorem lineJoin_calls (v : Value) (xs : List ByteArray) (S : Fp) (w : World) (hR : Rd ES S w v xs) (hn : xs.length ≤ 1000000) (hz : ∀ x ∈ xs, x.size ≤ 400) :
    Calls Tryz.prog 188 #[v] w fun e w' => e = .returned (.string (joinT xs)) ∧ Ext w w' := by
  obtain ⟨A, c, rfl, hO⟩ := hR.open_
  have hlen : (Lib.join (xs.map (·.data.toList)) (ByteArray.data ⟨#[]⟩).toList).length ≤ 140737488355328 := by
    show (Lib.join (xs.map (·.data.toList)) []).length ≤ _
    rw [libJoin]
    have := flat_le 400 xs hz
    omega
  have hc : Calls Tryz.prog 216 #[.slice A xs.length c, .string ⟨#[]⟩] w fun e w' => e = .returned (.string (joinT xs)) ∧ Ext w w' := by
    by_cases h0 : 0 < xs.length
    · obtain ⟨b, off, hA, _, hbl, hcell⟩ := hO.rd h0
      cases hA
      refine (Tryz.strings_Join b off c xs ⟨#[]⟩ w (fun j x hx => hcell j _ (by rw [flatS, List.getElem?_map, hx]; rfl)) hbl (by omega) hO.le hlen).mono ?_
      rintro e w' ⟨rfl, hbw⟩
      refine ⟨?_, ext_of_below hbw⟩
      show Ending.returned (.string ⟨(Lib.join (xs.map (·.data.toList)) []).toArray⟩) = _
      rw [libJoin]; rfl
    · have hx : xs = [] := List.eq_nil_of_length_eq_zero (by omega)
      subst hx
      refine (Tryz.strings_Join_none A c ⟨#[]⟩ w).mono ?_
      rintro e w' ⟨rfl, rfl⟩
      exact ⟨rfl, Kp.refl _ _⟩
  have HC := Lib.hid hc
  clear hc hlen hO hR hz
  go_enter Tryz.func188, Tryz.ntmps188
  go_wp2_with fail
  refine HC.out.mono ?_
  rintro e w1 ⟨rfl, hx⟩
  go_wp2_with fail
  go_ret
  exact ⟨rfl, hx⟩

set_option maxHeartbeats 2000000 in
/-- text.Merge. -/
theorem textMerge_calls (o a b : ByteArray) (ho : o.size ≤ 400) (ha : a.size ≤ 400) (hb : b.size ≤ 400) (w : World) :
    Calls Tryz.prog 160 #[.string o, .string a, .string b] w fun e w' => e = .returned (.tuple #[.string ((textM o a b).getD ⟨#[]⟩), .bool (textM o a b).isSome]) ∧ Ext w w' := by
  have HT : textM o a b = if (eqT a b || eqT b o) = true then some a else if eqT a o = true then some b else if ([o, a, b].any oddT) = true then none else match mergeL (linesT o) (linesT a) (linesT b) with
    | none => none
    | some l => if (joinT l).size ≤ 400 then some (joinT l) else none := rfl
  obtain ⟨tm, htm⟩ : ∃ t, textM o a b = t := ⟨_, rfl⟩
  rw [htm] at HT ⊢
  have q1 : (a.toList == b.toList) = eqT a b := rfl
  have q2 : (b.toList == o.toList) = eqT b o := rfl
  have q3 : (a.toList == o.toList) = eqT a o := rfl
  generalize eqT a b = e1 at q1 HT
  generalize eqT b o = e2 at q2 HT
  generalize eqT a o = e3 at q3 HT
  have HTT := Lib.hid HT
  clear htm HT
  cases e1 with
  | true =>
    have h : tm = some a := HTT.out
    subst h
    clear HTT
    go_enter Tryz.func160, Tryz.ntmps160
    go_wp2_with fail
    go_returns
    exact ⟨rfl, Kp.refl _ _⟩
  | false =>
    cases e2 with
    | true =>
      have h : tm = some a := HTT.out
      subst h
      clear HTT
      go_enter Tryz.func160, Tryz.ntmps160
      go_wp2_with fail
      go_returns
      exact ⟨rfl, Kp.refl _ _⟩
    | false =>
      cases e3 with
      | true =>
        have h : tm = some b := HTT.out
        subst h
        clear HTT
        go_enter Tryz.func160, Tryz.ntmps160
        go_wp2_with fail
        go_returns
        exact ⟨rfl, Kp.refl _ _⟩
      | false =>
        have HT2 : Hid (tm = if ([o, a, b].any oddT) = true then none else match mergeL (linesT o) (linesT a) (linesT b) with
          | none => none
          | some l => if (joinT l).size ≤ 400 then some (joinT l) else none) := Lib.hid HTT.out
        have hpl := plain_calls (.slice (some ⟨w.heap.size, 0, none⟩) 3 3) [o, a, b] _ _ (New.made (E := ES) w 9 [o, a, b] (by simp [maxLen])).rd (by simp) (by intro y hy; simp only [List.mem_cons, List.not_mem_nil, or_false] at hy; rcases hy with rfl | rfl | rfl <;> omega)
        obtain ⟨od, hod⟩ : ∃ x, [o, a, b].any oddT = x := ⟨_, rfl⟩
        rw [hod] at HT2 hpl
        have HPL := Lib.hid hpl
        have HL1 := Lib.hid fun W => split_line o W (by omega)
        have HL2 := Lib.hid fun W => split_line a W (by omega)
        have HL3 := Lib.hid fun W => split_line b W (by omega)
        have hl1 := linesT_length o
        have hl2 := linesT_length a
        have hl3 := linesT_length b
        have HLL : Hid ((linesT o).length ≤ 400 ∧ (linesT a).length ≤ 400 ∧ (linesT b).length ≤ 400) := Lib.hid ⟨by omega, by omega, by omega⟩
        have hs2 := linesT_sub a
        have hs3 := linesT_sub b
        have HSS : Hid (∀ l, mergeL (linesT o) (linesT a) (linesT b) = some l → (∀ x ∈ l, x.size ≤ 400) ∧ l.length ≤ 1000000) := Lib.hid fun l hl => by
          obtain ⟨m1, m2⟩ := mergeL_in hl
          refine ⟨fun x hx => ?_, ?_⟩
          · rcases m1 x hx with h | h
            · exact Nat.le_trans (hs2 x h) ha
            · exact Nat.le_trans (hs3 x h) hb
          · have h2 := m2 400 (by omega) (by omega)
            have h3 : (2 * (linesT o).length + 3) * 400 ≤ 803 * 400 := Nat.mul_le_mul_right 400 (by omega)
            omega
        clear HTT hod hpl hl1 hl2 hl3 hs2 hs3 ho ha hb
        go_enter Tryz.func160, Tryz.ntmps160
        go_wp2_with fail
        refine HPL.out.mono ?_
        clear HPL
        rintro e w1 ⟨rfl, hx1'⟩
        have hx1 : Ext w w1 := ((Kp.refl _ w).alloc _).trans hx1'
        clear hx1'
        cases od with
        | true =>
          have h : tm = none := HT2.out
          subst h
          go_wp2_with fail
          go_returns
          exact ⟨rfl, hx1⟩
        | false =>
          have HT3 : Hid (tm = match mergeL (linesT o) (linesT a) (linesT b) with
            | none => none
            | some l => if (joinT l).size ≤ 400 then some (joinT l) else none) := Lib.hid HT2.out
          clear HT2
          go_wp2_with fail
          refine (HL1.out _).mono ?_
          rintro e w2 ⟨u1, rfl, hN1, hx2⟩
          obtain ⟨B1, n1, d1, hu1⟩ := hN1.1.slice
          subst hu1
          have N1 := Lib.hid fun W (hW : Ext w2 W) => (hN1.ext hW).rd.wide (T := fun k => k < W.heap.size ∨ True) fun _ _ => .inr trivial
          have M1 := Lib.hid hN1
          clear hN1 HL1
          go_wp2_with fail
          refine (HL2.out _).mono ?_
          rintro e w3 ⟨u2, rfl, hN2, hx3⟩
          obtain ⟨B2, n2, d2, hu2⟩ := hN2.1.slice
          subst hu2
          have M2 := Lib.hid hN2
          clear hN2 HL2 N1
          go_wp2_with fail
          refine (HL3.out _).mono ?_
          rintro e w4 ⟨u3, rfl, hN3, hx4⟩
          obtain ⟨B3, n3, d3, hu3⟩ := hN3.1.slice
          subst hu3
          have hx14 := ((hx1.trans hx2).trans hx3).trans hx4
          have hmg := merge3_calls _ _ _ (linesT o) (linesT a) (linesT b) (fun k => k < w4.heap.size) w4
            (((M1.out.ext (hx3.trans hx4)).1.rd).wide fun k hk => (M1.out.ext (hx3.trans hx4)).1.lt hk) (((M2.out.ext hx4).1.rd).wide fun k hk => (M2.out.ext hx4).1.lt hk) (hN3.1.rd.wide fun k hk => hN3.1.lt hk) HLL.out.1 HLL.out.2.1 HLL.out.2.2 (fun k hk => hk)
          obtain ⟨mg, hm⟩ : ∃ m, mergeL (linesT o) (linesT a) (linesT b) = m := ⟨_, rfl⟩
          rw [hm] at hmg HT3 HSS
          have HMG := Lib.hid hmg
          clear hmg hm hN3 HL3 M1 M2 hx1 hx2 hx3 hx4
          go_wp2_with fail
          refine HMG.out.mono ?_
          clear HMG
          rintro e w5 ⟨r, rfl, hN5, hx5⟩
          have hx15 := hx14.trans hx5
          obtain ⟨B5, n5, d5, hu5⟩ := hN5.1.slice
          subst hu5
          have hj := lineJoin_calls _ (mg.getD []) _ w5 hN5.rd (by cases mg with | none => exact Nat.zero_le _ | some l => exact (HSS.out l rfl).2) (by cases mg with | none => exact fun x hx => by cases hx | some l => exact (HSS.out l rfl).1)
          have HJ := Lib.hid hj
          clear hj hN5 hx14 hx5
          go_wp2_with fail
          refine HJ.out.mono ?_
          clear HJ
          rintro e w6 ⟨rfl, hx6⟩
          have hx16 := hx15.trans hx6
          cases mg with
          | none =>
            have h : tm = none := HT3.out
            subst h
            clear HT3 HSS
            go_wp2_with fail
            go_returns
            exact ⟨rfl, hx16⟩
          | some l =>
            have HT4 : Hid (tm = if (joinT l).size ≤ 400 then some (joinT l) else none) := Lib.hid HT3.out
            clear HT3 HSS
            rw [show (some l).getD [] = l from rfl]
            obtain ⟨j, hj⟩ : ∃ j, joinT l = j := ⟨_, rfl⟩
            rw [hj] at HT4 ⊢
            clear hj
            by_cases hs : j.size ≤ 400
            · have hd : decide ((j.size : Int) ≤ 400) = true := decide_eq_true (by omega)
              have h : tm = some j := by rw [HT4.out, if_pos hs]
              subst h
              clear HT4
              go_wp2_with fail
              go_returns
              exact ⟨rfl, hx16⟩
            · have hd : decide ((j.size : Int) ≤ 400) = false := decide_eq_false (by omega)
              have h : tm = none := by rw [HT4.out, if_neg hs]
              subst h
              clear HT4
              go_wp2_with fail
              go_returns
              exact ⟨rfl, hx16⟩

end Go.Proofs.YtgjbfkaepalkiaaGreatDoor
