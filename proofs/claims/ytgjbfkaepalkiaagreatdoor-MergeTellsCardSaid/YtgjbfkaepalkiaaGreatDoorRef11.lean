/-
  Plain: common commits merged from the ends; best ones, from behind. cortegeref11: Ahead, by marks.
-/
import Derived.Test.YtgjbfkaepalkiaaGreatDoorRef10
import Derived.Test.YtgjbfkaepalkiaaGreatDoorBaseW
import Derived.Test.YtgjbfkaepalkiaaGreatDoorTable
import Derived.Test.YtgjbfkaepalkiaaGreatDoorConcat
namespace Go.Proofs.YtgjbfkaepalkiaaGreatDoor
set_option linter.unusedVariables false
set_option linter.unusedSimpArgs false

/-- What is still to come of two rows of which so many are left. -/
def restC (x y : List Int) (m l : Nat) : List Int := ((x.take m).filter fun n => (y.take l).contains n).reverse
theorem restC_all (cs : List Cm) (a b : Int) : commonF cs a b = restC (aheadF cs a) (aheadF cs b) (aheadF cs a).length (aheadF cs b).length := by
  unfold restC commonF
  rw [List.take_length, List.take_length]
theorem restC_zero_left (x y : List Int) (l : Nat) : restC x y 0 l = [] := rfl
theorem restC_zero_right (x y : List Int) (m : Nat) : restC x y m 0 = [] := by
  unfold restC
  rw [show ((x.take m).filter fun n => (y.take 0).contains n) = [] from List.filter_eq_nil_iff.2 fun a _ => by simp]
  rfl
section
variable {x y : List Int} (hx : x.Pairwise (· > ·)) (hy : y.Pairwise (· > ·)) {m l : Nat} (hm : m < x.length) (hl : l < y.length)
include hx in
theorem desc_take_gt {n : Int} (h : n ∈ x.take m) : x[m] < n := by
  obtain ⟨j, hj, rfl⟩ := List.getElem_of_mem h
  rw [List.length_take] at hj
  rw [List.getElem_take]
  exact List.pairwise_iff_getElem.1 hx j m (by omega) hm (by omega)
theorem take_snoc' (x : List Int) {m : Nat} (hm : m < x.length) : x.take (m + 1) = x.take m ++ [x[m]] := by
  rw [List.take_succ_eq_append_getElem hm]
theorem take_has {n : Int} (hl : l < y.length) (hne : n ≠ y[l]) : (y.take (l + 1)).contains n = (y.take l).contains n := by
  simp only [List.contains_eq_mem]
  rw [take_snoc' y hl]
  refine decide_eq_decide.2 ?_
  rw [List.mem_append, List.mem_singleton]
  exact ⟨fun h => h.resolve_right hne, .inl⟩
include hx in
theorem restC_eq (h : x[m] = y[l]) : restC x y (m + 1) (l + 1) = x[m] :: restC x y m l := by
  unfold restC
  rw [take_snoc' x hm, List.filter_append, List.reverse_append]
  have h1 : ([x[m]].filter fun n => (y.take (l + 1)).contains n) = [x[m]] := List.filter_eq_self.2 fun n hn => by
    rw [List.mem_singleton] at hn; subst hn
    simp only [List.contains_eq_mem, decide_eq_true_eq]
    rw [take_snoc' y hl, h, List.mem_append, List.mem_singleton]; exact .inr rfl
  have h2 : ((x.take m).filter fun n => (y.take (l + 1)).contains n) = (x.take m).filter fun n => (y.take l).contains n := List.filter_congr fun n hn => by
    have := desc_take_gt hx hm hn
    have hne : n ≠ y[l] := by omega
    exact take_has hl hne
  rw [h1, h2]
  rfl
include hy in
theorem restC_lt (h : x[m] < y[l]) : restC x y (m + 1) (l + 1) = restC x y m (l + 1) := by
  unfold restC
  rw [take_snoc' x hm, List.filter_append]
  have h1 : ([x[m]].filter fun n => (y.take (l + 1)).contains n) = [] := List.filter_eq_nil_iff.2 fun n hn => by
    rw [List.mem_singleton] at hn; subst hn
    simp only [List.contains_eq_mem, decide_eq_true_eq]
    rw [take_snoc' y hl, List.mem_append, List.mem_singleton]
    rintro (h' | h')
    · have := desc_take_gt hy hl h'; omega
    · omega
  rw [h1, List.append_nil]
include hx in
theorem restC_gt (h : y[l] < x[m]) : restC x y (m + 1) (l + 1) = restC x y (m + 1) l := by
  unfold restC
  congr 1
  refine List.filter_congr fun n hn => ?_
  have hne : n ≠ y[l] := by
    rw [take_snoc' x hm, List.mem_append, List.mem_singleton] at hn
    rcases hn with hn | hn
    · have := desc_take_gt hx hm hn; omega
    · omega
  exact take_has hl hne
end

theorem best_cov {cs : List Cm} {c cov : List Int} {m : Nat} (hm : m < c.length) (h : cov.contains c[m] = true) : bestGo cs (c.take (m + 1)).reverse cov = bestGo cs (c.take m).reverse cov := by
  rw [take_snoc' c hm, List.reverse_append]
  show bestGo cs (c[m] :: (c.take m).reverse) cov = _
  rw [bestGo, if_pos h]
theorem best_new {cs : List Cm} {c cov : List Int} {m : Nat} (hm : m < c.length) (h : cov.contains c[m] = false) : bestGo cs (c.take (m + 1)).reverse cov = c[m] :: bestGo cs (c.take m).reverse (cov ++ aheadF cs c[m]) := by
  rw [take_snoc' c hm, List.reverse_append]
  show bestGo cs (c[m] :: (c.take m).reverse) cov = _
  rw [bestGo, if_neg (by rw [h]; simp)]

end Go.Proofs.YtgjbfkaepalkiaaGreatDoor

namespace Go.Proofs.YtgjbfkaepalkiaaGreatDoor
open Go.RowKit
set_option linter.unusedVariables false
set_option linter.unusedSimpArgs false
attribute [local go_sem] Oper.semAt_some

/-- A row of marks. -/
def Marks (w : World) (b n : Nat) (mk : Int → Bool) : Prop := Blk w b 4 (rowOf n fun j => .bool (mk j))
section
variable {w w' : World} {b n : Nat} {mk : Int → Bool} {S : Fp}
theorem Marks.get (h : Marks w b n mk) {i : Nat} (hi : i < n) : w.cell? ⟨b, i, none⟩ = some (.bool (mk i)) := by
  rw [Blk.cell h i, rowOf_get _ hi]
theorem Marks.frz (h : Marks w b n mk) (i : Nat) : w.frozen? ⟨b, i, none⟩ = false := Blk.frozen h i
theorem Marks.kp (h : Marks w b n mk) (hk : Kp S w w') (hs : S b) : Marks w' b n mk := Blk.kp h hk hs
theorem Marks.ext (h : Marks w b n mk) (hk : Ext w w') : Marks w' b n mk := Blk.ext h hk
theorem Marks.set_ (h : Marks w b n mk) (i : Nat) {mk' : Int → Bool} (hm : ∀ x : Int, 0 ≤ x → mk' x = (mk x || decide (x = i))) : Marks (w.setCell ⟨b, i, none⟩ (.bool true)) b n mk' := by
  have h1 := Blk.set_ h i (.bool true)
  rw [rowOf_set] at h1
  unfold Marks
  rw [rowOf_congr (g := fun k => if k = i then .bool true else .bool (mk k)) fun k hk => ?_]
  · exact h1
  · rw [hm k (by omega)]
    by_cases he : k = i
    · subst he; simp
    · rw [if_neg he]
      have : ¬ (k : Int) = (i : Int) := by omega
      simp [this]
theorem Marks.congr (h : Marks w b n mk) {mk' : Int → Bool} (hm : ∀ j : Nat, j < n → mk' j = mk j) : Marks w b n mk' := by
  unfold Marks
  rw [rowOf_congr (g := fun j => .bool (mk j)) fun k hk => by rw [hm k hk]]
  exact h
theorem Marks.made (w : World) (n : Nat) : Marks (w.alloc (.cells (rowOf n fun _ => .bool false) 4)) w.heap.size n fun _ => false := Blk.new _ _ _
end
theorem Marks.first (w : World) (n i : Nat) : Marks (w.alloc (.cells ((rowOf n fun _ => .bool false).setIfInBounds i (.bool true)) 4)) w.heap.size n fun x => decide (x = (i : Int)) := by
  have h := Blk.new w 4 ((rowOf n fun _ => .bool false).setIfInBounds i (.bool true))
  rw [rowOf_set] at h ⊢
  have he : (rowOf n fun j : Nat => Value.bool (decide ((j : Int) = (i : Int)))) = rowOf n fun k => if k = i then .bool true else .bool false := rowOf_congr fun k hk => by
    by_cases he : k = i
    · subst he; simp
    · rw [if_neg he]
      have : ¬ (k : Int) = (i : Int) := by omega
      simp [this]
  show Blk _ _ _ (rowOf n fun j : Nat => Value.bool (decide ((j : Int) = (i : Int))))
  rw [he]
  exact h
theorem make_marks (n m : Nat) (hm : n + 1 = m) (hn : n ≤ 100000) (W : World) : (Instr.makeSlice 129 (.int .i64 ((n : Int) + 1)) (.int .i64 ((n : Int) + 1))).run Tryz.prog W = .ok (.slice (some ⟨W.heap.size, 0, none⟩) m m) (W.alloc (.cells (rowOf m fun _ => .bool false) 4)) := by
  have h := run_make_row' (P := Tryz.prog) 129 4 (.bool false) 1 Tryz.underlying129 (by kernel_rfl) (by rfl) .i64 .i64 (n + 1) (by omega) (by omega) W
  rw [madeCells_row, hm] at h
  rw [← hm, Int.natCast_add] at h
  rw [← hm]; exact h
theorem goA_true {cs : List Cm} {j : Nat} {mk : Int → Bool} (h : mk ((j : Int) + 1) = true) : goA cs (j + 1) mk = ((j : Int) + 1) :: goA cs j (fun x => mk x || (parentsC cs ((j : Int) + 1)).contains x) := by
  show (if mk ((j : Int) + 1) = true then _ else _) = _
  rw [if_pos h]
theorem goA_false {cs : List Cm} {j : Nat} {mk : Int → Bool} (h : mk ((j : Int) + 1) = false) : goA cs (j + 1) mk = goA cs j mk := by
  show (if mk ((j : Int) + 1) = true then _ else _) = _
  rw [if_neg (by rw [h]; simp)]

section
variable {I D : Fp} {rb : Nat} {cs : List Cm} {room : Nat} {w : World}
set_option maxHeartbeats 2000000 in
theorem refAhead_calls (h : RepoX refT I D w rb cs room) (hG : GoodR cs) (hn : cs.length ≤ 300) (n : Int) : Calls Tryz.prog 94 #[.pointer (some ⟨rb, 0, none⟩), .int .i64 n] w (IntsPost w (aheadF cs n)) := by
  have HHas := Lib.hid (rkHas_calls h n)
  obtain ⟨A, cp, rows, hB, hO, hR, hl⟩ := h.rd
  have c0 : w.cell? ⟨rb, 0, none⟩ = some (.slice A cs.length cp) := hB.cell 0
  have hrb := hB.lt
  have hle := hO.le
  rw [hl] at hle
  have hmx := hO.max
  have HLI := Lib.hid h.li
  have HC0 := Lib.hid fun W (hW : Ext w W) => show W.cell? ⟨rb, 0, none⟩ = some (.slice A cs.length cp) from (hW.cell (p := ⟨rb, 0, none⟩) hrb trivial).trans c0
  have HG := Lib.hid hG
  have HRows : Hid (∀ (j : Nat), j < cs.length → ∀ W, Ext w W → ∃ (b off : Nat) (x : SliceV), A = some ⟨b, off, none⟩ ∧ b < w.heap.size ∧ W.cell? ⟨b, off + j * 3, none⟩ = some (.slice x.a x.n x.c) ∧ Rd EI I W x.val (parentsC cs ((j : Int) + 1)) ∧ (∀ p ∈ parentsC cs ((j : Int) + 1), 1 ≤ p ∧ p ≤ j) ∧ (parentsC cs ((j : Int) + 1)).length ≤ 2) := Lib.hid fun j hj W hW => by
    obtain ⟨b, off, hA, _, hb, e0, _⟩ := (hO.kp (hW.mono fun _ _ _ => trivial)).rd.kom (i := j) (by omega)
    obtain ⟨b', off', hA', _, hb', _⟩ := hO.rd.kom (i := j) (by omega)
    rw [hA] at hA'
    injection hA' with hA'
    injection hA' with h1 h2
    have hp : parentsC cs ((j : Int) + 1) = cs[j].parents := by unfold parentsC; rw [getC_nat hj]; rfl
    refine ⟨b, off, rows[j].p, hA, by omega, e0, ?_, fun p hp' => ?_, parents_two hG _⟩
    · rw [hp]; exact ((hR.ext hW).get j (by omega) hj).p
    · have := parents_lt hG hp'; omega
  have hno : getC cs n = none → aheadF cs n = [] := fun h => by unfold aheadF; rw [h]; rfl
  have hyes : (getC cs n).isSome = true → ∃ nn : Nat, n = nn ∧ 1 ≤ nn ∧ nn ≤ cs.length ∧ aheadF cs n = goA cs nn fun x => decide (x = (nn : Int)) := fun h => by
    have h1 := (getC_isSome cs n).1 h
    refine ⟨n.toNat, by omega, by omega, by omega, ?_⟩
    unfold aheadF
    rw [if_pos h]
    have : ((n.toNat : Nat) : Int) = n := by omega
    rw [this]
  obtain ⟨m, hm⟩ : ∃ m, cs.length = m := ⟨_, rfl⟩
  rw [hm] at c0 hle HC0 HRows hyes hn
  have HNO := Lib.hid hno
  have HYES := Lib.hid hyes
  clear h hB hO hR hl hG hm hno hyes
  cases hs : (getC cs n).isSome with
  | false =>
    rw [hs] at HHas
    have he := HNO.out (by cases hg : getC cs n with | none => rfl | some c => rw [hg] at hs; cases hs)
    rw [he]
    clear HNO HYES hs HRows he
    go_enter Tryz.func94, Tryz.ntmps94
    go_wp2_with fail
    refine HHas.out.mono ?_
    rintro e w1 ⟨rfl, rfl⟩
    clear HHas
    go_wp2_with fail
    go_ret
    exact ⟨_, rfl, New.nil _ _ _, Kp.refl _ _⟩
  | true =>
    rw [hs] at HHas
    obtain ⟨nn, rfl, h1, h2, he⟩ := HYES.out hs
    have HE := Lib.hid he
    rw [he]
    clear HNO HYES hs he
    obtain ⟨m1, hm1⟩ : ∃ m1, m + 1 = m1 := ⟨_, rfl⟩
    have hmk := make_marks m m1 hm1 (by omega)
    have hw1 : IntKind.i64.wrap ((m : Int) + 1) = (m : Int) + 1 := IntWalk.i64_in _ (by omega)
    have hi0 : (0 : Int) ≤ (nn : Int) := by omega
    have hi1 : (nn : Int) < (m1 : Int) := by omega
    go_enter Tryz.func94, Tryz.ntmps94
    go_wp2_with fail
    refine HHas.out.mono ?_
    rintro e w1 ⟨rfl, rfl⟩
    clear HHas
    have hM0 := Marks.made w m1
    have d0 := hM0.get (i := nn) (by omega)
    have f0 := hM0.frz nn
    have HM1 := Lib.hid (Marks.first w m1 nn)
    have hx0 : Ext w (w.alloc (.cells ((rowOf m1 fun _ => .bool false).setIfInBounds nn (.bool true)) 4)) := (Kp.refl _ w).alloc _
    have hz0 : (w.alloc (.cells ((rowOf m1 fun _ => .bool false).setIfInBounds nn (.bool true)) 4)).heap.size = w.heap.size + 1 := by simp
    have HMK := Lib.hid hm1
    clear hM0 hm1
    go_wp2_with fail
    clear d0 f0 hmk hw1 c0 hi0 hi1
    generalize (w.alloc (.cells ((rowOf m1 fun _ => .bool false).setIfInBounds nn (.bool true)) 4)) = w0 at HM1 hx0 hz0 ⊢
    go_loopw [6, 7] (fun o i wr => ∃ (kk : Nat) (told : List Int) (mk : Int → Bool), i = .int .i64 kk ∧ kk ≤ nn ∧ New EI 3 w0.heap.size wr o told ∧ Marks wr w.heap.size m1 mk ∧ Ext w wr ∧ w0.heap.size ≤ wr.heap.size ∧ told.length + kk ≤ nn ∧ goA cs nn (fun x => decide (x = (nn : Int))) = told ++ goA cs kk mk) (fun _ i _ => (intOf i).toNat)
    case atStart => exact ⟨nn, [], _, rfl, Nat.le_refl _, New.nil _ _ _, HM1.out, hx0, Nat.le_refl _, by simp, rfl⟩
    case round =>
      obtain ⟨kk, told, mk, rfl, hkk, hN, hM, hx, hzz, htl, hgo⟩ := hrel
      rename World => wo
      obtain ⟨Ao, no, co, ho⟩ := hN.1.slice
      subst ho
      cases kk with
      | zero =>
        have hfin : told = goA cs nn (fun x => decide (x = (nn : Int))) := by rw [hgo]; show told = told ++ []; simp
        rw [hfin] at hN
        have HN := Lib.hid hN
        clear hN hgo hfin
        go_wp2_with fail
        go_ret
        exact ⟨_, rfl, HN.out.less (by omega), hx⟩
      | succ j =>
        have hd : decide ((1 : Int) ≤ (j : Int) + 1) = true := decide_eq_true (by omega)
        have hj0 : (0 : Int) ≤ (j : Int) + 1 := by omega
        have hj1 : (j : Int) + 1 < (m1 : Int) := by have := HMK.out; omega
        have hmc : wo.cell? ⟨w.heap.size, j + 1, none⟩ = some (.bool (mk ((j : Int) + 1))) := by have := hM.get (i := j + 1) (by have := HMK.out; omega); simpa using this
        have hwj : IntKind.i64.wrap (j : Int) = (j : Int) := IntWalk.i64_in _ (by omega)
        have HN := Lib.hid hN
        have HM := Lib.hid hM
        have HGo := Lib.hid hgo
        have HX := Lib.hid hx
        clear hN hM hgo hx
        cases hmj : mk ((j : Int) + 1) with
        | false =>
          rw [hmj] at hmc
          have HGF := Lib.hid (goA_false (cs := cs) hmj)
          clear hmj
          go_wp2_with fail
          go_roundw
          case rel => exact ⟨j, told, mk, rfl, by omega, HN.out, HM.out, HX.out, hzz, by omega, by rw [HGo.out, HGF.out]⟩
          case measure => simp [intOf]
        | true =>
          rw [hmj] at hmc
          have HGT := Lib.hid (goA_true (cs := cs) hmj)
          clear hmj
          obtain ⟨b, off, x, hA, hbl, e0, hP, hPb, hP2⟩ := HRows.out j (by omega) wo HX.out
          go_wp2_with (at_builtin; refine stop ?_)
          refine list_append (v := .slice Ao no co) (u := .slice (some ⟨wo.heap.size, 0, none⟩) 1 1) (xs := told) (ys := [(j : Int) + 1]) tiI rfl rfl rfl rfl (HN.out.1.kp ((Kp.refl _ _).alloc _) (fun _ _ => trivial)) (Own.made wo 3 [(j : Int) + 1] (by simp [maxLen])).rd (by simp; omega) (by simp [maxLen]; omega) ?_
          intro v' w' hO' hk' hb'
          obtain ⟨A', n', c', rfl⟩ := hO'.slice
          have hN' : New EI 3 w0.heap.size w' (.slice A' n' c') (told ++ [(j : Int) + 1]) := ⟨hO', fun g e => by
            rcases hb' with h | h
            · rw [h] at e; exact HN.out.2 g e
            · rw [h] at e; simp at e; omega⟩
          have hkw : Kp (fun k => k < w0.heap.size) wo w' := ((Kp.refl _ wo).alloc _).trans' hk' fun k _ h e => by have := HN.out.2 k e; omega
          have hM' : Marks w' w.heap.size m1 mk := HM.out.kp hkw (by omega)
          have hx' : Ext w w' := HX.out.trans' hkw fun k hk _ => by omega
          have hz' := hkw.size
          subst hA
          have c0' := HC0.out w' hx'
          have e0' : w'.cell? ⟨b, off + j * 3, none⟩ = some (.slice x.a x.n x.c) := (hkw.cell (p := ⟨b, off + j * 3, none⟩) (by have := HX.out.size; show b < wo.heap.size; omega) (by show b < w0.heap.size; omega)).trans e0
          have hj2 : (0 : Int) ≤ (j : Int) := by omega
          have hj3 : (j : Int) < (m : Int) := by omega
          have HN' := Lib.hid hN'
          have HM' := Lib.hid hM'
          have HX' := Lib.hid hx'
          obtain ⟨Pa, pc, hxv, hPO⟩ := (hP.kp (hkw.mono fun k hk hi => by have := HLI.out k hi; omega)).open_
          obtain ⟨xa, xn, xc⟩ := x
          dsimp only [SliceV.val] at hxv e0'
          injection hxv with q1 q2 q3
          subst q1 q2 q3
          have hple := hPO.len
          generalize hps : parentsC cs ((j : Int) + 1) = ps at hP hPb hP2 hPO HGT hple e0'
          obtain ⟨pn, hpn⟩ : ∃ pn, ps.length = pn := ⟨_, rfl⟩
          rw [hpn] at e0' hple hP2
          have HPN := Lib.hid hpn
          have HPO := Lib.hid fun W (hW : Kp I w' W) => hPO.rd.kp hW
          have HPB := Lib.hid hPb
          clear hmc e0 hP hPb hps hpn hPO hO' hk' hb' hN' hM' hx' HN HM
          go_wp2_with fail
          go_loopw [9] (fun i wr => ∃ q : Nat, q ≤ pn ∧ i = .int .i64 q ∧ Marks wr w.heap.size m1 (fun y => mk y || (ps.take q).contains y) ∧ Kp (fun k => k ≠ w.heap.size) w' wr) (fun i _ => pn - (intOf i).toNat)
          case atStart => exact ⟨0, Nat.zero_le _, rfl, HM'.out.congr fun j hj => by simp, Kp.refl _ _⟩
          case round =>
            obtain ⟨q, hq, rfl, hMq, hkq⟩ := hrel
            rename World => wq
            have hkI : Kp I w' wq := hkq.mono fun k _ hi e => by have := HLI.out k hi; omega
            by_cases hlt : q < pn
            · have hd2 : decide ((q : Int) < (pn : Int)) = true := decide_eq_true (by omega)
              have hqp : q < ps.length := by have := HPN.out; omega
              obtain ⟨pb, po, hA2, hIp, hpbl, g0⟩ := (HPO.out wq hkI).num hqp
              have hT : Hid (ps.take (q + 1) = ps.take q ++ [ps[q]]) := Lib.hid (by rw [List.take_succ_eq_append_getElem hqp])
              have hpb := HPB.out ps[q] (List.getElem_mem hqp)
              generalize ps[q] = p at g0 hT hpb
              obtain ⟨pp, hpp⟩ : ∃ pp : Nat, p = pp := ⟨p.toNat, by omega⟩
              subst hpp hA2
              have hq0 : (0 : Int) ≤ (q : Int) := by omega
              have hq1 : (q : Int) < (pn : Int) := by omega
              have hp0 : (0 : Int) ≤ (pp : Int) := by omega
              have hp1 : (pp : Int) < (m1 : Int) := by omega
              have hwq : IntKind.i64.wrap ((q : Int) + 1) = (q : Int) + 1 := IntWalk.i64_in _ (by omega)
              have g1 := hMq.get (i := pp) (by omega)
              have g2 := hMq.frz pp
              have HMq := Lib.hid (hMq.set_ pp (mk' := fun y => mk y || (ps.take (q + 1)).contains y) fun y _ => by
                rw [hT.out, Bool.or_assoc]
                congr 1
                simp only [List.contains_eq_mem, List.mem_append, List.mem_singleton]
                by_cases h1 : y ∈ ps.take q <;> by_cases h2 : y = (pp : Int) <;> simp [h1, h2])
              clear hqp hMq hpb
              go_wp2_with fail
              go_roundw
              case rel => exact ⟨q + 1, by omega, by go_num, HMq.out, hkq.setCell (.inr (by simp)) _⟩
              case measure => simp [intOf]; omega
            · have hd2 : decide ((q : Int) < (pn : Int)) = false := decide_eq_false (by omega)
              have hall : ps.take q = ps := List.take_of_length_le (by have := HPN.out; omega)
              rw [hall] at hMq
              have HMq := Lib.hid hMq
              clear hall hMq
              go_wp2_with fail
              go_roundw
              case rel =>
                refine ⟨j, told ++ [(j : Int) + 1], _, rfl, by omega, HN'.out.kp hkq fun g e => by have := HN'.out.2 g e; omega, HMq.out, HX'.out.trans' hkq fun k hk _ => by omega, by have := hkq.size; omega, by simp; omega, ?_⟩
                rw [HGo.out, HGT.out, List.append_assoc]
                rfl
              case measure => simp [intOf]
end

end Go.Proofs.YtgjbfkaepalkiaaGreatDoor
