/-
  cortegelaw7.TreePuts.
-/
import Derived.Test.YtinafpbdlblcaaaDoorAwake7
namespace Go.Proofs.YtinafpbdlblcaaaDoor
open Go.RowKit
set_option linter.unusedVariables false
set_option linter.unusedSimpArgs false
attribute [local go_sem] Oper.semAt_some

/-- What a round of TreePuts' loop finds. -/
theorem puts_round {xs : List File} (h : Tree xs) (p d : ByteArray) {f : File} (hf : f ∈ xs) : (getF (putF xs p d) f.path).isSome = true ∧ (f.path ≠ p → getD (putF xs p d) f.path = f.data) := by
  by_cases hp : f.path = p
  · rw [hp, getF_put xs h]; exact ⟨rfl, fun h => absurd rfl h⟩
  · have := (getF_put_other xs h p d f.path hp).trans (getF_mem h hf)
    refine ⟨by rw [this]; rfl, fun _ => by unfold getD; rw [this]; rfl⟩

theorem Tree.few' {xs : List File} (h : Tree xs) (p : ByteArray) (d : ByteArray) : (putF xs p d).length ≤ 13 := by
  rw [h.put_eq, insK_length]
  have := (dropF_sub xs p).length_le
  have := h.few
  omega

set_option maxHeartbeats 1000000 in
theorem puts_main (v : Value) (xs : List File) (p d : ByteArray) (k : Int) (S : Fp) (w : World) (hR : Rd EF S w v xs) (hg : greatB xs 12 = false) (hp : p.size ≤ 100) (hdd : d.size ≤ 400) (hT : Tree xs) (hm : mayB xs = true) :
    Calls Tryd.prog 3 #[v, .string p, .string d, .int .i64 k] w fun e w' => e = .returned (.bool true) ∧ Ext w w' := by
  have hgr := greatB_false hg
  have hd1 : decide ((100 : Int) < (p.size : Int)) = false := decide_eq_false (by omega)
  have hd2 : decide ((400 : Int) < (d.size : Int)) = false := decide_eq_false (by omega)
  have h12 : xs.length ≤ 12 := hT.few
  have hG := greatFiles_calls v xs 12 S w hR (by decide)
  rw [hg] at hG
  have hM := may_calls v xs S w hR (by omega) (fun y hy => by have := hgr.2 y hy; omega)
  rw [hm] at hM
  have HG := Lib.hid hG
  have HM := Lib.hid hM
  have HR := Lib.hid hR
  have HT := Lib.hid hT
  have HGR := Lib.hid hgr
  clear hG hM hR hgr hg hm hT
  obtain ⟨A, c, rfl, _⟩ := HR.out.open_
  go_enter Tryd.func3, Tryd.ntmps3
  go_wp2_with fail
  refine HG.out.mono ?_
  rintro e w1 ⟨rfl, rfl⟩
  go_wp2_with fail
  refine HM.out.mono ?_
  rintro e w1 ⟨rfl, hx1⟩
  clear HG HM
  go_wp2_with fail
  have hR1 := HR.out.kp (hx1.mono fun _ _ _ => trivial)
  refine (put_calls _ p d xs S w1 hR1 (by omega)).mono ?_
  clear hR1
  rintro e w2 ⟨u, rfl, hNu, hx2⟩
  have HN := Lib.hid hNu
  have hul : (putF xs p d).length ≤ 1000000 := by have := HT.out.few' p d; omega
  have hget := get_calls u p _ _ w2 hNu.rd hul
  unfold getD at hget
  rw [getF_put xs HT.out p d] at hget
  clear hNu
  go_wp2_with fail
  refine hget.mono ?_
  clear hget
  rintro e w3 ⟨rfl, hx3⟩
  go_wp2_with fail
  go_loopw [12] (fun i wr => ∃ k : Nat, k ≤ xs.length ∧ i = .int .i64 k ∧ Ext w3 wr) (fun i _ => xs.length - (intOf i).toNat)
  case atStart => exact ⟨0, Nat.zero_le _, rfl, Kp.refl _ _⟩
  case round =>
    obtain ⟨j, hj, rfl, hx⟩ := hrel
    rename_i wr
    have hxw : Ext w wr := ((hx1.trans hx2).trans hx3).trans hx
    by_cases hlt : j < xs.length
    · have hd3 : decide ((j : Int) < (xs.length : Int)) = true := decide_eq_true (by omega)
      have hlt' : (j : Int) < (xs.length : Int) := by omega
      have h0 : (0 : Int) ≤ (j : Int) := by omega
      have hw : IntKind.i64.wrap ((j : Int) + 1) = (j : Int) + 1 := IntWalk.i64_in _ (by omega)
      obtain ⟨f, hf⟩ : ∃ f, xs[j] = f := ⟨_, rfl⟩
      have hfm : f ∈ xs := by rw [← hf]; exact List.getElem_mem hlt
      obtain ⟨hr1, hr2⟩ := puts_round HT.out p d hfm
      obtain ⟨b, off, rfl, _, hb, c0, c1⟩ := (HR.out.open_.elim fun A' ⟨c', e, hO⟩ => by cases e; exact (hO.rd.kp (hxw.mono fun _ _ _ => trivial)).file hlt)
      rw [hf] at c0 c1
      have hget := get_calls u f.path _ _ wr ((HN.out.ext (hx3.trans hx)).rd) hul
      rw [hr1] at hget
      have HGet := Lib.hid hget
      have HR2 := Lib.hid hr2
      clear hr1 hr2 hget hf hfm
      go_wp2_with fail
      refine HGet.out.mono ?_
      clear HGet
      rintro e w4 ⟨rfl, hx4⟩
      have c0' := (hx4.cell (p := ⟨b, off + j * 2, none⟩) hb trivial).trans c0
      have c1' := (hx4.cell (p := ⟨b, off + j * 2 + 1, none⟩) hb trivial).trans c1
      clear c0 c1
      by_cases hpp : f.path = p
      · have he : (f.path.toList == p.toList) = true := by rw [hpp]; exact beq_self_eq_true _
        have he' : (f.path.toList != p.toList) = false := by rw [bne, he]; rfl
        have HP := Lib.hid hpp
        clear hpp
        go_wp2_with fail
        go_roundw
        case rel => exact ⟨j + 1, by omega, by go_num, hx.trans hx4⟩
        case measure => simp [intOf]; omega
      · have he : (f.path.toList == p.toList) = false := by rw [toList_beq]; simp [hpp]
        have he' : (f.path.toList != p.toList) = true := by rw [bne, he]; rfl
        have hgd := HR2.out hpp
        rw [hgd]
        clear hpp hgd
        go_wp2_with fail
        go_roundw
        case rel => exact ⟨j + 1, by omega, by go_num, hx.trans hx4⟩
        case measure => simp [intOf]; omega
    · have hd3 : decide ((j : Int) < (xs.length : Int)) = false := decide_eq_false (by omega)
      have hdr := drop_calls u p _ _ wr ((HN.out.ext (hx3.trans hx)).rd) hul
      rw [show ((putF xs p d).filter fun f => !(f.path.toList == p.toList)) = dropF xs p from dropF_put xs HT.out p d] at hdr
      have HDr := Lib.hid hdr
      clear hdr
      go_wp2_with fail
      refine HDr.out.mono ?_
      clear HDr
      rintro e w4 ⟨v4, rfl, hN4, hx4⟩
      have hdl : (dropF xs p).length ≤ 12 := (HT.out.drop p).few
      have hget := get_calls v4 p _ _ w4 hN4.rd (by omega)
      rw [getF_drop] at hget
      have HN4 := Lib.hid hN4
      have HGet := Lib.hid hget
      clear hget hN4
      go_wp2_with fail
      refine HGet.out.mono ?_
      clear HGet
      rintro e w5 ⟨rfl, hx5⟩
      have hm5 := may_calls v4 _ _ w5 ((HN4.out.ext hx5).rd) (by omega) (fun y hy => by have := HGR.out.2 y ((dropF_sub xs p).subset hy); omega)
      rw [(mayB_iff _).2 (HT.out.drop p)] at hm5
      have HM5 := Lib.hid hm5
      clear hm5
      go_wp2_with fail
      refine HM5.out.mono ?_
      clear HM5
      rintro e w6 ⟨rfl, hx6⟩
      have hx36 : Ext w w6 := ((hxw.trans hx4).trans hx5).trans hx6
      have hdr := drop_calls _ p xs S w6 (HR.out.kp (hx36.mono fun _ _ _ => trivial)) (by omega)
      have HDr := Lib.hid hdr
      clear hdr
      go_wp2_with fail
      refine HDr.out.mono ?_
      clear HDr
      rintro e w7 ⟨v7, rfl, hN7, hx7⟩
      have hsm := sameFiles_calls v4 v7 _ _ _ _ w7 ((((HN4.out.ext hx5).ext hx6).ext hx7).rd) hN7.rd
      rw [show (xs.filter fun f => !(f.path.toList == p.toList)) = dropF xs p from rfl, sameB_refl] at hsm
      have HSm := Lib.hid hsm
      clear hsm hN7
      go_wp2_with fail
      refine HSm.out.mono ?_
      clear HSm HN4
      rintro e w8 ⟨rfl, hx8⟩
      have hxw8 : Ext w w8 := (hx36.trans hx7).trans hx8
      clear hx1 hx2 hx3 hx hx4 hx5 hx6 hx7 hx8 hx36 hxw HN
      by_cases hz : xs.length = 0
      · have hz1 : ((xs.length : Int) == 0) = true := by rw [hz]; rfl
        have hz2 : (xs.length == 0) = true := by rw [hz]; rfl
        clear hd3 hlt
        go_wp2_with fail
        refine (awake7_calls w8).mono ?_
        rintro e w9 ⟨rfl, hx9⟩
        go_wp2_with fail
        go_ret
        exact ⟨rfl, hxw8.trans hx9⟩
      · have hz1 : ((xs.length : Int) == 0) = false := by rw [beq_eq_false_iff_ne]; omega
        have hz2 : (xs.length == 0) = false := by rw [beq_eq_false_iff_ne]; exact hz
        have hlow := low_calls k xs.length w8 (by omega) (by omega)
        have HZ := Lib.hid hz
        clear hz hd3 hlt
        go_wp2_with fail
        refine hlow.mono ?_
        clear hlow
        rintro e w9 ⟨⟨i, hi, rfl⟩, rfl⟩
        have hi' : (i : Int) < (xs.length : Int) := by omega
        have hi0 : (0 : Int) ≤ (i : Int) := by omega
        obtain ⟨f, hf⟩ : ∃ f, xs[i] = f := ⟨_, rfl⟩
        have hfm : f ∈ xs := by rw [← hf]; exact List.getElem_mem hi
        obtain ⟨b, off, rfl, _, hb, c0, c1⟩ := (HR.out.open_.elim fun A' ⟨c', e, hO⟩ => by cases e; exact (hO.rd.kp (hxw8.mono fun _ _ _ => trivial)).file hi)
        rw [hf] at c0 c1
        have HF := Lib.hid hfm
        clear hf hfm
        go_wp2_with fail
        have hdr := drop_calls _ f.path xs S (w8.alloc (.cells #[.string f.path, .string f.data] 30)) (HR.out.kp ((hxw8.alloc _).mono fun _ _ _ => trivial)) (by omega)
        rw [show (xs.filter fun g => !(g.path.toList == f.path.toList)) = dropF xs f.path from rfl] at hdr
        refine hdr.mono ?_
        clear hdr
        rintro e w10 ⟨v10, rfl, hN10, hx10⟩
        have hdl2 : (dropF xs f.path).length = xs.length - 1 := dropF_length HT.out HF.out
        have hm5 := may_calls v10 _ _ w10 hN10.rd (by omega) (fun y hy => by have := HGR.out.2 y ((dropF_sub xs _).subset hy); omega)
        rw [(mayB_iff _).2 (HT.out.drop _)] at hm5
        obtain ⟨A10, c10, rfl, _⟩ := hN10.rd.open_
        have HN10 := Lib.hid hN10
        have HM5 := Lib.hid hm5
        have HL := Lib.hid hdl2
        clear hm5 hN10 hdl2
        have hB10 : Blk w10 w8.heap.size 30 #[.string f.path, .string f.data] := (Blk.new w8 _ _).ext hx10
        go_wp2_with fail
        refine HM5.out.mono ?_
        clear HM5
        rintro e w11 ⟨rfl, hx11⟩
        have b0 : w11.cell? ⟨w8.heap.size, 0, none⟩ = some (.string f.path) := (hB10.ext hx11).cell 0
        have b1 : w11.cell? ⟨w8.heap.size, 1, none⟩ = some (.string f.data) := (hB10.ext hx11).cell 1
        have hsub : wrap64 ((xs.length : Int) - 1) = ((dropF xs f.path).length : Int) := by rw [IntWalk.wrap64_in _ (by omega)]; have := HL.out; omega
        have hsub' : IntKind.i64.wrap ((xs.length : Int) - 1) = ((dropF xs f.path).length : Int) := by rw [IntWalk.i64_in _ (by omega)]; have := HL.out; omega
        have hput := put_calls (.slice A10 (dropF xs f.path).length c10) f.path f.data _ _ w11 ((HN10.out.ext hx11).rd) (by have := HL.out; omega)
        rw [put_back HT.out HF.out] at hput
        have HPut := Lib.hid hput
        clear hput hB10
        go_wp2_with fail
        refine HPut.out.mono ?_
        clear HPut
        rintro e w12 ⟨v12, rfl, hN12, hx12⟩
        have hxw12 : Ext w w12 := (((hxw8.alloc _).trans hx10).trans hx11).trans hx12
        have hsm := sameFiles_calls v12 (.slice (some ⟨b, off, none⟩) xs.length c) _ _ _ S w12 hN12.rd (HR.out.kp (hxw12.mono fun _ _ _ => trivial))
        rw [sameB_refl] at hsm
        have HSm := Lib.hid hsm
        clear hsm hN12
        go_wp2_with fail
        refine HSm.out.mono ?_
        rintro e w13 ⟨rfl, hx13⟩
        go_wp2_with fail
        refine (awake7_calls w13).mono ?_
        rintro e w14 ⟨rfl, hx14⟩
        go_wp2_with fail
        go_ret
        exact ⟨rfl, (hxw12.trans hx13).trans hx14⟩

set_option maxHeartbeats 1000000 in
theorem puts_calls (v : Value) (xs : List File) (p d : ByteArray) (k : Int) (S : Fp) (w : World) (hR : Rd EF S w v xs) :
    Calls Tryd.prog 3 #[v, .string p, .string d, .int .i64 k] w fun e w' => e = .returned (.bool true) ∧ Ext w w' := by
  have hG := greatFiles_calls v xs 12 S w hR (by decide)
  have HR := Lib.hid hR
  cases hg : greatB xs 12 with
  | true =>
    rw [hg] at hG
    have HG := Lib.hid hG
    clear hG hg hR
    go_enter Tryd.func3, Tryd.ntmps3
    go_wp2_with fail
    refine HG.out.mono ?_
    rintro e w1 ⟨rfl, rfl⟩
    go_wp2_with fail
    refine (awake7_calls w).mono ?_
    rintro e w9 ⟨rfl, hx9⟩
    go_wp2_with fail
    go_ret
    exact ⟨rfl, hx9⟩
  | false =>
    have hgr := greatB_false hg
    rw [hg] at hG
    have HG := Lib.hid hG
    by_cases hp : p.size ≤ 100
    · have hd1 : decide ((100 : Int) < (p.size : Int)) = false := decide_eq_false (by omega)
      by_cases hdd : d.size ≤ 400
      · have hd2 : decide ((400 : Int) < (d.size : Int)) = false := decide_eq_false (by omega)
        cases hm : mayB xs with
        | true => exact puts_main v xs p d k S w hR hg hp hdd ((mayB_iff _).1 hm) hm
        | false =>
          have hM := may_calls v xs S w hR (by omega) (fun y hy => by have := hgr.2 y hy; omega)
          rw [hm] at hM
          have HM := Lib.hid hM
          clear hM hG hg hR hgr hm
          go_enter Tryd.func3, Tryd.ntmps3
          go_wp2_with fail
          refine HG.out.mono ?_
          rintro e w1 ⟨rfl, rfl⟩
          go_wp2_with fail
          refine HM.out.mono ?_
          rintro e w1 ⟨rfl, hx1⟩
          go_wp2_with fail
          refine (awake7_calls w1).mono ?_
          rintro e w9 ⟨rfl, hx9⟩
          go_wp2_with fail
          go_ret
          exact ⟨rfl, hx1.trans hx9⟩
      · have hd2 : decide ((400 : Int) < (d.size : Int)) = true := decide_eq_true (by omega)
        clear hG hg hR hgr
        go_enter Tryd.func3, Tryd.ntmps3
        go_wp2_with fail
        refine HG.out.mono ?_
        rintro e w1 ⟨rfl, rfl⟩
        go_wp2_with fail
        refine (awake7_calls w).mono ?_
        rintro e w9 ⟨rfl, hx9⟩
        go_wp2_with fail
        go_ret
        exact ⟨rfl, hx9⟩
    · have hd1 : decide ((100 : Int) < (p.size : Int)) = true := decide_eq_true (by omega)
      clear hG hg hR hgr
      go_enter Tryd.func3, Tryd.ntmps3
      go_wp2_with fail
      refine HG.out.mono ?_
      rintro e w1 ⟨rfl, rfl⟩
      go_wp2_with fail
      refine (awake7_calls w).mono ?_
      rintro e w9 ⟨rfl, hx9⟩
      go_wp2_with fail
      go_ret
      exact ⟨rfl, hx9⟩

end Go.Proofs.YtinafpbdlblcaaaDoor
