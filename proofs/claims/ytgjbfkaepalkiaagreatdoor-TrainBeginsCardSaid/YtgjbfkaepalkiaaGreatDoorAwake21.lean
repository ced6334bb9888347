/-
  repo: Copy. train: car, Head. train: Head. A region that draws its order, in a round of a range over a function: reads of cells that the region leaves alone may be taken first. train.Cars: what its loop keeps. train: Cars. made, of the law package 21. cortegelaw21: awake.
-/
import Derived.Test.YtgjbfkaepalkiaaGreatDoorRepo4
import Derived.Test.YtgjbfkaepalkiaaGreatDoorTrainP
import Derived.Test.YtgjbfkaepalkiaaGreatDoorSeq
import Derived.OrdersIn
import Derived.OrdersHeld
import Derived.Test.YtgjbfkaepalkiaaGreatDoorConcat
import Derived.Test.YtgjbfkaepalkiaaGreatDoorMade
namespace Go.Proofs.YtgjbfkaepalkiaaGreatDoor
open Go.RowKit
set_option linter.unusedVariables false
set_option linter.unusedSimpArgs false
attribute [local go_sem] Oper.semAt_some

/-- A repository of the program's that was made since w, with so much room. -/
structure OneQ (w wr : World) (rb : Nat) (cs : List Cm) (I D : Fp) (room : Nat) : Prop where
  r : RepoX 99 I D wr rb cs room
  lowD : ∀ k, D k → w.heap.size ≤ k
  lowI : ∀ k, I k → w.heap.size ≤ k
  x : Ext w wr
section
variable {w wr w1 w2 w4 : World} {rb room : Nat} {cs : List Cm} {I D : Fp} {c : Cm} {e : Ending}
theorem OneQ.ext (h : OneQ w wr rb cs I D room) (hx : Ext wr w1) : OneQ w w1 rb cs I D room := ⟨h.r.ext hx, h.lowD, h.lowI, h.x.trans hx⟩
theorem OneQ.kp {S : Fp} (h : OneQ w wr rb cs I D room) (hk : Kp S wr w1) (h1 : ∀ k, D k → S k) (h2 : ∀ k, I k → S k) (hx : Ext w w1) : OneQ w w1 rb cs I D room := ⟨h.r.kp hk h1 h2, h.lowD, h.lowI, hx⟩
theorem OneQ.of (h : OneQ w wr rb cs I D room) {cs' : List Cm} {I1 D1 : Fp} (h1 : RepoX 99 I1 D1 w1 rb cs' room) (h2 : Sub I I1 wr w1) (h3 : Sub D D1 wr w1) (h4 : Kp (fun k => ¬ D k) wr w1) : OneQ w w1 rb cs' I1 D1 room := by
  have hz := h.x.size
  refine ⟨h1, fun k hk => ?_, fun k hk => ?_, h.x.trans' h4 fun k hk _ hd => by have := h.lowD k hd; omega⟩
  · rcases h3 k hk with h' | h'
    · exact h.lowD k h'
    · omega
  · rcases h2 k hk with h' | h'
    · exact h.lowI k h'
    · omega
theorem OneQ.add (h : OneQ w wr rb cs I D room) (hp : AddPost 99 I D wr rb cs room c e w1) : ∃ I1 D1, OneQ w w1 rb (addC cs room c).1 I1 D1 room ∧ Sub I I1 wr w1 ∧ Sub D D1 wr w1 ∧ Kp (fun k => ¬ D k) wr w1 := by
  obtain ⟨_, I1, D1, h1, h2, h3, h4⟩ := hp
  exact ⟨I1, D1, h.of h1 h2 h3 h4, h2, h3, h4⟩
end

/-- The box of the commit. -/
structure CopQ (w W : World) (cb : Nat) (a b c : Value) : Prop where
  x : Ext w W
  b2 : Blk W cb 42 #[a, b, c]
theorem CopQ.ext {w W W' : World} {cb : Nat} {a b c : Value} (h : CopQ w W cb a b c) (hx : Ext W W') : CopQ w W' cb a b c := ⟨h.x.trans hx, h.b2.ext hx⟩

section
variable {I D : Fp} {rb : Nat} {cs : List Cm} {room : Nat} {w : World}
set_option maxHeartbeats 4000000 in
/-- Copy. -/
theorem copyR_calls (h : RepoX 99 I D w rb cs room) (hs : SmallR cs) (hn : cs.length ≤ 300) (more : Int) (q : Nat) (hq : (q : Int) = (room : Int) + min (max more 0) 120) (hq2 : q ≤ 120) :
    Calls Tryz.prog 48 #[.pointer (some ⟨rb, 0, none⟩), .int .i64 more] w fun e w' => ∃ I' D', e = .returned (.pointer (some ⟨w.heap.size, 0, none⟩)) ∧ OneQ w w' w.heap.size cs I' D' q := by
  obtain ⟨A, c, rows, hB, hO, hR, hl⟩ := h.rd
  have hlen := hO.len
  have c0 : w.cell? ⟨rb, 0, none⟩ = some (.slice A cs.length c) := hB.cell 0
  have c1 : w.cell? ⟨rb, 1, none⟩ = some (.int .i64 room) := hB.cell 1
  have hrb := hB.lt
  have HO := Lib.hid fun W (hW : Ext w W) => hO.kp (hW.mono fun _ _ _ => trivial)
  have HK := Lib.hid fun W (hW : Ext w W) => hR.ext hW
  have HSm := Lib.hid hs
  obtain ⟨n, hxn⟩ : ∃ n, cs.length = n := ⟨_, rfl⟩
  rw [hxn] at hl hn c0
  rw [hl] at hlen
  have HL := Lib.hid hl
  have HX := Lib.hid hxn
  clear hB hO hR h hs hl hxn
  obtain ⟨mm, hmm⟩ : ∃ mm : Int, min (max more 0) 120 = mm := ⟨_, rfl⟩
  rw [hmm] at hq
  have hwq : IntKind.i64.wrap ((room : Int) + mm) = (q : Int) := (IntWalk.i64_in _ (by omega)).trans hq.symm
  have HNw := Lib.hid fun W => newR_calls q W hq2
  clear hq hq2
  go_enter Tryz.func48, Tryz.ntmps48
  go_wp2_with fail
  refine (HNw.out w).mono ?_
  rintro e w1 hP
  have hP' := hP
  obtain ⟨rfl, -, hx1, hz1⟩ := hP'
  have hr1 := newR_repo hP
  have c01 : w1.cell? ⟨rb, 0, none⟩ = some (.slice A n c) := (hx1.cell (p := ⟨rb, 0, none⟩) hrb trivial).trans c0
  have HS := Lib.hid (show OneQ w w1 w.heap.size [] (fun _ => False) (fun k => k = w.heap.size) q from ⟨hr1, fun k hk => by omega, fun k hk => hk.elim, hx1⟩)
  clear hP hr1 HNw c1
  go_wp2_with fail
  go_loopw [24] (fun i wr => ∃ (k : Nat) (I' D' : Fp), k ≤ n ∧ i = .int .i64 k ∧ OneQ w wr w.heap.size (cs.take k) I' D' q) (fun i _ => n - (intOf i).toNat)
  case atStart => exact ⟨0, _, _, Nat.zero_le _, rfl, by rw [List.take_zero]; exact HS.out⟩
  case round =>
    obtain ⟨k, I1, D1, hk, rfl, hQ1⟩ := hrel
    rename World => wo
    have HQ1 := Lib.hid hQ1
    by_cases hlt : k < n
    · have hd : decide ((k : Int) < (n : Int)) = true := decide_eq_true (by omega)
      have hkr : k < rows.length := by have := HL.out; omega
      have hkc : k < cs.length := by have := HX.out; omega
      obtain ⟨b, off, rfl, _, hb, d0, d1, d2⟩ := (HO.out wo hQ1.x).rd.kom hkr
      have h0' : (0 : Int) ≤ (k : Int) := by omega
      have hlt' : (k : Int) < (n : Int) := by omega
      have hwk : IntKind.i64.wrap ((k : Int) + 1) = (k : Int) + 1 := IntWalk.i64_in _ (by omega)
      have hRk := (HK.out wo hQ1.x).get k hkr hkc
      have hsk := HSm.out _ (List.getElem_mem hkc)
      have HTk : Hid (cs.take (k + 1) = cs.take k ++ [cs[k]]) := Lib.hid (take_snoc cs hkc)
      obtain ⟨s, hss⟩ : ∃ s, rows[k] = s := ⟨_, rfl⟩
      obtain ⟨cc, hcc⟩ : ∃ cc, cs[k] = cc := ⟨_, rfl⟩
      rw [hss] at d0 d1 d2 hRk
      rw [hcc] at hRk hsk HTk
      obtain ⟨⟨pa, pn, pc⟩, ⟨ta, tn, tc⟩, nt⟩ := s
      have hOw := fun W (hW : Ext wo W) => own_calls ⟨⟨pa, pn, pc⟩, ⟨ta, tn, tc⟩, nt⟩ cc I W (hRk.ext hW) hsk.1 hsk.2.1
      dsimp only [KS.val, SliceV.val] at d0 d1 d2 hOw
      have HOw := Lib.hid hOw
      obtain ⟨lv, rws, hBo, hown, hrep, hDr, hg⟩ := hQ1.r.ex
      have hlnr := hrep.len
      rw [List.length_take, HX.out] at hlnr
      obtain ⟨Al, nl, cl, hlv⟩ := hown.slice
      subst hlv
      have hnl : nl = k := by obtain ⟨_, _, h, _⟩ := hown.rd; injection h with _ h _; omega
      subst hnl
      have HLN : Hid (rws.length = nl) := Lib.hid (by omega)
      have e0 : wo.cell? ⟨w.heap.size, 0, none⟩ = some (.slice Al nl cl) := hBo.cell 0
      have hob := hBo.lt
      have HB := Lib.hid hBo
      have HO1 := Lib.hid hown
      have HRp := Lib.hid hrep
      have HD := Lib.hid hDr
      have HG := Lib.hid hg
      clear hQ1 hRk hsk hss hcc hOw hBo hown hrep hDr hg hlnr HS
      go_wp2_with fail
      have HQ := Lib.hid (show CopQ wo (wo.alloc (.cells #[.slice pa pn pc, .slice ta tn tc, .string nt] 42)).drew wo.heap.size (.slice pa pn pc) (.slice ta tn tc) (.string nt) from ⟨((Kp.refl _ _).alloc _).drew, (Blk.new wo 42 #[.slice pa pn pc, .slice ta tn tc, .string nt]).ext (Kp.refl _ _).drew⟩)
      have HF := Lib.hid fun W (hW : CopQ wo W wo.heap.size (.slice pa pn pc) (.slice ta tn tc) (.string nt)) => (And.intro (hW.b2.cell 0) (And.intro (hW.b2.cell 1) (hW.b2.cell 2)) : W.cell? ⟨wo.heap.size, 0, none⟩ = some (.slice pa pn pc) ∧ W.cell? ⟨wo.heap.size, 1, none⟩ = some (.slice ta tn tc) ∧ W.cell? ⟨wo.heap.size, 2, none⟩ = some (.string nt))
      obtain ⟨w0, hw0⟩ : ∃ w0, (wo.alloc (.cells #[.slice pa pn pc, .slice ta tn tc, .string nt] 42)).drew = w0 := ⟨_, rfl⟩
      rw [hw0] at HQ
      refine wp_region_held_drew (S := (fun W => W.cell? ⟨wo.heap.size, 0, none⟩ = some (.slice pa pn pc) ∧ W.cell? ⟨wo.heap.size, 1, none⟩ = some (.slice ta tn tc) ∧ W.cell? ⟨wo.heap.size, 2, none⟩ = some (.string nt))) (by kernel_rfl) ?_ (fun hHeld => ?_)
      · rw [hw0]; exact HF.out _ HQ.out
      rw [hw0]
      have hHeld2 : (fun W => W.cell? ⟨wo.heap.size, 0, none⟩ = some (.slice pa pn pc) ∧ W.cell? ⟨wo.heap.size, 1, none⟩ = some (.slice ta tn tc) ∧ W.cell? ⟨wo.heap.size, 2, none⟩ = some (.string nt)) w0 := HF.out _ HQ.out
      clear hw0 hHeld d0 d1 d2
      have r0 : w0.cell? ⟨w.heap.size, 0, none⟩ = some (.slice Al nl cl) := (HQ.out.x.cell (p := ⟨w.heap.size, 0, none⟩) hob trivial).trans e0
      refine wpAnyH_take (i := 0) (v := ?_) rfl (by kernel_rfl) (by kernel_rfl) (by kernel_rfl) (fun _ _ _ h => h) (Or.inl ⟨by rfl, ?_⟩) (by assumption) ?_
      rotate_left
      · intro w hSw; (try dsimp only at hSw); go_simp; (try with_reducible rfl)
      try simp only [Act.put, List.setIfInBounds_toArray, List.set_cons_zero, List.set_cons_succ]
      refine wpAnyH_take (i := 1) (v := ?_) rfl (by kernel_rfl) (by kernel_rfl) (by kernel_rfl) (fun _ _ _ h => h) (Or.inl ⟨by rfl, ?_⟩) (by assumption) ?_
      rotate_left
      · intro w hSw; (try dsimp only at hSw); go_simp; (try with_reducible rfl)
      try simp only [Act.put, List.setIfInBounds_toArray, List.set_cons_zero, List.set_cons_succ]
      refine wpAnyH_take (i := 2) (v := ?_) rfl (by kernel_rfl) (by kernel_rfl) (by kernel_rfl) (fun _ _ _ h => h) (Or.inl ⟨by rfl, ?_⟩) (by assumption) ?_
      rotate_left
      · intro w hSw; (try dsimp only at hSw); go_simp; (try with_reducible rfl)
      try simp only [Act.put, List.setIfInBounds_toArray, List.set_cons_zero, List.set_cons_succ]
      refine wpAnyH_take (i := 3) (v := ?_) rfl (by kernel_rfl) (by kernel_rfl) (by kernel_rfl) (fun _ _ _ h => h) (Or.inl ⟨by rfl, ?_⟩) (by assumption) ?_
      rotate_left
      · intro w hSw; (try dsimp only at hSw); go_simp; (try with_reducible rfl)
      try simp only [Act.put, List.setIfInBounds_toArray, List.set_cons_zero, List.set_cons_succ]
      refine wpAnyH_take (i := 5) (v := ?_) rfl (by kernel_rfl) (by kernel_rfl) (by kernel_rfl) (fun _ _ _ h => h) (Or.inl ⟨by rfl, ?_⟩) (by assumption) ?_
      rotate_left
      · intro w hSw; (try dsimp only at hSw); go_simp; (try with_reducible rfl)
      try simp only [Act.put, List.setIfInBounds_toArray, List.set_cons_zero, List.set_cons_succ]
      refine wpAnyH_ready (rs := [4, 6]) (by kernel_rfl) (by simp) ?_
      refine AllReadyH.cons rfl (fun K hK => ?_) ?_
      · skip
        go_simp
        refine hK.out _ _ ?_ (fun hHeld => ?_)
        · (try dsimp only); exact HF.out _ HQ.out
        clear hK K
        try simp only [Act.put, List.setIfInBounds_toArray, List.set_cons_zero, List.set_cons_succ]
        refine wpAnyH_ready (rs := [6]) (by kernel_rfl) (by simp) ?_
        refine AllReadyH.cons rfl (fun K hK => ?_) ?_
        · skip
          go_simp
          refine (HOw.out _ HQ.out.x).mono ?_
          rintro e w3 ⟨⟨⟨x1, y1, z1⟩, ⟨x2, y2, z2⟩, nt3⟩, rfl, hN3, hx3⟩
          have HN := Lib.hid hN3
          have HX3 := Lib.hid hx3
          have HQ3 := HQ.out.ext hx3
          have r3 : w3.cell? ⟨w.heap.size, 0, none⟩ = some (.slice Al nl cl) := (HQ3.x.cell (p := ⟨w.heap.size, 0, none⟩) hob trivial).trans e0
          have hne3 : w.heap.size ≠ w3.heap.size := by have := HQ3.x.size; omega
          clear hN3 hx3
          dsimp only [KS.val, SliceV.val]
          (try go_wp2_with fail)
          refine hK.out _ _ ?_ (fun hHeld => ?_)
          · (try dsimp only); exact HF.out _ HQ3
          clear hK K
          try simp only [Act.put, List.setIfInBounds_toArray, List.set_cons_zero, List.set_cons_succ]
          refine wpAnyH_ready (rs := [7]) (by kernel_rfl) (by simp) ?_
          refine AllReadyH.cons rfl (fun K hK => ?_) ?_
          · skip
            go_simp
            refine hK.out _ _ ?_ (fun hHeld => ?_)
            · (try dsimp only); exact HF.out _ (HQ3.ext ((Kp.refl _ _).alloc _))
            clear hK K
            try simp only [Act.put, List.setIfInBounds_toArray, List.set_cons_zero, List.set_cons_succ]
            refine wpAnyH_ready (rs := [8]) (by kernel_rfl) (by simp) ?_
            refine AllReadyH.cons rfl (fun K hK => ?_) ?_
            · skip
              refine step_appendK (E := EK) (v := .slice Al nl cl) (xs := rws) (ys := [⟨⟨x1, y1, z1⟩, ⟨x2, y2, z2⟩, nt3⟩]) tiK (by rfl) (by rfl) (HO1.out.kp (HQ3.x.alloc _) fun _ _ => trivial) (Own.made (E := EK) w3 42 [⟨⟨x1, y1, z1⟩, ⟨x2, y2, z2⟩, nt3⟩] (by simp [maxLen])).rd (by rfl) (by rfl) (by have h1 := HLN.out; simp; omega) (by have h1 := HLN.out; unfold maxLen; simp; omega) ?_
              intro v4 w4 hO4 hk4 hb4
              obtain ⟨A4, n4, c4, rfl⟩ := hO4.slice
              have hlr : (Value.slice Al nl cl).ownBlock ≠ some w.heap.size := fun e => (HG.out _ e).2 rfl
              have hl1 : ∀ g, (Value.slice Al nl cl).ownBlock = some g → g < wo.heap.size := fun g e => HO1.out.lt e
              have r4 : w4.cell? ⟨w.heap.size, 0, none⟩ = some (.slice Al nl cl) := (hk4.cell (p := ⟨w.heap.size, 0, none⟩) (by have := HQ3.x.size; simp; omega) hlr).trans ((((Kp.refl All w3).alloc _).cell (p := ⟨w.heap.size, 0, none⟩) (by have := HQ3.x.size; show w.heap.size < _; omega) trivial).trans r3)
              have hBr4 : Blk w4 w.heap.size 99 #[.slice Al nl cl, .int .i64 q] := (HB.out.ext (HQ3.x.alloc _)).kp hk4 hlr
              have fr4 := hBr4.frozen 0
              have hS4 : w4.cell? ⟨wo.heap.size, 0, none⟩ = some (.slice pa pn pc) ∧ w4.cell? ⟨wo.heap.size, 1, none⟩ = some (.slice ta tn tc) ∧ w4.cell? ⟨wo.heap.size, 2, none⟩ = some (.string nt) := by
                have hb2 := (HQ3.b2.ext ((Kp.refl All w3).alloc (.cells #[.slice x1 y1 z1, .slice x2 y2 z2, .string nt3] 42))).kp hk4 fun e => by have := hl1 _ e; omega
                exact ⟨hb2.cell 0, hb2.cell 1, hb2.cell 2⟩
              have hz4 : wo.heap.size < w4.heap.size := by have h1 := HQ3.b2.lt; have h2 := hk4.size; simp at h2; omega
              have HO4 := Lib.hid hO4
              have HK4 := Lib.hid hk4
              have HB4 := Lib.hid hb4
              clear hO4 hk4 hb4
              refine hK.out _ _ ?_ (fun hHeld => ?_)
              · (try dsimp only); exact hS4
              clear hK K
              try simp only [Act.put, List.setIfInBounds_toArray, List.set_cons_zero, List.set_cons_succ]
              refine wpAnyH_ready (rs := [9]) (by kernel_rfl) (by simp) ?_
              refine AllReadyH.cons rfl (fun K hK => ?_) ?_
              · skip
                go_simp
                refine hK.out _ _ ?_ (fun hHeld => ?_)
                · (try dsimp only); exact hS4
                clear hK K
                try simp only [Act.put, List.setIfInBounds_toArray, List.set_cons_zero, List.set_cons_succ]
                refine wpAnyH_ready (rs := [10]) (by kernel_rfl) (by simp) ?_
                refine AllReadyH.cons rfl (fun K hK => ?_) ?_
                · skip
                  go_simp
                  refine hK.out _ _ ?_ (fun hHeld => ?_)
                  · (try dsimp only); exact hS4
                  clear hK K
                  try simp only [Act.put, List.setIfInBounds_toArray, List.set_cons_zero, List.set_cons_succ]
                  refine wpAnyH_ready (rs := [11]) (by kernel_rfl) (by simp) ?_
                  refine AllReadyH.cons rfl (fun K hK => ?_) ?_
                  · skip
                    go_simp
                    refine hK.out _ _ ?_ (fun hHeld => ?_)
                    · (try dsimp only); (have hk5 : ∀ u, Kp (fun k => k ≠ w.heap.size) w4 (w4.setCell ⟨w.heap.size, 0, none⟩ u) := fun u => (Kp.refl _ w4).setCell (.inr (by simp)) _); exact ⟨((hk5 _).cell (p := ⟨wo.heap.size, 0, none⟩) hz4 (by show wo.heap.size ≠ w.heap.size; omega)).trans hS4.1, ((hk5 _).cell (p := ⟨wo.heap.size, 1, none⟩) hz4 (by show wo.heap.size ≠ w.heap.size; omega)).trans hS4.2.1, ((hk5 _).cell (p := ⟨wo.heap.size, 2, none⟩) hz4 (by show wo.heap.size ≠ w.heap.size; omega)).trans hS4.2.2⟩
                    clear hK K
                    try simp only [Act.put, List.setIfInBounds_toArray, List.set_cons_zero, List.set_cons_succ]
                    refine wpAnyH_done (by kernel_rfl) ?_ _
                    have hn4 : n4 = nl + 1 := by
                      obtain ⟨_, _, h, _⟩ := HO4.out.rd
                      injection h with _ h _
                      have h1 := HLN.out
                      rw [List.length_append, List.length_singleton] at h
                      omega
                    subst hn4
                    clear hS4 hHeld fr4
                    obtain ⟨I', D', g1, g2, g3, g4⟩ := HQ1.out.r.add (lv := .slice Al nl cl) HB.out HRp.out HD.out HG.out (HQ3.x.alloc (.cells #[.slice x1 y1 z1, .slice x2 y2 z2, .string nt3] 42)) ((HN.out.less (by have := HQ.out.x.size; omega)).ext ((Kp.refl _ _).alloc _)) HO4.out HK4.out HB4.out
                    rw [← HTk.out] at g1
                    have HEnd := Lib.hid (HQ1.out.of g1 g2 g3 g4)
                    clear g1 g2 g3 g4
                    go_wp2_with fail
                    go_roundw
                    case rel => exact ⟨nl + 1, I', D', by omega, by go_num, HEnd.out⟩
                    case measure => simp [intOf]; omega
                  exact AllReadyH.nil
                exact AllReadyH.nil
              exact AllReadyH.nil
            exact AllReadyH.nil
          exact AllReadyH.nil
        exact AllReadyH.nil
      refine AllReadyH.cons rfl (fun K hK => ?_) ?_
      · skip
        go_simp
        refine (HOw.out _ HQ.out.x).mono ?_
        rintro e w3 ⟨⟨⟨x1, y1, z1⟩, ⟨x2, y2, z2⟩, nt3⟩, rfl, hN3, hx3⟩
        have HN := Lib.hid hN3
        have HX3 := Lib.hid hx3
        have HQ3 := HQ.out.ext hx3
        have r3 : w3.cell? ⟨w.heap.size, 0, none⟩ = some (.slice Al nl cl) := (HQ3.x.cell (p := ⟨w.heap.size, 0, none⟩) hob trivial).trans e0
        have hne3 : w.heap.size ≠ w3.heap.size := by have := HQ3.x.size; omega
        clear hN3 hx3
        dsimp only [KS.val, SliceV.val]
        (try go_wp2_with fail)
        refine hK.out _ _ ?_ (fun hHeld => ?_)
        · (try dsimp only); exact HF.out _ HQ3
        clear hK K
        try simp only [Act.put, List.setIfInBounds_toArray, List.set_cons_zero, List.set_cons_succ]
        refine wpAnyH_ready (rs := [4, 7]) (by kernel_rfl) (by simp) ?_
        refine AllReadyH.cons rfl (fun K hK => ?_) ?_
        · skip
          go_simp
          refine hK.out _ _ ?_ (fun hHeld => ?_)
          · (try dsimp only); exact HF.out _ HQ3
          clear hK K
          try simp only [Act.put, List.setIfInBounds_toArray, List.set_cons_zero, List.set_cons_succ]
          refine wpAnyH_ready (rs := [7]) (by kernel_rfl) (by simp) ?_
          refine AllReadyH.cons rfl (fun K hK => ?_) ?_
          · skip
            go_simp
            refine hK.out _ _ ?_ (fun hHeld => ?_)
            · (try dsimp only); exact HF.out _ (HQ3.ext ((Kp.refl _ _).alloc _))
            clear hK K
            try simp only [Act.put, List.setIfInBounds_toArray, List.set_cons_zero, List.set_cons_succ]
            refine wpAnyH_ready (rs := [8]) (by kernel_rfl) (by simp) ?_
            refine AllReadyH.cons rfl (fun K hK => ?_) ?_
            · skip
              refine step_appendK (E := EK) (v := .slice Al nl cl) (xs := rws) (ys := [⟨⟨x1, y1, z1⟩, ⟨x2, y2, z2⟩, nt3⟩]) tiK (by rfl) (by rfl) (HO1.out.kp (HQ3.x.alloc _) fun _ _ => trivial) (Own.made (E := EK) w3 42 [⟨⟨x1, y1, z1⟩, ⟨x2, y2, z2⟩, nt3⟩] (by simp [maxLen])).rd (by rfl) (by rfl) (by have h1 := HLN.out; simp; omega) (by have h1 := HLN.out; unfold maxLen; simp; omega) ?_
              intro v4 w4 hO4 hk4 hb4
              obtain ⟨A4, n4, c4, rfl⟩ := hO4.slice
              have hlr : (Value.slice Al nl cl).ownBlock ≠ some w.heap.size := fun e => (HG.out _ e).2 rfl
              have hl1 : ∀ g, (Value.slice Al nl cl).ownBlock = some g → g < wo.heap.size := fun g e => HO1.out.lt e
              have r4 : w4.cell? ⟨w.heap.size, 0, none⟩ = some (.slice Al nl cl) := (hk4.cell (p := ⟨w.heap.size, 0, none⟩) (by have := HQ3.x.size; simp; omega) hlr).trans ((((Kp.refl All w3).alloc _).cell (p := ⟨w.heap.size, 0, none⟩) (by have := HQ3.x.size; show w.heap.size < _; omega) trivial).trans r3)
              have hBr4 : Blk w4 w.heap.size 99 #[.slice Al nl cl, .int .i64 q] := (HB.out.ext (HQ3.x.alloc _)).kp hk4 hlr
              have fr4 := hBr4.frozen 0
              have hS4 : w4.cell? ⟨wo.heap.size, 0, none⟩ = some (.slice pa pn pc) ∧ w4.cell? ⟨wo.heap.size, 1, none⟩ = some (.slice ta tn tc) ∧ w4.cell? ⟨wo.heap.size, 2, none⟩ = some (.string nt) := by
                have hb2 := (HQ3.b2.ext ((Kp.refl All w3).alloc (.cells #[.slice x1 y1 z1, .slice x2 y2 z2, .string nt3] 42))).kp hk4 fun e => by have := hl1 _ e; omega
                exact ⟨hb2.cell 0, hb2.cell 1, hb2.cell 2⟩
              have hz4 : wo.heap.size < w4.heap.size := by have h1 := HQ3.b2.lt; have h2 := hk4.size; simp at h2; omega
              have HO4 := Lib.hid hO4
              have HK4 := Lib.hid hk4
              have HB4 := Lib.hid hb4
              clear hO4 hk4 hb4
              refine hK.out _ _ ?_ (fun hHeld => ?_)
              · (try dsimp only); exact hS4
              clear hK K
              try simp only [Act.put, List.setIfInBounds_toArray, List.set_cons_zero, List.set_cons_succ]
              refine wpAnyH_ready (rs := [9]) (by kernel_rfl) (by simp) ?_
              refine AllReadyH.cons rfl (fun K hK => ?_) ?_
              · skip
                go_simp
                refine hK.out _ _ ?_ (fun hHeld => ?_)
                · (try dsimp only); exact hS4
                clear hK K
                try simp only [Act.put, List.setIfInBounds_toArray, List.set_cons_zero, List.set_cons_succ]
                refine wpAnyH_ready (rs := [10]) (by kernel_rfl) (by simp) ?_
                refine AllReadyH.cons rfl (fun K hK => ?_) ?_
                · skip
                  go_simp
                  refine hK.out _ _ ?_ (fun hHeld => ?_)
                  · (try dsimp only); exact hS4
                  clear hK K
                  try simp only [Act.put, List.setIfInBounds_toArray, List.set_cons_zero, List.set_cons_succ]
                  refine wpAnyH_ready (rs := [11]) (by kernel_rfl) (by simp) ?_
                  refine AllReadyH.cons rfl (fun K hK => ?_) ?_
                  · skip
                    go_simp
                    refine hK.out _ _ ?_ (fun hHeld => ?_)
                    · (try dsimp only); (have hk5 : ∀ u, Kp (fun k => k ≠ w.heap.size) w4 (w4.setCell ⟨w.heap.size, 0, none⟩ u) := fun u => (Kp.refl _ w4).setCell (.inr (by simp)) _); exact ⟨((hk5 _).cell (p := ⟨wo.heap.size, 0, none⟩) hz4 (by show wo.heap.size ≠ w.heap.size; omega)).trans hS4.1, ((hk5 _).cell (p := ⟨wo.heap.size, 1, none⟩) hz4 (by show wo.heap.size ≠ w.heap.size; omega)).trans hS4.2.1, ((hk5 _).cell (p := ⟨wo.heap.size, 2, none⟩) hz4 (by show wo.heap.size ≠ w.heap.size; omega)).trans hS4.2.2⟩
                    clear hK K
                    try simp only [Act.put, List.setIfInBounds_toArray, List.set_cons_zero, List.set_cons_succ]
                    refine wpAnyH_done (by kernel_rfl) ?_ _
                    have hn4 : n4 = nl + 1 := by
                      obtain ⟨_, _, h, _⟩ := HO4.out.rd
                      injection h with _ h _
                      have h1 := HLN.out
                      rw [List.length_append, List.length_singleton] at h
                      omega
                    subst hn4
                    clear hS4 hHeld fr4
                    obtain ⟨I', D', g1, g2, g3, g4⟩ := HQ1.out.r.add (lv := .slice Al nl cl) HB.out HRp.out HD.out HG.out (HQ3.x.alloc (.cells #[.slice x1 y1 z1, .slice x2 y2 z2, .string nt3] 42)) ((HN.out.less (by have := HQ.out.x.size; omega)).ext ((Kp.refl _ _).alloc _)) HO4.out HK4.out HB4.out
                    rw [← HTk.out] at g1
                    have HEnd := Lib.hid (HQ1.out.of g1 g2 g3 g4)
                    clear g1 g2 g3 g4
                    go_wp2_with fail
                    go_roundw
                    case rel => exact ⟨nl + 1, I', D', by omega, by go_num, HEnd.out⟩
                    case measure => simp [intOf]; omega
                  exact AllReadyH.nil
                exact AllReadyH.nil
              exact AllReadyH.nil
            exact AllReadyH.nil
          exact AllReadyH.nil
        refine AllReadyH.cons rfl (fun K hK => ?_) ?_
        · skip
          go_simp
          refine hK.out _ _ ?_ (fun hHeld => ?_)
          · (try dsimp only); exact HF.out _ (HQ3.ext ((Kp.refl _ _).alloc _))
          clear hK K
          try simp only [Act.put, List.setIfInBounds_toArray, List.set_cons_zero, List.set_cons_succ]
          refine wpAnyH_ready (rs := [4]) (by kernel_rfl) (by simp) ?_
          refine AllReadyH.cons rfl (fun K hK => ?_) ?_
          · skip
            have r3' : (w3.alloc (.cells #[.slice x1 y1 z1, .slice x2 y2 z2, .string nt3] 42)).cell? ⟨w.heap.size, 0, none⟩ = some (.slice Al nl cl) := (((Kp.refl All w3).alloc _).cell (p := ⟨w.heap.size, 0, none⟩) (by have := HQ3.x.size; show w.heap.size < _; omega) trivial).trans r3
            go_simp
            refine hK.out _ _ ?_ (fun hHeld => ?_)
            · (try dsimp only); exact HF.out _ (HQ3.ext ((Kp.refl _ _).alloc _))
            clear hK K
            try simp only [Act.put, List.setIfInBounds_toArray, List.set_cons_zero, List.set_cons_succ]
            refine wpAnyH_ready (rs := [8]) (by kernel_rfl) (by simp) ?_
            refine AllReadyH.cons rfl (fun K hK => ?_) ?_
            · skip
              refine step_appendK (E := EK) (v := .slice Al nl cl) (xs := rws) (ys := [⟨⟨x1, y1, z1⟩, ⟨x2, y2, z2⟩, nt3⟩]) tiK (by rfl) (by rfl) (HO1.out.kp (HQ3.x.alloc _) fun _ _ => trivial) (Own.made (E := EK) w3 42 [⟨⟨x1, y1, z1⟩, ⟨x2, y2, z2⟩, nt3⟩] (by simp [maxLen])).rd (by rfl) (by rfl) (by have h1 := HLN.out; simp; omega) (by have h1 := HLN.out; unfold maxLen; simp; omega) ?_
              intro v4 w4 hO4 hk4 hb4
              obtain ⟨A4, n4, c4, rfl⟩ := hO4.slice
              have hlr : (Value.slice Al nl cl).ownBlock ≠ some w.heap.size := fun e => (HG.out _ e).2 rfl
              have hl1 : ∀ g, (Value.slice Al nl cl).ownBlock = some g → g < wo.heap.size := fun g e => HO1.out.lt e
              have r4 : w4.cell? ⟨w.heap.size, 0, none⟩ = some (.slice Al nl cl) := (hk4.cell (p := ⟨w.heap.size, 0, none⟩) (by have := HQ3.x.size; simp; omega) hlr).trans ((((Kp.refl All w3).alloc _).cell (p := ⟨w.heap.size, 0, none⟩) (by have := HQ3.x.size; show w.heap.size < _; omega) trivial).trans r3)
              have hBr4 : Blk w4 w.heap.size 99 #[.slice Al nl cl, .int .i64 q] := (HB.out.ext (HQ3.x.alloc _)).kp hk4 hlr
              have fr4 := hBr4.frozen 0
              have hS4 : w4.cell? ⟨wo.heap.size, 0, none⟩ = some (.slice pa pn pc) ∧ w4.cell? ⟨wo.heap.size, 1, none⟩ = some (.slice ta tn tc) ∧ w4.cell? ⟨wo.heap.size, 2, none⟩ = some (.string nt) := by
                have hb2 := (HQ3.b2.ext ((Kp.refl All w3).alloc (.cells #[.slice x1 y1 z1, .slice x2 y2 z2, .string nt3] 42))).kp hk4 fun e => by have := hl1 _ e; omega
                exact ⟨hb2.cell 0, hb2.cell 1, hb2.cell 2⟩
              have hz4 : wo.heap.size < w4.heap.size := by have h1 := HQ3.b2.lt; have h2 := hk4.size; simp at h2; omega
              have HO4 := Lib.hid hO4
              have HK4 := Lib.hid hk4
              have HB4 := Lib.hid hb4
              clear hO4 hk4 hb4
              refine hK.out _ _ ?_ (fun hHeld => ?_)
              · (try dsimp only); exact hS4
              clear hK K
              try simp only [Act.put, List.setIfInBounds_toArray, List.set_cons_zero, List.set_cons_succ]
              refine wpAnyH_ready (rs := [9]) (by kernel_rfl) (by simp) ?_
              refine AllReadyH.cons rfl (fun K hK => ?_) ?_
              · skip
                go_simp
                refine hK.out _ _ ?_ (fun hHeld => ?_)
                · (try dsimp only); exact hS4
                clear hK K
                try simp only [Act.put, List.setIfInBounds_toArray, List.set_cons_zero, List.set_cons_succ]
                refine wpAnyH_ready (rs := [10]) (by kernel_rfl) (by simp) ?_
                refine AllReadyH.cons rfl (fun K hK => ?_) ?_
                · skip
                  go_simp
                  refine hK.out _ _ ?_ (fun hHeld => ?_)
                  · (try dsimp only); exact hS4
                  clear hK K
                  try simp only [Act.put, List.setIfInBounds_toArray, List.set_cons_zero, List.set_cons_succ]
                  refine wpAnyH_ready (rs := [11]) (by kernel_rfl) (by simp) ?_
                  refine AllReadyH.cons rfl (fun K hK => ?_) ?_
                  · skip
                    go_simp
                    refine hK.out _ _ ?_ (fun hHeld => ?_)
                    · (try dsimp only); (have hk5 : ∀ u, Kp (fun k => k ≠ w.heap.size) w4 (w4.setCell ⟨w.heap.size, 0, none⟩ u) := fun u => (Kp.refl _ w4).setCell (.inr (by simp)) _); exact ⟨((hk5 _).cell (p := ⟨wo.heap.size, 0, none⟩) hz4 (by show wo.heap.size ≠ w.heap.size; omega)).trans hS4.1, ((hk5 _).cell (p := ⟨wo.heap.size, 1, none⟩) hz4 (by show wo.heap.size ≠ w.heap.size; omega)).trans hS4.2.1, ((hk5 _).cell (p := ⟨wo.heap.size, 2, none⟩) hz4 (by show wo.heap.size ≠ w.heap.size; omega)).trans hS4.2.2⟩
                    clear hK K
                    try simp only [Act.put, List.setIfInBounds_toArray, List.set_cons_zero, List.set_cons_succ]
                    refine wpAnyH_done (by kernel_rfl) ?_ _
                    have hn4 : n4 = nl + 1 := by
                      obtain ⟨_, _, h, _⟩ := HO4.out.rd
                      injection h with _ h _
                      have h1 := HLN.out
                      rw [List.length_append, List.length_singleton] at h
                      omega
                    subst hn4
                    clear hS4 hHeld fr4
                    obtain ⟨I', D', g1, g2, g3, g4⟩ := HQ1.out.r.add (lv := .slice Al nl cl) HB.out HRp.out HD.out HG.out (HQ3.x.alloc (.cells #[.slice x1 y1 z1, .slice x2 y2 z2, .string nt3] 42)) ((HN.out.less (by have := HQ.out.x.size; omega)).ext ((Kp.refl _ _).alloc _)) HO4.out HK4.out HB4.out
                    rw [← HTk.out] at g1
                    have HEnd := Lib.hid (HQ1.out.of g1 g2 g3 g4)
                    clear g1 g2 g3 g4
                    go_wp2_with fail
                    go_roundw
                    case rel => exact ⟨nl + 1, I', D', by omega, by go_num, HEnd.out⟩
                    case measure => simp [intOf]; omega
                  exact AllReadyH.nil
                exact AllReadyH.nil
              exact AllReadyH.nil
            exact AllReadyH.nil
          exact AllReadyH.nil
        exact AllReadyH.nil
      exact AllReadyH.nil
    · have hkn : k = n := by omega
      subst hkn
      have hd : decide ((k : Int) < (k : Int)) = false := decide_eq_false (by omega)
      have hL0 : cs.take k = cs := List.take_of_length_le (by have := HX.out; omega)
      rw [hL0] at hQ1
      clear HS
      go_wp2_with fail
      go_ret
      exact ⟨I1, D1, rfl, hQ1⟩
end

end Go.Proofs.YtgjbfkaepalkiaaGreatDoor

namespace Go.Proofs.YtgjbfkaepalkiaaGreatDoor
open Go.RowKit
set_option linter.unusedVariables false
set_option linter.unusedSimpArgs false
attribute [local go_sem] Oper.semAt_some

/-- A car's value's parts. -/
structure CS where
  ent : Int
  com : Int
  m : KS
  code : Int
def CS.val (s : CS) : Value := .agg #[.int .i64 s.ent, .int .i64 s.com, s.m.p.val, s.m.t.val, .string s.m.note, .int .i64 s.code]
section
variable {I D : Fp} {rb : Nat} {cs : List Cm} {room : Nat} {w : World}
/-- The result's cells are written. -/
theorem car_end {w wz : World} {b N : Nat} {o0 o1 o2 o3 o4 o5 v0 v1 v2 v3 v4 v5 : Value} {s : KS} {c : Cm} (hb : w.heap.size ≤ b) (hB : Blk wz b 77 #[o0, o1, o2, o3, o4, o5]) (hX : Ext w wz) (hR : RdC (fun k => b < k ∧ k < N) wz s c) (hN : N ≤ wz.heap.size) :
    Blk ((((((wz.setCell ⟨b, 0, none⟩ v0).setCell ⟨b, 1, none⟩ v1).setCell ⟨b, 2, none⟩ v2).setCell ⟨b, 3, none⟩ v3).setCell ⟨b, 4, none⟩ v4).setCell ⟨b, 5, none⟩ v5) b 77 #[v0, v1, v2, v3, v4, v5] ∧
    Ext w ((((((wz.setCell ⟨b, 0, none⟩ v0).setCell ⟨b, 1, none⟩ v1).setCell ⟨b, 2, none⟩ v2).setCell ⟨b, 3, none⟩ v3).setCell ⟨b, 4, none⟩ v4).setCell ⟨b, 5, none⟩ v5) ∧
    RdC (fun k => w.heap.size ≤ k ∧ k < ((((((wz.setCell ⟨b, 0, none⟩ v0).setCell ⟨b, 1, none⟩ v1).setCell ⟨b, 2, none⟩ v2).setCell ⟨b, 3, none⟩ v3).setCell ⟨b, 4, none⟩ v4).setCell ⟨b, 5, none⟩ v5).heap.size) ((((((wz.setCell ⟨b, 0, none⟩ v0).setCell ⟨b, 1, none⟩ v1).setCell ⟨b, 2, none⟩ v2).setCell ⟨b, 3, none⟩ v3).setCell ⟨b, 4, none⟩ v4).setCell ⟨b, 5, none⟩ v5) s c := by
  have hk : Kp (fun k => k ≠ b) wz ((((((wz.setCell ⟨b, 0, none⟩ v0).setCell ⟨b, 1, none⟩ v1).setCell ⟨b, 2, none⟩ v2).setCell ⟨b, 3, none⟩ v3).setCell ⟨b, 4, none⟩ v4).setCell ⟨b, 5, none⟩ v5) := ((((((Kp.refl _ wz).setCell (.inr (by simp)) _).setCell (.inr (by simp)) _).setCell (.inr (by simp)) _).setCell (.inr (by simp)) _).setCell (.inr (by simp)) _).setCell (.inr (by simp)) _
  refine ⟨((((((hB.set_ 0 v0).set_ 1 v1).set_ 2 v2).set_ 3 v3).set_ 4 v4).set_ 5 v5), hX.trans' hk fun k h _ => by omega, ?_⟩
  have hz := hk.size
  exact (hR.kp (hk.mono fun k _ h => by omega)).wide fun k h => ⟨by omega, by omega⟩

/-- What lies in the blocks of a call of car. -/
structure CarQ (W : World) (b b3 : Nat) (num com lane code : Int) (p t n : Value) : Prop where
  e : Blk W b 79 #[.int .i64 num, .int .i64 com, .int .i64 lane, .int .i64 code]
  r : Blk W (b + 1) 77 #[.int .i64 0, .int .i64 0, .slice none 0 0, .slice none 0 0, .string ⟨#[]⟩, .int .i64 0]
  c : Blk W (b + 1 + 1) 77 #[.int .i64 num, .int .i64 com, .slice none 0 0, .slice none 0 0, .string ⟨#[]⟩, .int .i64 3]
  m : Blk W b3 42 #[p, t, n]
theorem CarQ.facts {W : World} {b b3 : Nat} {num com lane code : Int} {p t n : Value} (h : CarQ W b b3 num com lane code p t n) :
    W.cell? ⟨b, 1, none⟩ = some (.int .i64 com) ∧ W.cell? ⟨b + 1 + 1, 0, none⟩ = some (.int .i64 num) ∧ W.cell? ⟨b + 1 + 1, 1, none⟩ = some (.int .i64 com) ∧ W.cell? ⟨b + 1 + 1, 2, none⟩ = some (.slice none 0 0) ∧ W.cell? ⟨b + 1 + 1, 3, none⟩ = some (.slice none 0 0) ∧ W.cell? ⟨b + 1 + 1, 4, none⟩ = some (.string ⟨#[]⟩) ∧ W.cell? ⟨b + 1 + 1, 5, none⟩ = some (.int .i64 3) ∧
    W.frozen? ⟨b + 1, 0, none⟩ = false ∧ W.frozen? ⟨b + 1, 1, none⟩ = false ∧ W.frozen? ⟨b + 1, 2, none⟩ = false ∧ W.frozen? ⟨b + 1, 3, none⟩ = false ∧ W.frozen? ⟨b + 1, 4, none⟩ = false ∧ W.frozen? ⟨b + 1, 5, none⟩ = false ∧
    W.cell? ⟨b + 1, 0, none⟩ = some (.int .i64 0) ∧ W.cell? ⟨b + 1, 1, none⟩ = some (.int .i64 0) ∧ W.cell? ⟨b + 1, 2, none⟩ = some (.slice none 0 0) ∧ W.cell? ⟨b + 1, 3, none⟩ = some (.slice none 0 0) ∧ W.cell? ⟨b + 1, 4, none⟩ = some (.string ⟨#[]⟩) ∧ W.cell? ⟨b + 1, 5, none⟩ = some (.int .i64 0) ∧
    W.frozen? ⟨b + 1 + 1, 2, none⟩ = false ∧ W.frozen? ⟨b + 1 + 1, 3, none⟩ = false ∧ W.frozen? ⟨b + 1 + 1, 4, none⟩ = false ∧ W.frozen? ⟨b + 1 + 1, 5, none⟩ = false ∧
    W.cell? ⟨b3, 0, none⟩ = some p ∧ W.cell? ⟨b3, 1, none⟩ = some t ∧ W.cell? ⟨b3, 2, none⟩ = some n :=
  ⟨h.e.cell 1, h.c.cell 0, h.c.cell 1, h.c.cell 2, h.c.cell 3, h.c.cell 4, h.c.cell 5, h.r.frozen 0, h.r.frozen 1, h.r.frozen 2, h.r.frozen 3, h.r.frozen 4, h.r.frozen 5, h.r.cell 0, h.r.cell 1, h.r.cell 2, h.r.cell 3, h.r.cell 4, h.r.cell 5, h.c.frozen 2, h.c.frozen 3, h.c.frozen 4, h.c.frozen 5, h.m.cell 0, h.m.cell 1, h.m.cell 2⟩

set_option maxHeartbeats 2000000 in
theorem car_calls (h : RepoX repoT I D w rb cs room) (hG : GoodR cs) (hn : cs.length ≤ 300) (tip : Int) (x : Ent) (rm : Bool) : Calls Tryz.prog 79 #[.pointer (some ⟨rb, 0, none⟩), .int .i64 tip, .agg #[.int .i64 x.num, .int .i64 x.com, .int .i64 x.lane, .int .i64 x.code], .bool rm] w fun e w' =>
    ∃ s : KS, e = .returned (CS.val ⟨x.num, x.com, s, (carF cs tip x rm).code⟩) ∧ RdC (fun k => w.heap.size ≤ k ∧ k < w'.heap.size) w' s (carF cs tip x rm).merge ∧ Ext w w' := by
  have HM := Lib.hid fun W (hW : Ext w W) => mergeOf_calls (h.ext hW) hG hn tip x.com
  have HI := Lib.hid fun W (hW : Ext w W) => isR_calls (h.ext hW) hG hn x.com tip
  have HFd := Lib.hid fun W (hW : Ext w W) (s : KS) (c : Cm) (T : Fp) (hR : RdC T W s c) => findR_calls (h.ext hW) s c T hR
  have hcar : carF cs tip x rm = if (ofF cs tip x.com).2.2 = false ∨ (aheadF cs tip).contains x.com = true then ⟨x.num, x.com, noC, 3⟩
    else if (ofF cs tip x.com).2.1 ≠ [] then ⟨x.num, x.com, noC, 9⟩
    else if rm = false ∧ findC cs (ofF cs tip x.com).1 = 0 then ⟨x.num, x.com, noC, 4⟩
    else ⟨x.num, x.com, (ofF cs tip x.com).1, 7⟩ := rfl
  generalize carF cs tip x rm = cr at hcar ⊢
  generalize (aheadF cs tip).contains x.com = ah at hcar HI
  obtain ⟨⟨mc, bad, ok⟩, hof⟩ : ∃ r, ofF cs tip x.com = r := ⟨_, rfl⟩
  rw [hof] at HM hcar
  obtain ⟨num, com, lane, code⟩ := x
  have HCar := Lib.hid hcar
  clear h hG hof hcar
  dsimp only at HM HI HCar ⊢
  go_enter Tryz.func79, Tryz.ntmps79
  go_wp2_with fail
  obtain ⟨w2, hw2⟩ : ∃ w2, ((w.alloc (.cells #[.int .i64 num, .int .i64 com, .int .i64 lane, .int .i64 code] 79)).alloc (.cells #[.int .i64 0, .int .i64 0, .slice none 0 0, .slice none 0 0, .string ⟨#[]⟩, .int .i64 0] 77)).alloc (.cells #[.int .i64 num, .int .i64 com, .slice none 0 0, .slice none 0 0, .string ⟨#[]⟩, .int .i64 3] 77) = w2 := ⟨_, rfl⟩
  have hx2 : Ext w w2 := by rw [← hw2]; exact (((Kp.refl _ _).alloc _).alloc _).alloc _
  have hz2 : w2.heap.size = w.heap.size + 3 := by rw [← hw2]; simp
  have hBe : Blk w2 w.heap.size 79 #[.int .i64 num, .int .i64 com, .int .i64 lane, .int .i64 code] := by
    rw [← hw2]; exact (Blk.new w _ _).ext (((Kp.refl _ _).alloc _).alloc _)
  have hBr : Blk w2 (w.heap.size + 1) 77 #[.int .i64 0, .int .i64 0, .slice none 0 0, .slice none 0 0, .string ⟨#[]⟩, .int .i64 0] := by
    rw [← hw2]
    have := Blk.new (w.alloc (.cells #[.int .i64 num, .int .i64 com, .int .i64 lane, .int .i64 code] 79)) 77 #[.int .i64 0, .int .i64 0, .slice none 0 0, .slice none 0 0, .string ⟨#[]⟩, .int .i64 0]
    rw [World.size_alloc] at this
    exact this.ext ((Kp.refl _ _).alloc _)
  have hBc : Blk w2 (w.heap.size + 1 + 1) 77 #[.int .i64 num, .int .i64 com, .slice none 0 0, .slice none 0 0, .string ⟨#[]⟩, .int .i64 3] := by
    rw [← hw2]
    have := Blk.new ((w.alloc (.cells #[.int .i64 num, .int .i64 com, .int .i64 lane, .int .i64 code] 79)).alloc (.cells #[.int .i64 0, .int .i64 0, .slice none 0 0, .slice none 0 0, .string ⟨#[]⟩, .int .i64 0] 77)) 77 #[.int .i64 num, .int .i64 com, .slice none 0 0, .slice none 0 0, .string ⟨#[]⟩, .int .i64 3]
    rw [World.size_alloc, World.size_alloc] at this
    exact this
  rw [hw2]
  clear hw2
  refine (HM.out w2 hx2).mono ?_
  rintro e w3 ⟨s, u, rfl, hV, hU, hx3⟩
  obtain ⟨⟨pa, pn, pc⟩, ⟨ta, tn, tc⟩, nt⟩ := s
  obtain ⟨Au, nu, cu, hu⟩ := hU.1.slice
  subst hu
  have hnu : nu = bad.length := by obtain ⟨_, _, hh, _⟩ := hU.1.rd; injection hh
  subst hnu
  have hbx : Ext w3 (w3.alloc (.cells #[.slice pa pn pc, .slice ta tn tc, .string nt] 42)) := (Kp.refl _ _).alloc _
  have hB4 := Blk.new w3 42 #[.slice pa pn pc, .slice ta tn tc, .string nt]
  have HV4 := Lib.hid (hV.rd.ext hbx)
  have hx4 := hx3.trans hbx
  have hz3 := hx3.size
  have hb4l : w3.heap.size < (w3.alloc (.cells #[.slice pa pn pc, .slice ta tn tc, .string nt] 42)).heap.size := by simp
  have hBe := hBe.ext hx4
  have hBr := hBr.ext hx4
  have hBc := hBc.ext hx4
  clear hV hU hbx hx3
  dsimp only [KS.val, SliceV.val]
  obtain ⟨w4, hw4⟩ : ∃ w4, (w3.alloc (.cells #[.slice pa pn pc, .slice ta tn tc, .string nt] 42)) = w4 := ⟨_, rfl⟩
  have HX4 := Lib.hid (hx2.trans hx4)
  rw [hw4] at hB4 HV4 hx4 hb4l hBe hBr hBc HX4
  have hne1 : w.heap.size + 1 + 1 ≠ w.heap.size + 1 := by omega
  have hne2 : w3.heap.size ≠ w.heap.size + 1 + 1 := by omega
  have hne3 : w3.heap.size ≠ w.heap.size + 1 := by omega
  have hb1l := hBr.lt
  have HQ := Lib.hid fun W (hW : Ext w4 W) => CarQ.mk (hBe.ext hW) (hBr.ext hW) (hBc.ext hW) (hB4.ext hW)
  have HN := Lib.hid fun wz (hz : Kp (fun k => k ≠ w.heap.size + 1 + 1) w4 wz) v0 v1 v2 v3 v4 v5 => car_end (v0 := v0) (v1 := v1) (v2 := v2) (v3 := v3) (v4 := v4) (v5 := v5) (s := ⟨⟨none, 0, 0⟩, ⟨none, 0, 0⟩, ⟨#[]⟩⟩) (c := noC) (N := 0) (Nat.le_add_right _ _) (hBr.kp hz (by omega)) (HX4.out.trans' hz fun k hk _ => by omega) ⟨Rd.nil _ _, Rd.nil _ _, rfl⟩ (Nat.zero_le _)
  have HE := Lib.hid fun wz (hz : Kp (fun k => k ≠ w.heap.size + 1 + 1) w4 wz) v0 v1 v2 v3 v4 v5 => car_end (v0 := v0) (v1 := v1) (v2 := v2) (v3 := v3) (v4 := v4) (v5 := v5) (s := ⟨⟨pa, pn, pc⟩, ⟨ta, tn, tc⟩, nt⟩) (c := mc) (N := w3.heap.size) (Nat.le_add_right _ _) (hBr.kp hz (by omega)) (HX4.out.trans' hz fun k hk _ => by omega) ((HV4.out.kp (hz.mono fun k _ (hk : w2.heap.size ≤ k ∧ k < w3.heap.size) => (by omega : k ≠ w.heap.size + 1 + 1))).wide fun k (hk : w2.heap.size ≤ k ∧ k < w3.heap.size) => ⟨by omega, by omega⟩) (by have := hz.size; omega)
  have HV5 := Lib.hid fun W (hW : Ext w4 W) => HV4.out.ext hW
  have HSM := Lib.hid fun W (hW : Kp (fun k => k ≠ w.heap.size + 1 + 1) w4 W) => (And.intro ((hB4.kp hW hne2).cell 0) (And.intro ((hB4.kp hW hne2).cell 1) ((hB4.kp hW hne2).cell 2)) : W.cell? ⟨w3.heap.size, 0, none⟩ = some (.slice pa pn pc) ∧ W.cell? ⟨w3.heap.size, 1, none⟩ = some (.slice ta tn tc) ∧ W.cell? ⟨w3.heap.size, 2, none⟩ = some (.string nt))
  clear hBr hBc hBe hB4 HV4 hx4
  obtain ⟨e1, c0, c1, c2, c3, c4, c5, f0, f1, f2, f3, f4, f5, r0, r1, r2, r3, r4, r5, k2, k3, k4, k5, m0, m1, m2⟩ := (HQ.out w4 (Kp.refl _ _)).facts
  cases ok with
  | false =>
    have hcar : cr = ⟨num, com, noC, 3⟩ := by rw [HCar.out, if_pos (.inl rfl)]
    subst hcar
    go_wp2_with (rw [hw4])
    obtain ⟨g1, g2, g3⟩ := HN.out w4 (Kp.refl _ _) (.int .i64 num) (.int .i64 com) (.slice none 0 0) (.slice none 0 0) (.string ⟨#[]⟩) (.int .i64 3)
    exact bodyPost_ret (results_cell_row rfl _ _ (w.heap.size + 1) 77 #[.int .i64 num, .int .i64 com, .slice none 0 0, .slice none 0 0, .string ⟨#[]⟩, .int .i64 3] (0, 0) _ (by rfl) g1 Tryz.underlying77 (by rfl) (by kernel_rfl)) rfl ⟨_, rfl, g3, g2⟩
  | true =>
    clear r0 r1 r2 r3 r4 r5 c0 c1 c2 c3 c4 c5 f0 f1 f2 f3 f4 f5 k2 k3 k4 k5 m0 m1 m2
    go_wp2_with (rw [hw4])
    refine (HI.out w4 HX4.out).mono ?_
    rintro e w5 ⟨rfl, hx5⟩
    clear e1
    obtain ⟨e1, c0, c1, c2, c3, c4, c5, f0, f1, f2, f3, f4, f5, r0, r1, r2, r3, r4, r5, k2, k3, k4, k5, m0, m1, m2⟩ := (HQ.out w5 hx5).facts
    have HX5 := Lib.hid hx5
    clear hx5 HI hw4
    cases ah with
    | true =>
      have hcar : cr = ⟨num, com, noC, 3⟩ := by rw [HCar.out, if_pos (.inr rfl)]
      subst hcar
      go_wp2_with fail
      obtain ⟨g1, g2, g3⟩ := HN.out w5 (Kp.of_ext HX5.out) (.int .i64 num) (.int .i64 com) (.slice none 0 0) (.slice none 0 0) (.string ⟨#[]⟩) (.int .i64 3)
      exact bodyPost_ret (results_cell_row rfl _ _ (w.heap.size + 1) 77 #[.int .i64 num, .int .i64 com, .slice none 0 0, .slice none 0 0, .string ⟨#[]⟩, .int .i64 3] (0, 0) _ (by rfl) g1 Tryz.underlying77 (by rfl) (by kernel_rfl)) rfl ⟨_, rfl, g3, g2⟩
    | false =>
      cases bad with
      | cons y ys =>
        have hcar : cr = ⟨num, com, noC, 9⟩ := by rw [HCar.out, if_neg (by simp), if_pos (by simp)]
        subst hcar
        have hd0 : decide ((0 : Int) < ((y :: ys).length : Int)) = true := decide_eq_true (by rw [List.length_cons]; omega)
        have hd1 : decide ((0 : Int) < (ys.length : Int) + 1) = true := decide_eq_true (by omega)
        go_wp2_with fail
        have hk9 : Kp (fun k => k ≠ w.heap.size + 1 + 1) w4 (w5.setCell ⟨w.heap.size + 1 + 1, 5, none⟩ (.int .i64 9)) := (Kp.of_ext HX5.out).setCell (.inr (by simp)) _
        obtain ⟨g1, g2, g3⟩ := HN.out _ hk9 (.int .i64 num) (.int .i64 com) (.slice none 0 0) (.slice none 0 0) (.string ⟨#[]⟩) (.int .i64 9)
        exact bodyPost_ret (results_cell_row rfl _ _ (w.heap.size + 1) 77 #[.int .i64 num, .int .i64 com, .slice none 0 0, .slice none 0 0, .string ⟨#[]⟩, .int .i64 9] (0, 0) _ (by rfl) g1 Tryz.underlying77 (by rfl) (by kernel_rfl)) rfl ⟨_, rfl, g3, g2⟩
      | nil =>
        cases rm with
        | true =>
          have hcar : cr = ⟨num, com, mc, 7⟩ := by rw [HCar.out, if_neg (by simp), if_neg (by simp), if_neg (by simp)]
          subst hcar
          go_wp2_with fail
          go_region_held3 (fun W => W.cell? ⟨w3.heap.size, 0, none⟩ = some (.slice pa pn pc) ∧ W.cell? ⟨w3.heap.size, 1, none⟩ = some (.slice ta tn tc) ∧ W.cell? ⟨w3.heap.size, 2, none⟩ = some (.string nt)) ((refine HSM.out _ ?_; repeat (first | exact Kp.of_ext HX5.out | refine Kp.drew ?_ | refine Kp.setCell ?_ (.inr (by simp)) _))) (fail)
          obtain ⟨w7, hw7⟩ : ∃ w7, ((((w5.setCell ⟨w.heap.size + 1 + 1, 5, none⟩ (.int .i64 7)).setCell ⟨w.heap.size + 1 + 1, 2, none⟩ (.slice pa pn pc)).setCell ⟨w.heap.size + 1 + 1, 3, none⟩ (.slice ta tn tc)).setCell ⟨w.heap.size + 1 + 1, 4, none⟩ (.string nt)).drew = w7 := ⟨_, rfl⟩
          rw [hw7]
          have hk7 : Kp (fun k => k ≠ w.heap.size + 1 + 1) w4 w7 := by rw [← hw7]; exact (((((Kp.of_ext HX5.out).setCell (.inr (by simp)) _).setCell (.inr (by simp)) _).setCell (.inr (by simp)) _).setCell (.inr (by simp)) _).drew
          have hB7 : Blk w7 (w.heap.size + 1 + 1) 77 #[.int .i64 num, .int .i64 com, .slice pa pn pc, .slice ta tn tc, .string nt, .int .i64 7] := by rw [← hw7]; exact (((((HQ.out w5 HX5.out).c.set_ 5 _).set_ 2 _).set_ 3 _).set_ 4 _).ext (Kp.refl _ _).drew
          have hBr7 := (HQ.out w4 (Kp.refl _ _)).r.kp hk7 (by omega)
          clear hw7 e1 c0 c1 c2 c3 c4 c5 f0 f1 f2 f3 f4 f5 r0 r1 r2 r3 r4 r5 k2 k3 k4 k5 m0 m1 m2
          have c0 : w7.cell? ⟨w.heap.size + 1 + 1, 0, none⟩ = some (.int .i64 num) := hB7.cell 0
          have c1 : w7.cell? ⟨w.heap.size + 1 + 1, 1, none⟩ = some (.int .i64 com) := hB7.cell 1
          have c2 : w7.cell? ⟨w.heap.size + 1 + 1, 2, none⟩ = some (.slice pa pn pc) := hB7.cell 2
          have c3 : w7.cell? ⟨w.heap.size + 1 + 1, 3, none⟩ = some (.slice ta tn tc) := hB7.cell 3
          have c4 : w7.cell? ⟨w.heap.size + 1 + 1, 4, none⟩ = some (.string nt) := hB7.cell 4
          have c5 : w7.cell? ⟨w.heap.size + 1 + 1, 5, none⟩ = some (.int .i64 7) := hB7.cell 5
          have f0 := hBr7.frozen 0
          have f1 := hBr7.frozen 1
          have f2 := hBr7.frozen 2
          have f3 := hBr7.frozen 3
          have f4 := hBr7.frozen 4
          have f5 := hBr7.frozen 5
          have r0 : w7.cell? ⟨w.heap.size + 1, 0, none⟩ = some (.int .i64 0) := hBr7.cell 0
          have r1 : w7.cell? ⟨w.heap.size + 1, 1, none⟩ = some (.int .i64 0) := hBr7.cell 1
          have r2 : w7.cell? ⟨w.heap.size + 1, 2, none⟩ = some (.slice none 0 0) := hBr7.cell 2
          have r3 : w7.cell? ⟨w.heap.size + 1, 3, none⟩ = some (.slice none 0 0) := hBr7.cell 3
          have r4 : w7.cell? ⟨w.heap.size + 1, 4, none⟩ = some (.string ⟨#[]⟩) := hBr7.cell 4
          have r5 : w7.cell? ⟨w.heap.size + 1, 5, none⟩ = some (.int .i64 0) := hBr7.cell 5
          have HG := Lib.hid (HE.out w7 hk7 (.int .i64 num) (.int .i64 com) (.slice pa pn pc) (.slice ta tn tc) (.string nt) (.int .i64 7))
          clear hB7 hBr7 hk7
          go_wp2_with fail
          obtain ⟨g1, g2, g3⟩ := HG.out
          refine bodyPost_ret (results_cell_row rfl _ _ (w.heap.size + 1) 77 #[.int .i64 num, .int .i64 com, .slice pa pn pc, .slice ta tn tc, .string nt, .int .i64 7] (0, 0) _ (by rfl) g1 Tryz.underlying77 (by rfl) (by kernel_rfl)) rfl ?_
          exact ⟨_, rfl, g3, g2⟩
        | false =>
          have hF := HFd.out w5 (HX4.out.trans HX5.out) ⟨⟨pa, pn, pc⟩, ⟨ta, tn, tc⟩, nt⟩ mc _ (HV5.out w5 HX5.out)
          dsimp only [KS.val, SliceV.val] at hF
          obtain ⟨f, hf⟩ : ∃ f, findC cs mc = f := ⟨_, rfl⟩
          rw [hf] at hF HCar
          have HF := Lib.hid hF
          clear hF hf HFd
          go_wp2_with fail
          refine HF.out.mono ?_
          rintro e w6 ⟨rfl, hx6⟩
          clear e1 c0 c1 c2 c3 c4 c5 f0 f1 f2 f3 f4 f5 r0 r1 r2 r3 r4 r5 k2 k3 k4 k5 m0 m1 m2
          obtain ⟨e1, c0, c1, c2, c3, c4, c5, f0, f1, f2, f3, f4, f5, r0, r1, r2, r3, r4, r5, k2, k3, k4, k5, m0, m1, m2⟩ := (HQ.out w6 (HX5.out.trans hx6)).facts
          have HX6 := Lib.hid (HX5.out.trans hx6)
          clear hx6 HF
          by_cases h0 : f = 0
          · subst h0
            have hcar : cr = ⟨num, com, noC, 4⟩ := by rw [HCar.out, if_neg (by simp), if_neg (by simp), if_pos (by simp)]
            subst hcar
            go_wp2_with fail
            have hk9 : Kp (fun k => k ≠ w.heap.size + 1 + 1) w4 (w6.setCell ⟨w.heap.size + 1 + 1, 5, none⟩ (.int .i64 4)) := (Kp.of_ext HX6.out).setCell (.inr (by simp)) _
            obtain ⟨g1, g2, g3⟩ := HN.out _ hk9 (.int .i64 num) (.int .i64 com) (.slice none 0 0) (.slice none 0 0) (.string ⟨#[]⟩) (.int .i64 4)
            exact bodyPost_ret (results_cell_row rfl _ _ (w.heap.size + 1) 77 #[.int .i64 num, .int .i64 com, .slice none 0 0, .slice none 0 0, .string ⟨#[]⟩, .int .i64 4] (0, 0) _ (by rfl) g1 Tryz.underlying77 (by rfl) (by kernel_rfl)) rfl ⟨_, rfl, g3, g2⟩
          · have hcar : cr = ⟨num, com, mc, 7⟩ := by rw [HCar.out, if_neg (by simp), if_neg (by simp), if_neg (fun h => h0 h.2)]
            subst hcar
            have hd0 : ((f : Int) == 0) = false := by rw [beq_eq_false_iff_ne]; omega
            go_wp2_with fail
            go_region_held3 (fun W => W.cell? ⟨w3.heap.size, 0, none⟩ = some (.slice pa pn pc) ∧ W.cell? ⟨w3.heap.size, 1, none⟩ = some (.slice ta tn tc) ∧ W.cell? ⟨w3.heap.size, 2, none⟩ = some (.string nt)) ((refine HSM.out _ ?_; repeat (first | exact Kp.of_ext HX6.out | refine Kp.drew ?_ | refine Kp.setCell ?_ (.inr (by simp)) _))) (fail)
            obtain ⟨w7, hw7⟩ : ∃ w7, ((((w6.setCell ⟨w.heap.size + 1 + 1, 5, none⟩ (.int .i64 7)).setCell ⟨w.heap.size + 1 + 1, 2, none⟩ (.slice pa pn pc)).setCell ⟨w.heap.size + 1 + 1, 3, none⟩ (.slice ta tn tc)).setCell ⟨w.heap.size + 1 + 1, 4, none⟩ (.string nt)).drew = w7 := ⟨_, rfl⟩
            rw [hw7]
            have hk7 : Kp (fun k => k ≠ w.heap.size + 1 + 1) w4 w7 := by rw [← hw7]; exact (((((Kp.of_ext HX6.out).setCell (.inr (by simp)) _).setCell (.inr (by simp)) _).setCell (.inr (by simp)) _).setCell (.inr (by simp)) _).drew
            have hB7 : Blk w7 (w.heap.size + 1 + 1) 77 #[.int .i64 num, .int .i64 com, .slice pa pn pc, .slice ta tn tc, .string nt, .int .i64 7] := by rw [← hw7]; exact (((((HQ.out w6 HX6.out).c.set_ 5 _).set_ 2 _).set_ 3 _).set_ 4 _).ext (Kp.refl _ _).drew
            have hBr7 := (HQ.out w4 (Kp.refl _ _)).r.kp hk7 (by omega)
            clear hw7 e1 c0 c1 c2 c3 c4 c5 f0 f1 f2 f3 f4 f5 r0 r1 r2 r3 r4 r5 k2 k3 k4 k5 m0 m1 m2
            have c0 : w7.cell? ⟨w.heap.size + 1 + 1, 0, none⟩ = some (.int .i64 num) := hB7.cell 0
            have c1 : w7.cell? ⟨w.heap.size + 1 + 1, 1, none⟩ = some (.int .i64 com) := hB7.cell 1
            have c2 : w7.cell? ⟨w.heap.size + 1 + 1, 2, none⟩ = some (.slice pa pn pc) := hB7.cell 2
            have c3 : w7.cell? ⟨w.heap.size + 1 + 1, 3, none⟩ = some (.slice ta tn tc) := hB7.cell 3
            have c4 : w7.cell? ⟨w.heap.size + 1 + 1, 4, none⟩ = some (.string nt) := hB7.cell 4
            have c5 : w7.cell? ⟨w.heap.size + 1 + 1, 5, none⟩ = some (.int .i64 7) := hB7.cell 5
            have f0 := hBr7.frozen 0
            have f1 := hBr7.frozen 1
            have f2 := hBr7.frozen 2
            have f3 := hBr7.frozen 3
            have f4 := hBr7.frozen 4
            have f5 := hBr7.frozen 5
            have r0 : w7.cell? ⟨w.heap.size + 1, 0, none⟩ = some (.int .i64 0) := hBr7.cell 0
            have r1 : w7.cell? ⟨w.heap.size + 1, 1, none⟩ = some (.int .i64 0) := hBr7.cell 1
            have r2 : w7.cell? ⟨w.heap.size + 1, 2, none⟩ = some (.slice none 0 0) := hBr7.cell 2
            have r3 : w7.cell? ⟨w.heap.size + 1, 3, none⟩ = some (.slice none 0 0) := hBr7.cell 3
            have r4 : w7.cell? ⟨w.heap.size + 1, 4, none⟩ = some (.string ⟨#[]⟩) := hBr7.cell 4
            have r5 : w7.cell? ⟨w.heap.size + 1, 5, none⟩ = some (.int .i64 0) := hBr7.cell 5
            have HG := Lib.hid (HE.out w7 hk7 (.int .i64 num) (.int .i64 com) (.slice pa pn pc) (.slice ta tn tc) (.string nt) (.int .i64 7))
            clear hB7 hBr7 hk7
            go_wp2_with fail
            obtain ⟨g1, g2, g3⟩ := HG.out
            refine bodyPost_ret (results_cell_row rfl _ _ (w.heap.size + 1) 77 #[.int .i64 num, .int .i64 com, .slice pa pn pc, .slice ta tn tc, .string nt, .int .i64 7] (0, 0) _ (by rfl) g1 Tryz.underlying77 (by rfl) (by kernel_rfl)) rfl ?_
            exact ⟨_, rfl, g3, g2⟩
end

end Go.Proofs.YtgjbfkaepalkiaaGreatDoor

namespace Go.Proofs.YtgjbfkaepalkiaaGreatDoor
open Go.RowKit
set_option linter.unusedVariables false
set_option linter.unusedSimpArgs false
attribute [local go_sem] Oper.semAt_some

def CarPost (w : World) (num com : Int) (c : Car) (e : Ending) (w' : World) : Prop := ∃ s : KS, e = .returned (CS.val ⟨num, com, s, c.code⟩) ∧ RdC (fun k => w.heap.size ≤ k ∧ k < w'.heap.size) w' s c.merge ∧ Ext w w'

section
variable {I D : Fp} {rb : Nat} {cs : List Cm} {room : Nat} {w : World}
set_option maxHeartbeats 2000000 in
theorem head_calls (h : RepoX repoT I D w rb cs room) (hG : GoodR cs) (hn : cs.length ≤ 300) (tip : Int) (x : Ent) : Calls Tryz.prog 53 #[.pointer (some ⟨rb, 0, none⟩), .int .i64 tip, .agg #[.int .i64 x.num, .int .i64 x.com, .int .i64 x.lane, .int .i64 x.code]] w (CarPost w x.num x.com (carF cs tip x (decide (cs.length < 60)))) := by
  have HC := Lib.hid fun W (hW : Ext w W) => car_calls (h.ext hW) hG hn tip x (decide (cs.length < 60))
  have HLn := Lib.hid fun W (hW : Ext w W) => lenR_calls (h.ext hW)
  generalize carF cs tip x (decide (cs.length < 60)) = cr at HC ⊢
  obtain ⟨n, hn'⟩ : ∃ n, cs.length = n := ⟨_, rfl⟩
  rw [hn'] at HC HLn hn
  obtain ⟨num, com, lane, code⟩ := x
  clear h hG hn'
  dsimp only at HC ⊢
  obtain ⟨q, hq⟩ : ∃ q, decide (n < 60) = q := ⟨_, rfl⟩
  have hqi : decide ((n : Int) < 60) = q := by rw [← hq]; exact decide_eq_decide.2 (by omega)
  rw [hq] at HC
  clear hq
  go_enter Tryz.func53, Tryz.ntmps53
  go_wp2_with fail
  obtain ⟨w2, hw2⟩ : ∃ w2, ((w.alloc (.cells #[.int .i64 num, .int .i64 com, .int .i64 lane, .int .i64 code] 79)).alloc (.cells #[.int .i64 0, .int .i64 0, .slice none 0 0, .slice none 0 0, .string ⟨#[]⟩, .int .i64 0] 77)) = w2 := ⟨_, rfl⟩
  have hx2 : Ext w w2 := by rw [← hw2]; exact ((Kp.refl _ _).alloc _).alloc _
  have hz2 : w2.heap.size = w.heap.size + 2 := by rw [← hw2]; simp
  have hBe : Blk w2 w.heap.size 79 #[.int .i64 num, .int .i64 com, .int .i64 lane, .int .i64 code] := by
    rw [← hw2]; exact (Blk.new w _ _).ext ((Kp.refl _ _).alloc _)
  have hBr : Blk w2 (w.heap.size + 1) 77 #[.int .i64 0, .int .i64 0, .slice none 0 0, .slice none 0 0, .string ⟨#[]⟩, .int .i64 0] := by
    rw [← hw2]
    have := Blk.new (w.alloc (.cells #[.int .i64 num, .int .i64 com, .int .i64 lane, .int .i64 code] 79)) 77 #[.int .i64 0, .int .i64 0, .slice none 0 0, .slice none 0 0, .string ⟨#[]⟩, .int .i64 0]
    rw [World.size_alloc] at this
    exact this
  rw [hw2]
  clear hw2
  have HF0 := Lib.hid fun W (hW : Kp (fun k => k ≠ w.heap.size + 1) w2 W) => (And.intro ((hBe.kp hW (by omega)).cell 0) (And.intro ((hBe.kp hW (by omega)).cell 1) (And.intro ((hBe.kp hW (by omega)).cell 2) ((hBe.kp hW (by omega)).cell 3))) : W.cell? ⟨w.heap.size, 0, none⟩ = some (.int .i64 num) ∧ W.cell? ⟨w.heap.size, 1, none⟩ = some (.int .i64 com) ∧ W.cell? ⟨w.heap.size, 2, none⟩ = some (.int .i64 lane) ∧ W.cell? ⟨w.heap.size, 3, none⟩ = some (.int .i64 code))
  have HR := Lib.hid fun W (hW : Ext w2 W) => hBr.ext hW
  have HX2 := Lib.hid hx2
  clear hBe hBr hx2
  have hne : w.heap.size ≠ w.heap.size + 1 := by omega
  obtain ⟨w0, hw0⟩ : ∃ w0, w2.drew = w0 := ⟨_, rfl⟩
  have hx0 : Ext w2 w0 := by rw [← hw0]; exact (Kp.refl _ _).drew
  refine wp_region_held_drew (S := (fun W => W.cell? ⟨w.heap.size, 0, none⟩ = some (.int .i64 num) ∧ W.cell? ⟨w.heap.size, 1, none⟩ = some (.int .i64 com) ∧ W.cell? ⟨w.heap.size, 2, none⟩ = some (.int .i64 lane) ∧ W.cell? ⟨w.heap.size, 3, none⟩ = some (.int .i64 code))) (by kernel_rfl) ?_ (fun hHeld => ?_)
  · rw [hw0]; exact HF0.out _ (Kp.of_ext hx0)
  rw [hw0]
  have hHeld2 : (fun W => W.cell? ⟨w.heap.size, 0, none⟩ = some (.int .i64 num) ∧ W.cell? ⟨w.heap.size, 1, none⟩ = some (.int .i64 com) ∧ W.cell? ⟨w.heap.size, 2, none⟩ = some (.int .i64 lane) ∧ W.cell? ⟨w.heap.size, 3, none⟩ = some (.int .i64 code)) w0 := HF0.out _ (Kp.of_ext hx0)
  clear hw0 hHeld
  refine wpAnyH_take (i := 0) (v := ?_) rfl (by kernel_rfl) (by kernel_rfl) (by kernel_rfl) (fun _ _ _ h => h) (Or.inl ⟨by rfl, ?_⟩) (by assumption) ?_
  rotate_left
  · intro w hSw; (try dsimp only at hSw); go_simp; (try with_reducible rfl)
  try simp only [Act.put, List.setIfInBounds_toArray, List.set_cons_zero, List.set_cons_succ]
  refine wpAnyH_take (i := 1) (v := ?_) rfl (by kernel_rfl) (by kernel_rfl) (by kernel_rfl) (fun _ _ _ h => h) (Or.inl ⟨by rfl, ?_⟩) (by assumption) ?_
  rotate_left
  · intro w hSw; (try dsimp only at hSw); go_simp; (try with_reducible rfl)
  try simp only [Act.put, List.setIfInBounds_toArray, List.set_cons_zero, List.set_cons_succ]
  refine wpAnyH_take (i := 2) (v := ?_) rfl (by kernel_rfl) (by kernel_rfl) (by kernel_rfl) (fun _ _ _ h => h) (Or.inl ⟨by rfl, ?_⟩) (by assumption) ?_
  rotate_left
  · intro w hSw; (try dsimp only at hSw); go_simp; (try with_reducible rfl)
  try simp only [Act.put, List.setIfInBounds_toArray, List.set_cons_zero, List.set_cons_succ]
  refine wpAnyH_take (i := 3) (v := ?_) rfl (by kernel_rfl) (by kernel_rfl) (by kernel_rfl) (fun _ _ _ h => h) (Or.inl ⟨by rfl, ?_⟩) (by assumption) ?_
  rotate_left
  · intro w hSw; (try dsimp only at hSw); go_simp; (try with_reducible rfl)
  try simp only [Act.put, List.setIfInBounds_toArray, List.set_cons_zero, List.set_cons_succ]
  refine wpAnyH_ready (rs := [4]) (by kernel_rfl) (by simp) ?_
  refine AllReadyH.cons rfl (fun K hK => ?_) AllReadyH.nil
  go_simp
  refine (HLn.out _ (HX2.out.trans hx0)).mono ?_
  rintro e w' ⟨rfl, rfl⟩
  (try go_wp2_with fail)
  refine hK.out _ _ ?_ (fun hHeld => ?_)
  · (try dsimp only); exact HF0.out _ (Kp.of_ext hx0)
  clear hK K
  try simp only [Act.put, List.setIfInBounds_toArray, List.set_cons_zero, List.set_cons_succ]
  refine wpAnyH_ready (rs := [5]) (by kernel_rfl) (by simp) ?_
  refine AllReadyH.cons rfl (fun K hK => ?_) AllReadyH.nil
  go_simp
  refine hK.out _ _ ?_ (fun hHeld => ?_)
  · (try dsimp only); exact HF0.out _ (Kp.of_ext hx0)
  clear hK K
  try simp only [Act.put, List.setIfInBounds_toArray, List.set_cons_zero, List.set_cons_succ]
  refine wpAnyH_ready (rs := [6]) (by kernel_rfl) (by simp) ?_
  refine AllReadyH.cons rfl (fun K hK => ?_) AllReadyH.nil
  go_simp
  refine (HC.out _ (HX2.out.trans hx0)).mono ?_
  rintro e w5 ⟨⟨⟨pa, pn, pc⟩, ⟨ta, tn, tc⟩, nt⟩, rfl, hR5, hx5'⟩
  have hx5 : Ext w2 w5 := hx0.trans hx5'
  have hr := HR.out _ hx5
  have HE := Lib.hid (car_end (v0 := .int .i64 num) (v1 := .int .i64 com) (v2 := .slice pa pn pc) (v3 := .slice ta tn tc) (v4 := .string nt) (v5 := .int .i64 cr.code) (s := ⟨⟨pa, pn, pc⟩, ⟨ta, tn, tc⟩, nt⟩) (c := cr.merge) (N := w5.heap.size) (Nat.le_add_right _ _) hr (HX2.out.trans hx5) (hR5.wide fun k hk => ⟨by have := hx0.size; omega, hk.2⟩) (Nat.le_refl _))
  have r0 : w5.cell? ⟨w.heap.size + 1, 0, none⟩ = some (.int .i64 0) := hr.cell 0
  have f0 := hr.frozen 0
  have r1 : w5.cell? ⟨w.heap.size + 1, 1, none⟩ = some (.int .i64 0) := hr.cell 1
  have f1 := hr.frozen 1
  have r2 : w5.cell? ⟨w.heap.size + 1, 2, none⟩ = some (.slice none 0 0) := hr.cell 2
  have f2 := hr.frozen 2
  have r3 : w5.cell? ⟨w.heap.size + 1, 3, none⟩ = some (.slice none 0 0) := hr.cell 3
  have f3 := hr.frozen 3
  have r4 : w5.cell? ⟨w.heap.size + 1, 4, none⟩ = some (.string ⟨#[]⟩) := hr.cell 4
  have f4 := hr.frozen 4
  have r5 : w5.cell? ⟨w.heap.size + 1, 5, none⟩ = some (.int .i64 0) := hr.cell 5
  have f5 := hr.frozen 5
  clear hr hR5 hx5'
  dsimp only [CS.val, KS.val, SliceV.val]
  (try go_wp2_with fail)
  refine hK.out _ _ ?_ (fun hHeld => ?_)
  · (try dsimp only); exact HF0.out _ (Kp.of_ext hx5)
  clear hK K
  try simp only [Act.put, List.setIfInBounds_toArray, List.set_cons_zero, List.set_cons_succ]
  refine wpAnyH_ready (rs := [7]) (by kernel_rfl) (by simp) ?_
  refine AllReadyH.cons rfl (fun K hK => ?_) AllReadyH.nil
  go_simp
  refine hK.out _ _ ?_ (fun hHeld => ?_)
  · (try dsimp only); refine HF0.out _ ?_; exact ((((((Kp.of_ext hx5).setCell (.inr (by simp)) _).setCell (.inr (by simp)) _).setCell (.inr (by simp)) _).setCell (.inr (by simp)) _).setCell (.inr (by simp)) _).setCell (.inr (by simp)) _
  clear hK K
  try simp only [Act.put, List.setIfInBounds_toArray, List.set_cons_zero, List.set_cons_succ]
  refine wpAnyH_done (by kernel_rfl) ?_ _
  obtain ⟨g1, g2, g3⟩ := HE.out
  clear hHeld
  go_wp2_with fail
  refine bodyPost_ret (results_cell_row rfl _ _ (w.heap.size + 1) 77 #[.int .i64 num, .int .i64 com, .slice pa pn pc, .slice ta tn tc, .string nt, .int .i64 cr.code] (0, 0) _ (by rfl) g1 Tryz.underlying77 (by rfl) (by kernel_rfl)) rfl ?_
  exact ⟨⟨⟨pa, pn, pc⟩, ⟨ta, tn, tc⟩, nt⟩, rfl, g3, g2⟩
end

end Go.Proofs.YtgjbfkaepalkiaaGreatDoor

namespace Go.Proofs.YtgjbfkaepalkiaaGreatDoor
open Go.RowKit
set_option linter.unusedVariables false
set_option linter.unusedSimpArgs false

section
variable {F : Fence} {n : Nat} {P : Program} {ops : Array Oper} {Q : Exit → Act → World → Prop} {md : Region.Mode} {S : World → Prop}

/-- It is wanted, and yields v in each world that meets S, or it is not wanted; what it calls may be called. -/
structure Reads (F : Fence) (P : Program) (ops : Array Oper) (S : World → Prop) (o : Oper) (v : Value) (a : Act) : Prop where
  how : (Region.wanted o (yielded ops a.tmps) = true ∧ ∀ w, S w → (execOp a.eval o).run P w = .ok (.value v) w) ∨ (Region.wanted o (yielded ops a.tmps) = false ∧ v = undef)
  calm : ∀ w f, o.about P w a.eval = some f → F.fn f
/-- No defer statement stands among them. -/
def NoDefer (ops : Array Oper) : Prop := ∀ (j : Nat) (o : Oper), ops[j]? = some o → ∀ c, o.op ≠ .defer c
theorem noDefer_of (h : (ops.all fun o => match o.op with | .defer _ => false | _ => true) = true) : NoDefer ops := by
  intro j o hj c hc
  have := Array.all_eq_true'.1 h o (Array.mem_of_getElem? hj)
  rw [hc] at this
  cases this
theorem Reads.step {i : Nat} {o : Oper} {v : Value} {a : Act} (hnd : NoDefer ops) (hi : ops[i]? = some o) (hy : Reads F P ops S o v a) {K : Act → World → Prop} {w : World} (hS : S w) (h : K (a.put o.dst v) w) : wpOpIn F n P ops Q i K a w := by
  unfold wpOpIn
  simp only [hi]
  have hab : ∀ f, o.about P w a.eval = some f → F.fn f := hy.calm w
  rcases hy.how with ⟨hw, hv⟩ | ⟨hw, rfl⟩
  · rw [if_pos hw]
    refine ⟨hab, ?_⟩
    rw [Oper.semAt_eq _ _ _ (hnd i o hi), hv w hS]; exact h
  · rw [if_neg (by rw [hw]; simp)]
    exact ⟨hab, h⟩
theorem Reads.same {o : Oper} {v : Value} {a a' : Act} (hy : Reads F P ops S o v a) (he : execOp a'.eval o = execOp a.eval o) (hw : Region.wanted o (yielded ops a'.tmps) = Region.wanted o (yielded ops a.tmps)) (hb : ∀ w, o.about P w a'.eval = o.about P w a.eval) : Reads F P ops S o v a' :=
  ⟨hy.how.imp (fun h => ⟨hw.trans h.1, fun w hs => by rw [he]; exact h.2 w hs⟩) fun h => ⟨hw.trans h.1, h.2⟩, fun w f hf => hy.calm w f ((hb w).symm.trans hf)⟩

/-- Another operation, apart from it, does not mind whether its value is there already. -/
theorem Reads.past {j : Nat} {oi oj : Oper} {v : Value} (hnd : NoDefer ops) (hj : ops[j]? = some oj) (hap : oi.apart ops oj = true) (hsi : ∀ cs b, oi.op ≠ .select cs b) (hsj : ∀ cs b, oj.op ≠ .select cs b)
    (hQ : ∀ c a w, Q (.panic c) (a.put oi.dst v) w → Q (.panic c) a w) {K : Act → World → Prop} {a : Act} {w : World} (hy : Reads F P ops S oi v a) (h : wpOpIn F n P ops Q j K (a.put oi.dst v) w) :
    wpOpIn F n P ops Q j (fun a' w' => Reads F P ops S oi v a' ∧ K (a'.put oi.dst v) w') a w := by
  obtain ⟨h1, h2, h3⟩ := Oper.apart_spec hap
  have keep : ∀ a : Act, Reads F P ops S oi v a → ∀ u, Reads F P ops S oi v (a.put oj.dst u) := fun a hy u =>
    hy.same (execOp_put oi hsi a oj.dst u h3) (wanted_put oi a oj.dst u h3) fun w => about_put oi w a oj.dst u h3
  have both : ∀ (a : Act), Reads F P ops S oi v a → ∀ u W, K ((a.put oi.dst v).put oj.dst u) W → Reads F P ops S oi v (a.put oj.dst u) ∧ K ((a.put oj.dst u).put oi.dst v) W := fun a hy u W hk =>
    ⟨keep a hy u, by rw [← Act.put_comm a v u h2]; exact hk⟩
  unfold wpOpIn at h ⊢
  simp only [hj] at h ⊢
  rw [wanted_put oj a oi.dst v h1, about_put oj w a oi.dst v h1] at h
  by_cases hw : Region.wanted oj (yielded ops a.tmps) = true
  · rw [if_pos hw] at h ⊢
    unfold Oper.wpIn at h ⊢
    rw [about_put oj w a oi.dst v h1, Oper.semAt_eq _ _ _ (hnd j oj hj), execOp_put oj hsj a oi.dst v h1] at h
    rw [Oper.semAt_eq _ _ _ (hnd j oj hj)]
    refine ⟨h.1, ?_⟩
    have h := h.2
    cases hr : (execOp a.eval oj).run P w with
    | ok x w' =>
      rw [hr] at h
      cases x with
      | value u => exact both a hy u _ h
      | skip => exact both a hy undef _ h
      | defer d =>
        have hy' : Reads F P ops S oi v { a with defers := d :: a.defers } := hy.same rfl rfl fun _ => rfl
        refine both _ hy' undef _ ?_
        rw [← Act.put_defers]
        exact h
      | enter f args =>
        refine ⟨h.1, CallsIn.mono h.2 fun e w'' he => ?_⟩
        cases e with
        | returned u => exact both a hy u _ he
        | panicked c => exact hQ _ _ _ he
        | outgrown => exact he
      | row row args => exact ⟨h.1, RowsIn.mono h.2 fun u w'' he => both a hy u _ he⟩
      | round l f tmps assign body =>
        refine ⟨h.1, RoundIn.mono h.2 fun e w'' he => ?_⟩
        cases e with
        | returned u => exact both a hy u _ he
        | panicked c => exact hQ _ _ _ he
        | outgrown => exact he
      | _ => exact h
    | halt x w' =>
      rw [hr] at h
      cases x with
      | panic u => exact hQ _ _ _ h
      | _ => exact h
  · rw [if_neg hw] at h ⊢
    exact ⟨h.1, both a hy undef _ h.2⟩

/-- Whatever comes up, S holds behind it. -/
def wpHeldIn (F : Fence) (n : Nat) (P : Program) (md : Region.Mode) (ops : Array Oper) (Q : Exit → Act → World → Prop) (S : World → Prop) : Nat → Array Bool → Act → World → Prop
  | 0, listed, a, w => Region.ready md ops listed = [] ∧ Q .normal a w
  | fuel + 1, listed, a, w => (Region.ready md ops listed = [] → Q .normal a w) ∧ ∀ i ∈ Region.ready md ops listed, wpOpIn F n P ops Q i (fun a' w' => S w' ∧ wpHeldIn F n P md ops Q S fuel (listed.setIfInBounds i true) a' w') a w
theorem wpHeldIn.any : ∀ (fuel : Nat) (listed : Array Bool) (a : Act) (w : World), wpHeldIn F n P md ops Q S fuel listed a w → wpAnyIn F n P md ops Q fuel listed a w
  | 0, _, _, _, h => h
  | fuel + 1, _, _, _, h => ⟨h.1, fun i hi => wpOpIn_mono (fun a' w' h' => wpHeldIn.any fuel _ a' w' h'.2) (h.2 i hi)⟩
theorem heldIn_first {i : Nat} {oi : Oper} {v : Value} (hnd : NoDefer ops) (hi : ops[i]? = some oi) (hsel : ∀ (j : Nat) (o : Oper) cs b, ops[j]? = some o → o.op ≠ .select cs b) (hQ : ∀ c a w, Q (.panic c) (a.put oi.dst v) w → Q (.panic c) a w) :
    ∀ (fuel : Nat) (listed : Array Bool) (a : Act) (w : World), (∀ j oj, ops[j]? = some oj → j ≠ i → listed.getD j true = false → (∀ e ∈ oj.after, Region.binds md e = true → e.on ≠ i) → oi.apart ops oj = true) →
      i ∈ Region.ready md ops listed → Reads F P ops S oi v a → S w → wpHeldIn F n P md ops Q S fuel (listed.setIfInBounds i true) (a.put oi.dst v) w → wpHeldIn F n P md ops Q S (fuel + 1) listed a w
  | 0, listed, a, w, _, hr, hy, hS, H => by
    refine ⟨fun h => absurd (h ▸ hr) (by simp), fun j hj => ?_⟩
    by_cases hji : j = i
    · subst hji; exact hy.step hnd hi hS ⟨hS, H⟩
    · have := ready_mono hj hji
      rw [H.1] at this
      cases this
  | fuel + 1, listed, a, w, hfree, hr, hy, hS, H => by
    refine ⟨fun h => absurd (h ▸ hr) (by simp), fun j hj => ?_⟩
    by_cases hji : j = i
    · subst hji; exact hy.step hnd hi hS ⟨hS, H⟩
    · obtain ⟨hjun, oj, hoj, hall⟩ := mem_ready.1 hj
      have hi0 := (mem_ready.1 hr).1
      have hnot : ∀ e ∈ oj.after, Region.binds md e = true → e.on ≠ i := fun e he hb heq => by
        have h1 := hall e he hb
        rw [heq] at h1
        by_cases hlt : i < listed.size
        · simp [hlt] at hi0 h1; rw [hi0] at h1; cases h1
        · simp [Array.getElem?_eq_none (Nat.le_of_not_lt hlt)] at h1
      have hp := hy.past hnd hoj (hfree j oj hoj hji hjun hnot) (fun cs b => hsel i oi cs b hi) (fun cs b => hsel j oj cs b hoj) hQ (H.2 j (ready_mono hj hji))
      refine wpOpIn_mono (fun a' w' h3 => ⟨h3.2.1, ?_⟩) hp
      refine heldIn_first hnd hi hsel hQ fuel _ a' w' (fun k ok hk hki hun hno => ?_) (ready_mono hr (Ne.symm hji)) h3.1 h3.2.1 ?_
      · refine hfree k ok hk hki ?_ hno
        by_cases hjk : j = k
        · subst hjk; exact hjun
        · rwa [getD_set_ne true hjk] at hun
      · rw [Array.setIfInBounds_comm _ _ hji]
        exact h3.2.2
theorem heldIn_take {i : Nat} {oi : Oper} {v : Value} {fuel : Nat} {listed : Array Bool} {a : Act} {w : World} (hnd : NoDefer ops) (hi : ops[i]? = some oi) (hs : Region.noSelect ops = true) (hf : Region.free md ops listed i = true) (hr : (Region.ready md ops listed).contains i = true)
    (hQ : ∀ c a w, Q (.panic c) (a.put oi.dst v) w → Q (.panic c) a w) (hw : Region.wanted oi (yielded ops a.tmps) = true) (hc : ∀ w f, oi.about P w a.eval = some f → F.fn f) (hS : S w) (hy : ∀ w, S w → (execOp a.eval oi).run P w = .ok (.value v) w)
    (h : wpHeldIn F n P md ops Q S fuel (listed.setIfInBounds i true) (a.put oi.dst v) w) : wpHeldIn F n P md ops Q S (fuel + 1) listed a w :=
  heldIn_first hnd hi (Region.noSelect_spec hs) hQ fuel listed a w (Region.free_spec hi hf) (by simpa using hr) ⟨.inl ⟨hw, hy⟩, hc⟩ hS h
theorem heldIn_skip {i : Nat} {oi : Oper} {fuel : Nat} {listed : Array Bool} {a : Act} {w : World} (hnd : NoDefer ops) (hi : ops[i]? = some oi) (hs : Region.noSelect ops = true) (hf : Region.free md ops listed i = true) (hr : (Region.ready md ops listed).contains i = true)
    (hQ : ∀ c a w, Q (.panic c) (a.put oi.dst undef) w → Q (.panic c) a w) (hw : Region.wanted oi (yielded ops a.tmps) = false) (hc : ∀ w f, oi.about P w a.eval = some f → F.fn f) (hS : S w)
    (h : wpHeldIn F n P md ops Q S fuel (listed.setIfInBounds i true) (a.put oi.dst undef) w) : wpHeldIn F n P md ops Q S (fuel + 1) listed a w :=
  heldIn_first hnd hi (Region.noSelect_spec hs) hQ fuel listed a w (Region.free_spec hi hf) (by simpa using hr) ⟨.inr ⟨hw, rfl⟩, hc⟩ hS h
theorem heldIn_done {listed : Array Bool} {a : Act} {w : World} (hr : Region.ready md ops listed = []) (h : Q .normal a w) : ∀ fuel, wpHeldIn F n P md ops Q S fuel listed a w
  | 0 => ⟨hr, h⟩
  | _ + 1 => ⟨fun _ => h, by rw [hr]; simp⟩
/-- One of those that may come up. -/
theorem heldIn_one {i : Nat} {o : Oper} {fuel : Nat} {listed : Array Bool} {a : Act} {w : World} (hr : Region.ready md ops listed = [i]) (ho : ops[i]? = some o)
    (h : ∀ K' : Act → World → Prop, Hid (∀ a w, S w → wpHeldIn F n P md ops Q S fuel (listed.setIfInBounds i true) a w → K' a w) → if Region.wanted o (yielded ops a.tmps) = true then Oper.wpIn F n P o a w K' Q else (∀ f, o.about P w a.eval = some f → F.fn f) ∧ K' (a.put o.dst undef) w) :
    wpHeldIn F n P md ops Q S (fuel + 1) listed a w := by
  refine ⟨fun h0 => absurd (hr ▸ h0) (by simp), fun j hj => ?_⟩
  rw [hr, List.mem_singleton] at hj
  subst hj
  exact wpOpIn_step ho fun K' hK => h K' (Lib.hid fun a w hS hh => hK a w ⟨hS, hh⟩)
/-- One of two that may come up. -/
theorem heldIn_two {i i' : Nat} {o o' : Oper} {fuel : Nat} {listed : Array Bool} {a : Act} {w : World} (hr : Region.ready md ops listed = [i, i']) (ho : ops[i]? = some o) (ho' : ops[i']? = some o')
    (h : ∀ K' : Act → World → Prop, Hid (∀ a w, S w → wpHeldIn F n P md ops Q S fuel (listed.setIfInBounds i true) a w → K' a w) → if Region.wanted o (yielded ops a.tmps) = true then Oper.wpIn F n P o a w K' Q else (∀ f, o.about P w a.eval = some f → F.fn f) ∧ K' (a.put o.dst undef) w)
    (h' : ∀ K' : Act → World → Prop, Hid (∀ a w, S w → wpHeldIn F n P md ops Q S fuel (listed.setIfInBounds i' true) a w → K' a w) → if Region.wanted o' (yielded ops a.tmps) = true then Oper.wpIn F n P o' a w K' Q else (∀ f, o'.about P w a.eval = some f → F.fn f) ∧ K' (a.put o'.dst undef) w) :
    wpHeldIn F n P md ops Q S (fuel + 1) listed a w := by
  refine ⟨fun h0 => absurd (hr ▸ h0) (by simp), fun j hj => ?_⟩
  rw [hr] at hj
  simp only [List.mem_cons, List.not_mem_nil, or_false] at hj
  rcases hj with rfl | rfl
  · exact wpOpIn_step ho fun K' hK => h K' (Lib.hid fun a w hS hh => hK a w ⟨hS, hh⟩)
  · exact wpOpIn_step ho' fun K' hK => h' K' (Lib.hid fun a w hS hh => hK a w ⟨hS, hh⟩)
theorem wpIn_region_held {id : Nat} {a : Act} {w : World} (hm : P.follows .mixedOrders = true) (h : wpHeldIn F n P .any ops Q S ops.size (Array.replicate ops.size false) a w.drew) : (Code.region id ops true).wpIn F n P Q a w :=
  wpIn_region_any hm (wpHeldIn.any _ _ _ _ h)
end

end Go.Proofs.YtgjbfkaepalkiaaGreatDoor

namespace Go.Proofs.YtgjbfkaepalkiaaGreatDoor
open Go.RowKit
set_option linter.unusedVariables false
set_option linter.unusedSimpArgs false
attribute [local go_sem] Oper.semAt_some

def ECar : El CS := ⟨fun s => [.int .i64 s.ent, .int .i64 s.com, s.m.p.val, s.m.t.val, .string s.m.note, .int .i64 s.code], 6, fun _ => rfl, fun x u hu => by simp only [List.mem_cons, List.not_mem_nil, or_false] at hu; rcases hu with rfl | rfl | rfl | rfl | rfl | rfl <;> rfl⟩
theorem tiCar : TI ECar Tryz.prog 70 77 88 :=
  TI.mk' (z := .agg #[.int .i64 0, .int .i64 0, .slice none 0 0, .slice none 0 0, .string ⟨#[]⟩, .int .i64 0]) Tryz.underlying70 (by kernel_rfl) (by rfl) (by decide)
theorem RdA.car {S : Fp} {w : World} {A : Option Addr} {xs : List CS} (h : RdA ECar S w A xs) {i : Nat} (hi : i < xs.length) :
    ∃ b off, A = some ⟨b, off, none⟩ ∧ S b ∧ b < w.heap.size ∧ w.cell? ⟨b, off + i * 6, none⟩ = some (.int .i64 xs[i].ent) ∧ w.cell? ⟨b, off + i * 6 + 1, none⟩ = some (.int .i64 xs[i].com) ∧ w.cell? ⟨b, off + i * 6 + 2, none⟩ = some xs[i].m.p.val ∧ w.cell? ⟨b, off + i * 6 + 3, none⟩ = some xs[i].m.t.val ∧ w.cell? ⟨b, off + i * 6 + 4, none⟩ = some (.string xs[i].m.note) ∧ w.cell? ⟨b, off + i * 6 + 5, none⟩ = some (.int .i64 xs[i].code) := by
  obtain ⟨b, off, hA, hs, hb, hc⟩ := h.at_ hi
  exact ⟨b, off, hA, hs, hb, hc 0 _ rfl, hc 1 _ rfl, hc 2 _ rfl, hc 3 _ rfl, hc 4 _ rfl, hc 5 _ rfl⟩

structure RdCar (J : Fp) (w : World) (s : CS) (c : Car) : Prop where
  ent : s.ent = c.ent
  com : s.com = c.com
  code : s.code = c.code
  m : RdC J w s.m c.merge
structure RepCar (J : Fp) (w : World) (rows : List CS) (cars : List Car) : Prop where
  len : rows.length = cars.length
  get : ∀ i (h1 : i < rows.length) (h2 : i < cars.length), RdCar J w rows[i] cars[i]
section
variable {J T S : Fp} {w w' : World} {rows : List CS} {cars : List Car} {s : CS} {c : Car}
theorem RdCar.kp (h : RdCar J w s c) (hk : Kp J w w') : RdCar J w' s c := ⟨h.ent, h.com, h.code, h.m.kp hk⟩
theorem RdCar.wide (h : RdCar J w s c) (hs : ∀ k, J k → T k) : RdCar T w s c := ⟨h.ent, h.com, h.code, h.m.wide hs⟩
theorem RepCar.nil : RepCar J w [] [] := ⟨rfl, fun i h => by simp at h⟩
theorem RepCar.kp (h : RepCar J w rows cars) (hk : Kp J w w') : RepCar J w' rows cars := ⟨h.len, fun i h1 h2 => (h.get i h1 h2).kp hk⟩
theorem RepCar.wide (h : RepCar J w rows cars) (hs : ∀ k, J k → T k) : RepCar T w rows cars := ⟨h.len, fun i h1 h2 => (h.get i h1 h2).wide hs⟩
theorem RepCar.snoc (h : RepCar J w rows cars) (hc : RdCar J w s c) : RepCar J w (rows ++ [s]) (cars ++ [c]) := by
  refine ⟨by simp [h.len], fun i h1 h2 => ?_⟩
  by_cases hi : i < rows.length
  · rw [List.getElem_append_left hi, List.getElem_append_left (by have := h.len; omega)]
    exact h.get i hi (by have := h.len; omega)
  · have e1 : i = rows.length := by simp at h1; omega
    subst e1
    have e2 : rows.length = cars.length := h.len
    rw [List.getElem_append_right (Nat.le_refl _)]
    simp only [Nat.sub_self, List.getElem_cons_zero]
    have : (cars ++ [c])[rows.length] = c := by
      rw [List.getElem_append_right (by omega)]
      simp [e2]
    rw [this]
    exact hc
end

/-- The loop's memory: the tip's block, the row's variable, the repository, what the cars read. -/
structure CarsX (ob tb lb R : Nat) (D : Fp) (W : World) (M : List Cm) (tip : Int) (cars : List Car) (lv : Value) (rows : List CS) (J Ir Dr : Fp) : Prop where
  t : Blk W tb 3 #[.int .i64 tip]
  l : Blk W lb 70 #[lv]
  o : Own ECar 77 W lv rows
  c : RepCar J W rows cars
  r : RepoX repoTy Ir Dr W ob M R
  d : ∀ k, D k ↔ k = tb ∨ k = lb ∨ lv.ownBlock = some k ∨ J k ∨ Ir k ∨ Dr k
  tl : tb ≠ lb
  ov : lv.ownBlock ≠ some tb ∧ lv.ownBlock ≠ some lb
  aj : ∀ k, J k → k ≠ tb ∧ k ≠ lb ∧ lv.ownBlock ≠ some k ∧ ¬ Dr k
  ai : ∀ k, Ir k → k ≠ tb ∧ k ≠ lb ∧ lv.ownBlock ≠ some k
  ad : ∀ k, Dr k → k ≠ tb ∧ k ≠ lb ∧ lv.ownBlock ≠ some k
structure CarsW (n0 ob tb lb R : Nat) (D : Fp) (W : World) (M : List Cm) (tip : Int) (cars : List Car) : Prop where
  ex : ∃ (lv : Value) (rows : List CS) (J Ir Dr : Fp), CarsX ob tb lb R D W M tip cars lv rows J Ir Dr
  low : ∀ k, D k → n0 ≤ k
/-- A car that was made: its block, what it reads. -/
structure CarM (W W' : World) (cb : Nat) (s : KS) (c : Car) : Prop where
  x : Ext W W'
  b : Blk W' cb 77 #[.int .i64 c.ent, .int .i64 c.com, s.p.val, s.t.val, .string s.note, .int .i64 c.code]
  low : W.heap.size ≤ cb
  m : RdC (fun k => W.heap.size ≤ k ∧ k < W'.heap.size ∧ k ≠ cb) W' s c.merge
section
variable {n0 ob tb lb R cb : Nat} {D J Ir Dr : Fp} {W W' W9 W10 w' : World} {M : List Cm} {tip : Int} {cars : List Car} {lv v' : Value} {rows : List CS} {s : KS} {c : Car}
theorem CarsX.frame (h : CarsX ob tb lb R D W M tip cars lv rows J Ir Dr) (hk : Kp D W W') : CarsX ob tb lb R D W' M tip cars lv rows J Ir Dr := by
  obtain ⟨h1, h2, h3, h4, h5, h6, h7, h8, h9, h10, h11⟩ := h
  exact ⟨h1.kp hk ((h6 _).2 (.inl rfl)), h2.kp hk ((h6 _).2 (.inr (.inl rfl))), h3.kp hk fun g hg => (h6 g).2 (.inr (.inr (.inl hg))), h4.kp (hk.mono fun k _ hj => (h6 k).2 (.inr (.inr (.inr (.inl hj))))), h5.kp hk (fun k hd => (h6 k).2 (.inr (.inr (.inr (.inr (.inr hd)))))) (fun k hi => (h6 k).2 (.inr (.inr (.inr (.inr (.inl hi)))))), h6, h7, h8, h9, h10, h11⟩
theorem CarsW.frame (h : CarsW n0 ob tb lb R D W M tip cars) (hk : Kp D W W') : CarsW n0 ob tb lb R D W' M tip cars := by
  obtain ⟨⟨lv, rows, J, Ir, Dr, hx⟩, hl⟩ := h
  exact ⟨⟨lv, rows, J, Ir, Dr, hx.frame hk⟩, hl⟩
/-- A car more: the row grows. -/
theorem CarsX.push (h : CarsX ob tb lb R D W M tip cars lv rows J Ir Dr) (hlow : ∀ k, D k → n0 ≤ k) (hn0 : n0 ≤ W.heap.size) (hDb : ∀ k, D k → k < W.heap.size) (r : CarM W W9 cb s c) (hx : Ext W9 W10) (hO : Own ECar 77 w' v' (rows ++ [⟨c.ent, c.com, s, c.code⟩]))
    (hk : Kp (fun k => lv.ownBlock ≠ some k) W10 w') (hb : v'.ownBlock = lv.ownBlock ∨ v'.ownBlock = some W10.heap.size) :
    ∃ D1, CarsW n0 ob tb lb R D1 (w'.setCell ⟨lb, 0, none⟩ v') M tip (cars ++ [c]) ∧ Sub D D1 W (w'.setCell ⟨lb, 0, none⟩ v') ∧ Kp (fun k => ¬ D k) W (w'.setCell ⟨lb, 0, none⟩ v') ∧ ∀ k, D1 k → k < (w'.setCell ⟨lb, 0, none⟩ v').heap.size := by
  have hz9 := r.x.size
  have hz10 := hx.size
  have hzw := hk.size
  have hzs : (w'.setCell ⟨lb, 0, none⟩ v').heap.size = w'.heap.size := by simp
  have hx2 : Ext W W10 := r.x.trans hx
  have hls : Kp (fun k => k ≠ lb) w' (w'.setCell ⟨lb, 0, none⟩ v') := (Kp.refl _ w').setCell (.inr (by simp)) _
  -- what is kept: all that lay, but for the row's block and its variable
  have hkk : Kp (fun k => lv.ownBlock ≠ some k ∧ k ≠ lb) W10 (w'.setCell ⟨lb, 0, none⟩ v') := (hk.mono fun k _ h => h.1).trans' hls fun k _ h => h.2
  have hkW : Kp (fun k => lv.ownBlock ≠ some k ∧ k ≠ lb) W (w'.setCell ⟨lb, 0, none⟩ v') := (Kp.of_ext hx2).trans hkk
  have hlD : D lb := (h.d lb).2 (.inr (.inl rfl))
  have htD : D tb := (h.d tb).2 (.inl rfl)
  have hvo : ∀ g, v'.ownBlock = some g → lv.ownBlock = some g ∨ g = W10.heap.size := fun g hg => by
    rcases hb with hb | hb
    · rw [hb] at hg; exact .inl hg
    · rw [hb] at hg; injection hg with hg; exact .inr hg.symm
  have hvne : ∀ k, k < W10.heap.size → lv.ownBlock ≠ some k → v'.ownBlock ≠ some k := fun k h1 h2 e => by
    rcases hvo k e with h3 | h3
    · exact h2 h3
    · omega
  have hl10 : lb < W10.heap.size := by have := hDb lb hlD; omega
  have ht10 : tb < W10.heap.size := by have := hDb tb htD; omega
  refine ⟨fun k => k = tb ∨ k = lb ∨ v'.ownBlock = some k ∨ (J k ∨ (W.heap.size ≤ k ∧ k < W9.heap.size ∧ k ≠ cb)) ∨ Ir k ∨ Dr k, ⟨⟨v', rows ++ [⟨c.ent, c.com, s, c.code⟩], fun k => J k ∨ (W.heap.size ≤ k ∧ k < W9.heap.size ∧ k ≠ cb), Ir, Dr, ⟨?_, ?_, ?_, ?_, ?_, fun k => Iff.rfl, h.tl, ⟨hvne tb ht10 h.ov.1, hvne lb hl10 h.ov.2⟩, ?_, ?_, ?_⟩⟩, ?_⟩, ?_, ?_, ?_⟩
  · exact h.t.kp hkW ⟨h.ov.1, h.tl⟩
  · have hl' : Blk w' lb 70 #[lv] := (h.l.ext hx2).kp hk h.ov.2
    have := hl'.set_ 0 v'
    simpa using this
  · exact hO.kp hls fun g hg e => hvne lb hl10 h.ov.2 (e ▸ hg)
  · refine ((h.c.kp (hkW.mono fun k _ hj => ⟨(h.aj k hj).2.2.1, (h.aj k hj).2.1⟩)).wide fun k hk => .inl hk).snoc ⟨rfl, rfl, rfl, ?_⟩
    refine ((r.m.ext hx).kp (hkk.mono fun k _ hj => ⟨fun e => ?_, fun e => ?_⟩)).wide fun k hk => .inr hk
    · have := hDb k ((h.d k).2 (.inr (.inr (.inl e)))); omega
    · have := hDb lb hlD; omega
  · exact h.r.kp hkW (fun k hd => ⟨(h.ad k hd).2.2, (h.ad k hd).2.1⟩) fun k hi => ⟨(h.ai k hi).2.2, (h.ai k hi).2.1⟩
  · rintro k (hj | hj)
    · obtain ⟨a1, a2, a3, a4⟩ := h.aj k hj
      have := hDb k ((h.d k).2 (.inr (.inr (.inr (.inl hj)))))
      exact ⟨a1, a2, hvne k (by omega) a3, a4⟩
    · have hnD : ¬ D k := fun hd => by have := hDb k hd; omega
      exact ⟨fun e => hnD (e ▸ htD), fun e => hnD (e ▸ hlD), hvne k (by omega) fun e => hnD ((h.d k).2 (.inr (.inr (.inl e)))), fun e => hnD ((h.d k).2 (.inr (.inr (.inr (.inr (.inr e))))))⟩
  · intro k hi
    have := hDb k ((h.d k).2 (.inr (.inr (.inr (.inr (.inl hi))))))
    exact ⟨(h.ai k hi).1, (h.ai k hi).2.1, hvne k (by omega) (h.ai k hi).2.2⟩
  · intro k hd
    have := hDb k ((h.d k).2 (.inr (.inr (.inr (.inr (.inr hd))))))
    exact ⟨(h.ad k hd).1, (h.ad k hd).2.1, hvne k (by omega) (h.ad k hd).2.2⟩
  · rintro k (rfl | rfl | hk | (hk | hk) | hk | hk)
    · exact hlow _ htD
    · exact hlow _ hlD
    · rcases hvo k hk with h' | h'
      · exact hlow k ((h.d k).2 (.inr (.inr (.inl h'))))
      · omega
    · exact hlow k ((h.d k).2 (.inr (.inr (.inr (.inl hk)))))
    · omega
    · exact hlow k ((h.d k).2 (.inr (.inr (.inr (.inr (.inl hk))))))
    · exact hlow k ((h.d k).2 (.inr (.inr (.inr (.inr (.inr hk))))))
  · rintro k (rfl | rfl | hk | (hk | hk) | hk | hk)
    · exact .inl htD
    · exact .inl hlD
    · rcases hvo k hk with h' | h'
      · exact .inl ((h.d k).2 (.inr (.inr (.inl h'))))
      · have := hO.lt hk; exact .inr ⟨by omega, by omega⟩
    · exact .inl ((h.d k).2 (.inr (.inr (.inr (.inl hk)))))
    · exact .inr ⟨hk.1, by omega⟩
    · exact .inl ((h.d k).2 (.inr (.inr (.inr (.inr (.inl hk))))))
    · exact .inl ((h.d k).2 (.inr (.inr (.inr (.inr (.inr hk))))))
  · exact hkW.mono fun k _ hn => ⟨fun e => hn ((h.d k).2 (.inr (.inr (.inl e)))), fun e => hn (e ▸ hlD)⟩
  · rintro k (rfl | rfl | hk | (hk | hk) | hk | hk)
    · omega
    · omega
    · have := hO.lt hk; omega
    · have := hDb k ((h.d k).2 (.inr (.inr (.inr (.inl hk))))); omega
    · omega
    · have := hDb k ((h.d k).2 (.inr (.inr (.inr (.inr (.inl hk)))))); omega
    · have := hDb k ((h.d k).2 (.inr (.inr (.inr (.inr (.inr hk)))))); omega
/-- The commit is added, and the tip is set. -/
theorem CarsX.add {tip' : Int} {e : Ending} {cm : Cm} (h : CarsX ob tb lb R D W M tip cars lv rows J Ir Dr) (hlow : ∀ k, D k → n0 ≤ k) (hn0 : n0 ≤ W.heap.size) (hDb : ∀ k, D k → k < W.heap.size) (hp : AddPost repoTy Ir Dr W ob M R cm e w') :
    ∃ D1, CarsW n0 ob tb lb R D1 (w'.setCell ⟨tb, 0, none⟩ (.int .i64 tip')) (addC M R cm).1 tip' cars ∧ Sub D D1 W (w'.setCell ⟨tb, 0, none⟩ (.int .i64 tip')) ∧ Kp (fun k => ¬ D k) W (w'.setCell ⟨tb, 0, none⟩ (.int .i64 tip')) ∧ ∀ k, D1 k → k < (w'.setCell ⟨tb, 0, none⟩ (.int .i64 tip')).heap.size := by
  obtain ⟨_, I1, D1, hr, hI, hD, hk⟩ := hp
  have hzw := hk.size
  have hzs : (w'.setCell ⟨tb, 0, none⟩ (.int .i64 tip')).heap.size = w'.heap.size := by simp
  have hts : Kp (fun k => k ≠ tb) w' (w'.setCell ⟨tb, 0, none⟩ (.int .i64 tip')) := (Kp.refl _ w').setCell (.inr (by simp)) _
  have hkW : Kp (fun k => ¬ Dr k ∧ k ≠ tb) W (w'.setCell ⟨tb, 0, none⟩ (.int .i64 tip')) := (hk.mono fun k _ h => h.1).trans' hts fun k _ h => h.2
  have htD : D tb := (h.d tb).2 (.inl rfl)
  have hlD : D lb := (h.d lb).2 (.inr (.inl rfl))
  have nD : ∀ k, Dr k → D k := fun k hk => (h.d k).2 (.inr (.inr (.inr (.inr (.inr hk)))))
  have nI : ∀ k, Ir k → D k := fun k hk => (h.d k).2 (.inr (.inr (.inr (.inr (.inl hk)))))
  have nJ : ∀ k, J k → D k := fun k hk => (h.d k).2 (.inr (.inr (.inr (.inl hk))))
  have nV : ∀ k, lv.ownBlock = some k → D k := fun k hk => (h.d k).2 (.inr (.inr (.inl hk)))
  have tD : ¬ Dr tb := fun e => (h.ad tb e).1 rfl
  have lD : ¬ Dr lb := fun e => (h.ad lb e).2.1 rfl
  have new : ∀ (k : Nat) {P : Prop}, (D k → P) → W.heap.size ≤ k → ¬ D k := fun k P _ h e => by have := hDb k e; omega
  have hnn : ∀ k, W.heap.size ≤ k → k ≠ tb ∧ k ≠ lb ∧ lv.ownBlock ≠ some k := fun k hk => ⟨fun e => by have := hDb tb htD; omega, fun e => by have := hDb lb hlD; omega, fun e => by have := hDb k (nV k e); omega⟩
  have i1 : ∀ k, I1 k → k ≠ tb ∧ k ≠ lb ∧ lv.ownBlock ≠ some k := fun k hk => by
    rcases hI k hk with h' | h'
    · exact h.ai k h'
    · exact hnn k h'.1
  have d1 : ∀ k, D1 k → k ≠ tb ∧ k ≠ lb ∧ lv.ownBlock ≠ some k := fun k hk => by
    rcases hD k hk with h' | h'
    · exact h.ad k h'
    · exact hnn k h'.1
  refine ⟨fun k => k = tb ∨ k = lb ∨ lv.ownBlock = some k ∨ J k ∨ I1 k ∨ D1 k, ⟨⟨lv, rows, J, I1, D1, ⟨?_, ?_, ?_, ?_, ?_, fun k => Iff.rfl, h.tl, h.ov, ?_, i1, d1⟩⟩, ?_⟩, ?_, ?_, ?_⟩
  · have := (h.t.kp hk tD).set_ 0 (.int .i64 tip')
    simpa using this
  · exact h.l.kp hkW ⟨lD, fun e => h.tl e.symm⟩
  · exact h.o.kp hkW fun g hg => ⟨fun e => (h.ad g e).2.2 hg, fun e => h.ov.1 (e ▸ hg)⟩
  · exact h.c.kp (hkW.mono fun k _ hj => ⟨(h.aj k hj).2.2.2, (h.aj k hj).1⟩)
  · exact hr.kp hts (fun k hd => (d1 k hd).1) fun k hi => (i1 k hi).1
  · intro k hj
    obtain ⟨a1, a2, a3, a4⟩ := h.aj k hj
    refine ⟨a1, a2, a3, fun e => ?_⟩
    rcases hD k e with h' | h'
    · exact a4 h'
    · have := hDb k (nJ k hj); omega
  · rintro k (rfl | rfl | hk' | hk' | hk' | hk')
    · exact hlow _ htD
    · exact hlow _ hlD
    · exact hlow k (nV k hk')
    · exact hlow k (nJ k hk')
    · rcases hI k hk' with h' | h'
      · exact hlow k (nI k h')
      · omega
    · rcases hD k hk' with h' | h'
      · exact hlow k (nD k h')
      · omega
  · rintro k (rfl | rfl | hk' | hk' | hk' | hk')
    · exact .inl htD
    · exact .inl hlD
    · exact .inl (nV k hk')
    · exact .inl (nJ k hk')
    · rcases hI k hk' with h' | h'
      · exact .inl (nI k h')
      · exact .inr ⟨h'.1, by omega⟩
    · rcases hD k hk' with h' | h'
      · exact .inl (nD k h')
      · exact .inr ⟨h'.1, by omega⟩
  · exact hkW.mono fun k _ hn => ⟨fun e => hn (nD k e), fun e => hn (e ▸ htD)⟩
  · rintro k (rfl | rfl | hk' | hk' | hk' | hk')
    · have := hDb _ htD; omega
    · have := hDb _ hlD; omega
    · have := hDb k (nV k hk'); omega
    · have := hDb k (nJ k hk'); omega
    · have := hr.li k hk'; omega
    · have := hr.ld k hk'; omega
/-- The car's value is stored into a block that was made behind the call, or ahead of it. -/
theorem CarM.of {w6 w8 : World} (hx6 : Ext W w6) (hx8 : Ext w6 w8) (hlow : w6.heap.size ≤ cb) {o0 o1 o2 o3 o4 o5 : Value} (hB : Blk w8 cb 77 #[o0, o1, o2, o3, o4, o5]) (hR : RdC (fun k => w6.heap.size ≤ k ∧ k < w8.heap.size ∧ k ≠ cb) w8 s c.merge) :
    CarM W ((((((w8.setCell ⟨cb, 0, none⟩ (.int .i64 c.ent)).setCell ⟨cb, 1, none⟩ (.int .i64 c.com)).setCell ⟨cb, 2, none⟩ s.p.val).setCell ⟨cb, 3, none⟩ s.t.val).setCell ⟨cb, 4, none⟩ (.string s.note)).setCell ⟨cb, 5, none⟩ (.int .i64 c.code)) cb s c := by
  have hk : Kp (fun k => k ≠ cb) w8 ((((((w8.setCell ⟨cb, 0, none⟩ (.int .i64 c.ent)).setCell ⟨cb, 1, none⟩ (.int .i64 c.com)).setCell ⟨cb, 2, none⟩ s.p.val).setCell ⟨cb, 3, none⟩ s.t.val).setCell ⟨cb, 4, none⟩ (.string s.note)).setCell ⟨cb, 5, none⟩ (.int .i64 c.code)) := ((((((Kp.refl _ w8).setCell (.inr (by simp)) _).setCell (.inr (by simp)) _).setCell (.inr (by simp)) _).setCell (.inr (by simp)) _).setCell (.inr (by simp)) _).setCell (.inr (by simp)) _
  have hz6 := hx6.size
  have hz := hk.size
  refine ⟨(hx6.trans hx8).trans' hk fun k h _ => by omega, ((((((hB.set_ 0 _).set_ 1 _).set_ 2 _).set_ 3 _).set_ 4 _).set_ 5 _), by omega, ?_⟩
  exact (hR.kp (hk.mono fun k _ h => h.2.2)).wide fun k h => ⟨by omega, by omega, h.2.2⟩
end

end Go.Proofs.YtgjbfkaepalkiaaGreatDoor

namespace Go.Proofs.YtgjbfkaepalkiaaGreatDoor
open Go.RowKit
set_option linter.unusedVariables false
set_option linter.unusedSimpArgs false
attribute [local go_sem] Oper.semAt_some

def CarsPost (w : World) (cars : List Car) (e : Ending) (w' : World) : Prop := ∃ (v : Value) (rows : List CS) (J : Fp), e = .returned v ∧ New ECar 77 w.heap.size w' v rows ∧ RepCar J w' rows cars ∧ (∀ k, J k → w.heap.size ≤ k ∧ k < w'.heap.size ∧ v.ownBlock ≠ some k) ∧ Ext w w'

theorem cars_out {ob tb lb R q : Nat} {D J Ir Dr : Fp} {w W W3 : World} {M : List Cm} {tip : Int} {cars : List Car} {lv : Value} {rows : List CS} (h : CarsX ob tb lb R D W M tip cars lv rows J Ir Dr) (hlow : ∀ k, D k → w.heap.size ≤ k) (hDb : ∀ k, D k → k < W.heap.size) (hx : Ext w W) (hk : Kp (fun k => k ≠ q) W W3) (hq : ¬ D q) (hqw : w.heap.size ≤ q) : CarsPost w cars (.returned lv) W3 := by
  have nJ : ∀ k, J k → D k := fun k hk => (h.d k).2 (.inr (.inr (.inr (.inl hk))))
  have nV : ∀ k, lv.ownBlock = some k → D k := fun k hk => (h.d k).2 (.inr (.inr (.inl hk)))
  refine ⟨lv, rows, J, rfl, ⟨h.o.kp hk fun g hg e => hq (e ▸ nV g hg), fun g hg => hlow g (nV g hg)⟩, h.c.kp (hk.mono fun k _ hj e => hq (e ▸ nJ k hj)), fun k hj => ⟨hlow k (nJ k hj), hk.lt (hDb k (nJ k hj)), (h.aj k hj).2.2.1⟩, hx.trans' hk fun k hk0 _ e => by omega⟩

section
variable {I D : Fp} {rb : Nat} {cs : List Cm} {w : World}
set_option maxHeartbeats 4000000 in
theorem cars_calls (h : RepoX repoT I D w rb cs 60) (hG : GoodR cs) (hn : cs.length ≤ 60) (tip : Int) (s : Value) (xs : List Ent) (S : Fp) (hs : SeqV Tryz.prog S w s encE xs) (hS : ∀ k, S k → k < w.heap.size) (most : Int) :
    Calls Tryz.prog 46 #[.pointer (some ⟨rb, 0, none⟩), .int .i64 tip, s, .int .i64 most] w (CarsPost w (trainF cs tip xs most)) := by
  obtain ⟨sf, sa, sb, rfl⟩ := hs.isf
  obtain ⟨mm, hmm⟩ : ∃ mm : Int, min most 6 = mm := ⟨_, rfl⟩
  have hm6 : mm ≤ 6 := by omega
  have hCp := fun W (hW : Ext w W) => copyR_calls (h.ext hW) hG.small (by omega) mm (60 + mm.toNat) (by omega) (by omega)
  have hTk := fun W (hW : Ext w W) => takeE_calls (.func sf sa sb) mm (by omega) xs S W (hs.later (Kp.of_ext hW)) (fun k hk => by have := hS k hk; have := hW.size; omega)
  have htr : trainF cs tip xs most = (runT (decide (cs.length < 60)) (60 + mm.toNat) cs tip (xs.take mm.toNat)).l := by unfold trainF; rw [hmm]
  rw [htr]
  have HCp := Lib.hid hCp
  have HTk := Lib.hid hTk
  have HLn := Lib.hid fun W (hW : Ext w W) => lenR_calls (h.ext hW)
  have HGood := Lib.hid hG
  have HS := Lib.hid hS
  have hrb := (h.rd).elim fun A h => h.elim fun c h => h.elim fun rows h => h.1.lt
  clear hCp hTk hs hS h hG htr
  refine calls_of_body Tryz.func46 rfl ?_
  simp only [Tryz.ntmps46, List.size_toArray, List.length_cons, List.length_nil, Nat.reduceAdd, Nat.reduceSub, Array.replicate_succ, Array.replicate_zero, List.push_toArray, List.append_toArray, List.nil_append, List.cons_append]
  gi_wp2_with fail
  obtain ⟨W2, hW2⟩ : ∃ W2, (w.alloc (.cells #[.pointer (some ⟨rb, 0, none⟩)] 25)).alloc (.cells #[.int .i64 tip] 3) = W2 := ⟨_, rfl⟩
  have hx2 : Ext w W2 := by rw [← hW2]; exact ((Kp.refl _ _).alloc _).alloc _
  have hz2 : W2.heap.size = w.heap.size + 2 := by rw [← hW2]; simp
  have hBA : Blk W2 w.heap.size 25 #[.pointer (some ⟨rb, 0, none⟩)] := by rw [← hW2]; exact (Blk.new w _ _).ext ((Kp.refl _ _).alloc _)
  have hBt : Blk W2 (w.heap.size + 1) 3 #[.int .i64 tip] := by
    rw [← hW2]
    have := Blk.new (w.alloc (.cells #[.pointer (some ⟨rb, 0, none⟩)] 25)) 3 #[.int .i64 tip]
    rw [World.size_alloc] at this
    exact this
  rw [hW2]
  clear hW2
  refine wide_call ((HCp.out W2 hx2).mono ?_)
  rintro e w3 ⟨I', D', rfl, hOQ⟩
  obtain ⟨ob, hob⟩ : ∃ ob, W2.heap.size = ob := ⟨_, rfl⟩
  rw [hob] at hOQ ⊢
  have hob2 : ob = w.heap.size + 2 := by omega
  have HOB := Lib.hid hob2
  have HZ2 := Lib.hid hz2
  clear hob hob2 hz2
  have hx3 := hOQ.x
  have hz3 := hx3.size
  obtain ⟨W4, hW4⟩ : ∃ W4, (w3.alloc (.cells #[.pointer (some ⟨ob, 0, none⟩)] 25)).alloc (.cells #[.slice none 0 0] 70) = W4 := ⟨_, rfl⟩
  have hx34 : Ext w3 W4 := by rw [← hW4]; exact ((Kp.refl _ _).alloc _).alloc _
  have HZ4 := Lib.hid (show W4.heap.size = w3.heap.size + 2 by rw [← hW4]; simp)
  have hBo : Blk W4 w3.heap.size 25 #[.pointer (some ⟨ob, 0, none⟩)] := by rw [← hW4]; exact (Blk.new w3 _ _).ext ((Kp.refl _ _).alloc _)
  have hBl : Blk W4 (w3.heap.size + 1) 70 #[.slice none 0 0] := by
    rw [← hW4]
    have := Blk.new (w3.alloc (.cells #[.pointer (some ⟨ob, 0, none⟩)] 25)) 70 #[.slice none 0 0]
    rw [World.size_alloc] at this
    exact this
  have hx04 : Ext w W4 := (hx2.trans hx3).trans hx34
  clear HCp
  gi_wp2_with fail
  try rw [hW4]
  clear hW4
  refine wide_call ((HTk.out W4 hx04).mono ?_)
  rintro e w5 ⟨u, rfl, hSq, hx5⟩
  clear HTk
  have hx05 := hx04.trans hx5
  have hz5 := hx5.size
  have hOQ5 := hOQ.ext (hx34.trans hx5)
  have hBA5 := hBA.ext ((hx3.trans hx34).trans hx5)
  have HBA := Lib.hid fun W (hW : Kp (fun k => k = w.heap.size) w5 W) => hBA5.kp hW rfl
  have hBt5 := hBt.ext ((hx3.trans hx34).trans hx5)
  have hBo5 := hBo.ext hx5
  have HBO := Lib.hid fun W (hW : Kp (fun k => k = w3.heap.size) w5 W) => hBo5.kp hW rfl
  have hBl5 := hBl.ext hx5
  have hDl : ∀ k, D' k → W2.heap.size ≤ k ∧ k < w3.heap.size := fun k hk => ⟨hOQ.lowD k hk, hOQ.r.ld k hk⟩
  have hIl : ∀ k, I' k → W2.heap.size ≤ k ∧ k < w3.heap.size := fun k hk => ⟨hOQ.lowI k hk, hOQ.r.li k hk⟩
  obtain ⟨uf, ua, ub, rfl⟩ := hSq.isf
  gi_wp2_with fail
  have hn0 : w.heap.size ≤ w5.heap.size := hx05.size
  have hDS : ∀ k, (k = w.heap.size + 1 ∨ k = w3.heap.size + 1 ∨ I' k ∨ D' k) → k < w5.heap.size ∧ ¬ (S k ∨ (W4.heap.size ≤ k ∧ k < w5.heap.size)) := by
    intro k hk
    have h4 := HZ4.out
    have h2 := HZ2.out
    have := hx34.size
    rcases hk with rfl | rfl | hk | hk
    · exact ⟨by omega, fun h => by rcases h with h | h; have := HS.out _ h; omega; omega⟩
    · exact ⟨by omega, fun h => by rcases h with h | h; have := HS.out _ h; omega; omega⟩
    · have := hIl k hk
      exact ⟨by omega, fun h => by rcases h with h | h; have := HS.out _ h; omega; omega⟩
    · have := hDl k hk
      exact ⟨by omega, fun h => by rcases h with h | h; have := HS.out _ h; omega; omega⟩
  have hStart : CarsX ob (w.heap.size + 1) (w3.heap.size + 1) (60 + mm.toNat) (fun k => k = w.heap.size + 1 ∨ k = w3.heap.size + 1 ∨ I' k ∨ D' k) w5 cs tip [] (.slice none 0 0) [] (fun _ => False) I' D' := by
    have h2 := HZ2.out
    refine ⟨hBt5, hBl5, Own.nil _ _, RepCar.nil, hOQ5.r, fun k => ⟨fun h => ?_, fun h => ?_⟩, by omega, by simp [Value.ownBlock], fun k h => h.elim, fun k h => ⟨by have := hIl k h; omega, by have := hIl k h; omega, by simp [Value.ownBlock]⟩, fun k h => ⟨by have := hDl k h; omega, by have := hDl k h; omega, by simp [Value.ownBlock]⟩⟩
    · rcases h with h | h | h | h
      · exact .inl h
      · exact .inr (.inl h)
      · exact .inr (.inr (.inr (.inr (.inl h))))
      · exact .inr (.inr (.inr (.inr (.inr h))))
    · rcases h with h | h | h | h | h | h
      · exact .inl h
      · exact .inr (.inl h)
      · simp [Value.ownBlock] at h
      · exact h.elim
      · exact .inr (.inr (.inl h))
      · exact .inr (.inr (.inr h))
  have HDS := Lib.hid hDS
  have hlowS : ∀ k, (k = w.heap.size + 1 ∨ k = w3.heap.size + 1 ∨ I' k ∨ D' k) → w.heap.size ≤ k := fun k hk => by
    have h2 := HZ2.out
    rcases hk with rfl | rfl | hk | hk
    · omega
    · omega
    · have := hIl k hk; omega
    · have := hDl k hk; omega
  have htl : w.heap.size + 1 < w3.heap.size + 1 := by have h2 := HZ2.out; omega
  have hAn : ¬ (w.heap.size = w.heap.size + 1 ∨ w.heap.size = w3.heap.size + 1 ∨ I' w.heap.size ∨ D' w.heap.size) := fun h => by
    have h2 := HZ2.out
    rcases h with h | h | h | h
    · omega
    · omega
    · have := hIl _ h; omega
    · have := hDl _ h; omega
  have hOn : ¬ (w3.heap.size = w.heap.size + 1 ∨ w3.heap.size = w3.heap.size + 1 ∨ I' w3.heap.size ∨ D' w3.heap.size) := fun h => by
    have h2 := HZ2.out
    rcases h with h | h | h | h
    · omega
    · omega
    · have := hIl _ h; omega
    · have := hDl _ h; omega
  have hLl : w3.heap.size + 1 < w5.heap.size := by have := HZ4.out; omega
  have HSt := Lib.hid hStart
  clear hBt5 hBl5 hOQ5 hBA hBt hBo hBl hOQ hDl hIl hStart hDS hx2 hx3 hx34 hx04 hx5 hBA5 hBo5
  refine range_wp (fv := .func uf ua ub) rfl hSq (fun k hk => by rcases hk with hk | hk; have := HS.out k hk; omega; omega) (fun _ => rfl)
    (fun pre Dx W => ∃ M tp cars, runT (decide (cs.length < 60)) (60 + mm.toNat) cs tip pre = ⟨M, tp, cars, false⟩ ∧ CarsW w.heap.size ob (w.heap.size + 1) (w3.heap.size + 1) (60 + mm.toNat) Dx W M tp cars)
    (fun c pre Dx W => c = .exit 0 ∧ ∃ M tp cars, runT (decide (cs.length < 60)) (60 + mm.toNat) cs tip pre = ⟨M, tp, cars, true⟩ ∧ ∃ M' tp', CarsW w.heap.size ob (w.heap.size + 1) (w3.heap.size + 1) (60 + mm.toNat) Dx W M' tp' cars)
    (fun pre Dx W W' ⟨M, tp, cars, h1, h2⟩ _ hk => ⟨M, tp, cars, h1, h2.frame hk⟩) (fun c pre Dx W W' ⟨h0, M, tp, cars, h1, M', tp', h2⟩ _ hk => ⟨h0, M, tp, cars, h1, M', tp', h2.frame hk⟩)
    (fun k => k = w.heap.size + 1 ∨ k = w3.heap.size + 1 ∨ I' k ∨ D' k) ⟨cs, tip, [], rfl, ⟨_, _, _, _, _, HSt.out⟩, hlowS⟩ HDS.out ?round ?done ?stop
  case round =>
    intro l pre x Dx Wr hIr hDr hpre hsub hkp hl hlt hnl K hK
    obtain ⟨M, tp, cars, hrun, ⟨⟨lv, rows, J, Ir, Dr, hX⟩, hlw⟩⟩ := hIr
    gi_wp2_with fail
    refine hK _ _ ((Kp.refl _ Wr).alloc _) ?_
    intro W₂ hk2 hsz hrec
    clear hK hrec
    obtain ⟨num, com, lane, code⟩ := x
    have hWW : Kp (fun k => k ≠ l) Wr W₂ := (Kp.of_ext ((Kp.refl _ Wr).alloc _)).trans hk2
    have hX2 := hX.frame (hWW.mono fun k _ hd => by rintro rfl; exact hnl hd)
    have hBe := (Blk.new Wr 79 #[.int .i64 num, .int .i64 com, .int .i64 lane, .int .i64 code]).kp hk2 (by simp; omega)
    have hzr := hkp.size
    have hz2 := hWW.size
    have heb : Wr.heap.size < W₂.heap.size := by have := hsz; simp at this; omega
    have hA2 := HBA.out W₂ ((hkp.mono fun k _ hk => by subst hk; exact hAn).trans' hWW fun k hk he => by subst he; omega)
    have hO2 := HBO.out W₂ ((hkp.mono fun k _ hk => by subst hk; exact hOn).trans' hWW fun k hk he => by subst he; omega)
    have hxW2 : Ext w W₂ := (hx05.trans' hkp fun k hk _ hd => by have := hlowS k hd; omega).trans' hWW fun k hk _ => by omega
    have hDb2 : ∀ k, Dx k → k < W₂.heap.size := fun k hk => hWW.lt (hDr k hk)
    have hOwnD : ¬ Dx w3.heap.size := fun hd => by
      rcases hsub _ hd with h | h
      · exact hOn h
      · have := h.1; have := HZ4.out; omega
    have hgd := runT_good (room := decide (cs.length < 60)) (R := 60 + mm.toNat) (tip := tip) HGood.out pre
    have hst := runT_snoc (room := decide (cs.length < 60)) (R := 60 + mm.toNat) (M := cs) (tip := tip) pre ⟨num, com, lane, code⟩
    rw [hrun] at hgd hst
    have hpl := hpre.length_le
    rw [List.length_append, List.length_singleton, List.length_take] at hpl
    have hcl : cars.length = pre.length := hgd.on rfl
    have hMl : M.length ≤ cs.length + cars.length := hgd.len
    have hGM : GoodR M := hgd.good
    have HLr : Hid (rows.length = cars.length) := Lib.hid hX2.c.len
    have hCar := fun W (hW : Ext W₂ W) => car_calls (hX2.r.ext hW) hGM (by omega) tp ⟨num, com, lane, code⟩ (!cars.isEmpty || decide (cs.length < 60))
    have hnum := carF_num (M := M) (tip := tp) (e := ⟨num, com, lane, code⟩) (room := !cars.isEmpty || decide (cs.length < 60))
    have hstp : stepT (decide (cs.length < 60)) (60 + mm.toNat) ⟨M, tp, cars, false⟩ ⟨num, com, lane, code⟩ = if (carF M tp ⟨num, com, lane, code⟩ (!cars.isEmpty || decide (cs.length < 60))).code = 7 then
          ⟨(addC M (60 + mm.toNat) (carF M tp ⟨num, com, lane, code⟩ (!cars.isEmpty || decide (cs.length < 60))).merge).1, ((addC M (60 + mm.toNat) (carF M tp ⟨num, com, lane, code⟩ (!cars.isEmpty || decide (cs.length < 60))).merge).2.1 : Int), cars ++ [carF M tp ⟨num, com, lane, code⟩ (!cars.isEmpty || decide (cs.length < 60))], false⟩
        else if cars.isEmpty = true then ⟨M, tp, [carF M tp ⟨num, com, lane, code⟩ (!cars.isEmpty || decide (cs.length < 60))], true⟩ else ⟨M, tp, cars, true⟩ := by
      unfold stepT
      rw [if_neg (by simp)]
    rw [hstp] at hst
    have hsm := fun hc => carF_small (M := M) (tip := tp) (e := ⟨num, com, lane, code⟩) (room := !cars.isEmpty || decide (cs.length < 60)) hGM hc
    dsimp only at hnum
    obtain ⟨rm, hrm⟩ : ∃ rm, (!cars.isEmpty || decide (cs.length < 60)) = rm := ⟨_, rfl⟩
    rw [hrm] at hCar hnum hst hsm
    obtain ⟨cr, hcr⟩ : ∃ cr, carF M tp ⟨num, com, lane, code⟩ rm = cr := ⟨_, rfl⟩
    rw [hcr] at hCar hnum hst hsm
    obtain ⟨hq1, hq2⟩ := hnum
    subst hq1 hq2
    have HStep := Lib.hid hst
    have HSm := Lib.hid hsm
    have HCar := Lib.hid hCar
    have HLnW := Lib.hid fun W (hW : Ext W₂ W) => HLn.out W (hxW2.trans hW)
    have HRm := Lib.hid hrm
    obtain ⟨Al, n, cl, hlv⟩ := hX2.o.slice
    subst hlv
    have hn : n = cars.length := by obtain ⟨_, _, hh, _⟩ := hX2.o.rd; injection hh with _ hh _; have := HLr.out; omega
    have HSx := Lib.hid fun W (hW : Kp (fun k => k < W₂.heap.size) W₂ W) => (And.intro ((hO2.kp hW (by have := hO2.lt; omega)).cell0) (And.intro ((hX2.t.kp hW hX2.t.lt).cell0) (And.intro ((hBe.kp hW heb).cell 0) (And.intro ((hBe.kp hW heb).cell 1) (And.intro ((hBe.kp hW heb).cell 2) (And.intro ((hBe.kp hW heb).cell 3) (And.intro ((hX2.l.kp hW hX2.l.lt).cell0) ((hA2.kp hW hA2.lt).cell0))))))) : W.cell? ⟨w3.heap.size, 0, none⟩ = some (.pointer (some ⟨ob, 0, none⟩)) ∧ W.cell? ⟨w.heap.size + 1, 0, none⟩ = some (.int .i64 tp) ∧ W.cell? ⟨Wr.heap.size, 0, none⟩ = some (.int .i64 cr.ent) ∧ W.cell? ⟨Wr.heap.size, 1, none⟩ = some (.int .i64 cr.com) ∧ W.cell? ⟨Wr.heap.size, 2, none⟩ = some (.int .i64 lane) ∧ W.cell? ⟨Wr.heap.size, 3, none⟩ = some (.int .i64 code) ∧ W.cell? ⟨w3.heap.size + 1, 0, none⟩ = some (.slice Al n cl) ∧ W.cell? ⟨w.heap.size, 0, none⟩ = some (.pointer (some ⟨rb, 0, none⟩)))
    have HX2 := Lib.hid hX2
    have HBoW := Lib.hid fun W (hW : Ext W₂ W) => hO2.ext hW
    have HOv := Lib.hid (show (Value.slice Al n cl).ownBlock ≠ some w3.heap.size from fun e => hOwnD (hX2.d _ |>.2 (.inr (.inr (.inl e)))))
    have HPl := Lib.hid (show cars.length + 1 ≤ 6 ∧ M.length ≤ 120 from ⟨by omega, by omega⟩)
    have HHlw := Lib.hid hlw
    have HDb2 := Lib.hid hDb2
    clear hX hX2 hBe hA2 hO2 hgd hst hstp hsm hCar hk2 hlw hDb2 hrm hkp hsub hWW hcr hGM
    gi_wp2_with fail
    obtain ⟨q, hq⟩ : ∃ q, decide (cs.length < 60) = q := ⟨_, rfl⟩
    rw [hq] at HRm
    have hqi : decide ((cs.length : Int) < 60) = q := by rw [← hq]; exact decide_eq_decide.2 (by omega)
    clear hq
    cases cars with
    | nil =>
      have hn0' : n = 0 := hn
      subst hn0'
      clear hn
      refine wpIn_region_held (S := (fun W => W.cell? ⟨w3.heap.size, 0, none⟩ = some (.pointer (some ⟨ob, 0, none⟩)) ∧ W.cell? ⟨w.heap.size + 1, 0, none⟩ = some (.int .i64 tp) ∧ W.cell? ⟨Wr.heap.size, 0, none⟩ = some (.int .i64 cr.ent) ∧ W.cell? ⟨Wr.heap.size, 1, none⟩ = some (.int .i64 cr.com) ∧ W.cell? ⟨Wr.heap.size, 2, none⟩ = some (.int .i64 lane) ∧ W.cell? ⟨Wr.heap.size, 3, none⟩ = some (.int .i64 code) ∧ W.cell? ⟨w3.heap.size + 1, 0, none⟩ = some (.slice Al 0 cl) ∧ W.cell? ⟨w.heap.size, 0, none⟩ = some (.pointer (some ⟨rb, 0, none⟩)))) (by kernel_rfl) ?_
      obtain ⟨w6, hw6⟩ : ∃ w6, W₂.drew = w6 := ⟨_, rfl⟩
      have hx6 : Ext W₂ w6 := by rw [← hw6]; exact (Kp.refl _ _).drew
      have hz6 := hx6.size
      rw [hw6]
      have hHeld2 : (fun W => W.cell? ⟨w3.heap.size, 0, none⟩ = some (.pointer (some ⟨ob, 0, none⟩)) ∧ W.cell? ⟨w.heap.size + 1, 0, none⟩ = some (.int .i64 tp) ∧ W.cell? ⟨Wr.heap.size, 0, none⟩ = some (.int .i64 cr.ent) ∧ W.cell? ⟨Wr.heap.size, 1, none⟩ = some (.int .i64 cr.com) ∧ W.cell? ⟨Wr.heap.size, 2, none⟩ = some (.int .i64 lane) ∧ W.cell? ⟨Wr.heap.size, 3, none⟩ = some (.int .i64 code) ∧ W.cell? ⟨w3.heap.size + 1, 0, none⟩ = some (.slice Al 0 cl) ∧ W.cell? ⟨w.heap.size, 0, none⟩ = some (.pointer (some ⟨rb, 0, none⟩))) w6 := HSx.out _ (Kp.of_ext hx6)
      clear hw6
      refine heldIn_take (i := 0) (v := ?_) (noDefer_of (by kernel_rfl)) (by simp only [List.getElem?_toArray, List.getElem?_cons_succ, List.getElem?_cons_zero]; rfl) (by kernel_rfl) (by kernel_rfl) (by kernel_rfl) (fun _ _ _ h => h) (by rfl) (fun _ _ _ => trivial) (by assumption) ?_ ?_
      rotate_left
      · intro w hSw; (try dsimp only at hSw); go_simp; (try with_reducible rfl)
      try simp only [Act.put, List.setIfInBounds_toArray, List.set_cons_zero, List.set_cons_succ]
      refine heldIn_take (i := 1) (v := ?_) (noDefer_of (by kernel_rfl)) (by simp only [List.getElem?_toArray, List.getElem?_cons_succ, List.getElem?_cons_zero]; rfl) (by kernel_rfl) (by kernel_rfl) (by kernel_rfl) (fun _ _ _ h => h) (by rfl) (fun _ _ _ => trivial) (by assumption) ?_ ?_
      rotate_left
      · intro w hSw; (try dsimp only at hSw); go_simp; (try with_reducible rfl)
      try simp only [Act.put, List.setIfInBounds_toArray, List.set_cons_zero, List.set_cons_succ]
      refine heldIn_take (i := 2) (v := ?_) (noDefer_of (by kernel_rfl)) (by simp only [List.getElem?_toArray, List.getElem?_cons_succ, List.getElem?_cons_zero]; rfl) (by kernel_rfl) (by kernel_rfl) (by kernel_rfl) (fun _ _ _ h => h) (by rfl) (fun _ _ _ => trivial) (by assumption) ?_ ?_
      rotate_left
      · intro w hSw; (try dsimp only at hSw); go_simp; (try with_reducible rfl)
      try simp only [Act.put, List.setIfInBounds_toArray, List.set_cons_zero, List.set_cons_succ]
      refine heldIn_take (i := 3) (v := ?_) (noDefer_of (by kernel_rfl)) (by simp only [List.getElem?_toArray, List.getElem?_cons_succ, List.getElem?_cons_zero]; rfl) (by kernel_rfl) (by kernel_rfl) (by kernel_rfl) (fun _ _ _ h => h) (by rfl) (fun _ _ _ => trivial) (by assumption) ?_ ?_
      rotate_left
      · intro w hSw; (try dsimp only at hSw); go_simp; (try with_reducible rfl)
      try simp only [Act.put, List.setIfInBounds_toArray, List.set_cons_zero, List.set_cons_succ]
      refine heldIn_take (i := 4) (v := ?_) (noDefer_of (by kernel_rfl)) (by simp only [List.getElem?_toArray, List.getElem?_cons_succ, List.getElem?_cons_zero]; rfl) (by kernel_rfl) (by kernel_rfl) (by kernel_rfl) (fun _ _ _ h => h) (by rfl) (fun _ _ _ => trivial) (by assumption) ?_ ?_
      rotate_left
      · intro w hSw; (try dsimp only at hSw); go_simp; (try with_reducible rfl)
      try simp only [Act.put, List.setIfInBounds_toArray, List.set_cons_zero, List.set_cons_succ]
      refine heldIn_take (i := 5) (v := ?_) (noDefer_of (by kernel_rfl)) (by simp only [List.getElem?_toArray, List.getElem?_cons_succ, List.getElem?_cons_zero]; rfl) (by kernel_rfl) (by kernel_rfl) (by kernel_rfl) (fun _ _ _ h => h) (by rfl) (fun _ _ _ => trivial) (by assumption) ?_ ?_
      rotate_left
      · intro w hSw; (try dsimp only at hSw); go_simp; (try with_reducible rfl)
      try simp only [Act.put, List.setIfInBounds_toArray, List.set_cons_zero, List.set_cons_succ]
      refine heldIn_take (i := 6) (v := ?_) (noDefer_of (by kernel_rfl)) (by simp only [List.getElem?_toArray, List.getElem?_cons_succ, List.getElem?_cons_zero]; rfl) (by kernel_rfl) (by kernel_rfl) (by kernel_rfl) (fun _ _ _ h => h) (by rfl) (fun _ _ _ => trivial) (by assumption) ?_ ?_
      rotate_left
      · intro w hSw; (try dsimp only at hSw); go_simp; (try with_reducible rfl)
      try simp only [Act.put, List.setIfInBounds_toArray, List.set_cons_zero, List.set_cons_succ]
      have hrq : rm = q := by have := HRm.out; simpa using this.symm
      subst hrq
      refine heldIn_take (i := 7) (v := ?_) (noDefer_of (by kernel_rfl)) (by simp only [List.getElem?_toArray, List.getElem?_cons_succ, List.getElem?_cons_zero]; rfl) (by kernel_rfl) (by kernel_rfl) (by kernel_rfl) (fun _ _ _ h => h) (by rfl) (fun _ _ _ => trivial) (by assumption) ?_ ?_
      rotate_left
      · intro w hSw; (try dsimp only at hSw); go_simp; (try with_reducible rfl)
      try simp only [Act.put, List.setIfInBounds_toArray, List.set_cons_zero, List.set_cons_succ]
      refine heldIn_two (i := 8) (i' := 12) (by kernel_rfl) (by simp only [List.getElem?_toArray, List.getElem?_cons_succ, List.getElem?_cons_zero]; rfl) (by simp only [List.getElem?_toArray, List.getElem?_cons_succ, List.getElem?_cons_zero]; rfl) (fun K hK => ?_) (fun K hK => ?_)
      · skip
        go_simp
        refine wideR_call ((HLnW.out _ hx6).mono ?_)
        rintro e w' ⟨rfl, rfl⟩
        refine hK.out _ _ ?_ ?_
        · (try dsimp only); exact HSx.out _ (Kp.of_ext hx6)
        clear hK K
        try simp only [Act.put, List.setIfInBounds_toArray, List.set_cons_zero, List.set_cons_succ]
        refine heldIn_take (i := 9) (v := ?_) (noDefer_of (by kernel_rfl)) (by simp only [List.getElem?_toArray, List.getElem?_cons_succ, List.getElem?_cons_zero]; rfl) (by kernel_rfl) (by kernel_rfl) (by kernel_rfl) (fun _ _ _ h => h) (by rfl) (fun _ _ _ => trivial) (by assumption) ?_ ?_
        rotate_left
        · intro w hSw; (try dsimp only at hSw); go_simp; (try with_reducible rfl)
        try simp only [Act.put, List.setIfInBounds_toArray, List.set_cons_zero, List.set_cons_succ]
        refine heldIn_take (i := 10) (v := ?_) (noDefer_of (by kernel_rfl)) (by simp only [List.getElem?_toArray, List.getElem?_cons_succ, List.getElem?_cons_zero]; rfl) (by kernel_rfl) (by kernel_rfl) (by kernel_rfl) (fun _ _ _ h => h) (by rfl) (fun _ _ _ => trivial) (by assumption) ?_ ?_
        rotate_left
        · intro w hSw; (try dsimp only at hSw); go_simp; (try with_reducible rfl)
        try simp only [Act.put, List.setIfInBounds_toArray, List.set_cons_zero, List.set_cons_succ]
        refine heldIn_two (i := 11) (i' := 12) (by kernel_rfl) (by simp only [List.getElem?_toArray, List.getElem?_cons_succ, List.getElem?_cons_zero]; rfl) (by simp only [List.getElem?_toArray, List.getElem?_cons_succ, List.getElem?_cons_zero]; rfl) (fun K hK => ?_) (fun K hK => ?_)
        · skip
          go_simp
          refine wideR_call ((HCar.out _ hx6).mono ?_)
          rintro e w8 ⟨⟨⟨pa, pn, pc⟩, ⟨ta, tn, tc⟩, nt⟩, rfl, hR8, hx8'⟩
          have hx8 : Ext W₂ w8 := hx6.trans hx8'
          dsimp only [CS.val, KS.val, SliceV.val]
          refine hK.out _ _ ?_ ?_
          · (try dsimp only); exact HSx.out _ (Kp.of_ext hx8)
          clear hK K
          try simp only [Act.put, List.setIfInBounds_toArray, List.set_cons_zero, List.set_cons_succ]
          refine heldIn_one (i := 12) (by kernel_rfl) (by simp only [List.getElem?_toArray, List.getElem?_cons_succ, List.getElem?_cons_zero]; rfl) (fun K hK => ?_)
          go_simp
          refine hK.out _ _ ?_ ?_
          · (try dsimp only); exact HSx.out _ (Kp.of_ext (hx8.alloc _))
          clear hK K
          try simp only [Act.put, List.setIfInBounds_toArray, List.set_cons_zero, List.set_cons_succ]
          have hBz := Blk.new w8 77 #[.int .i64 0, .int .i64 0, .slice none 0 0, .slice none 0 0, .string ⟨#[]⟩, .int .i64 0]
          have hx89 : Ext w8 (w8.alloc (.cells #[.int .i64 0, .int .i64 0, .slice none 0 0, .slice none 0 0, .string ⟨#[]⟩, .int .i64 0] 77)) := (Kp.refl _ _).alloc _
          have hz89 : w8.heap.size < (w8.alloc (.cells #[.int .i64 0, .int .i64 0, .slice none 0 0, .slice none 0 0, .string ⟨#[]⟩, .int .i64 0] 77)).heap.size := by simp
          obtain ⟨w9, hw9⟩ : ∃ w9, w8.alloc (.cells #[.int .i64 0, .int .i64 0, .slice none 0 0, .slice none 0 0, .string ⟨#[]⟩, .int .i64 0] 77) = w9 := ⟨_, rfl⟩
          rw [hw9] at hBz hx89 hz89 ⊢
          have hx9 : Ext W₂ w9 := hx8.trans hx89
          obtain ⟨cb, hcb⟩ : ∃ cb, w8.heap.size = cb := ⟨_, rfl⟩
          have hzz := hx8'.size
          have hR9 : RdC (fun k => w6.heap.size ≤ k ∧ k < w9.heap.size ∧ k ≠ cb) w9 ⟨⟨pa, pn, pc⟩, ⟨ta, tn, tc⟩, nt⟩ cr.merge := (hR8.ext hx89).wide fun k hk => ⟨hk.1, by omega, by omega⟩
          have hcl6 : w6.heap.size ≤ cb := by omega
          have hx69 : Ext w6 w9 := hx8'.trans hx89
          rw [hcb] at hBz ⊢
          have hcbn : ¬ cb < W₂.heap.size := by omega
          clear hw9 hR8 hx89 hz89 hx8' hx8 hcb hzz
          have z0 : w9.cell? ⟨cb, 0, none⟩ = some (.int .i64 0) := hBz.cell 0
          have y0 := hBz.frozen 0
          have z1 : w9.cell? ⟨cb, 1, none⟩ = some (.int .i64 0) := hBz.cell 1
          have y1 := hBz.frozen 1
          have z2 : w9.cell? ⟨cb, 2, none⟩ = some (.slice none 0 0) := hBz.cell 2
          have y2 := hBz.frozen 2
          have z3 : w9.cell? ⟨cb, 3, none⟩ = some (.slice none 0 0) := hBz.cell 3
          have y3 := hBz.frozen 3
          have z4 : w9.cell? ⟨cb, 4, none⟩ = some (.string ⟨#[]⟩) := hBz.cell 4
          have y4 := hBz.frozen 4
          have z5 : w9.cell? ⟨cb, 5, none⟩ = some (.int .i64 0) := hBz.cell 5
          have y5 := hBz.frozen 5
          refine heldIn_one (i := 13) (by kernel_rfl) (by simp only [List.getElem?_toArray, List.getElem?_cons_succ, List.getElem?_cons_zero]; rfl) (fun K hK => ?_)
          go_simp
          refine hK.out _ _ ?_ ?_
          · (try dsimp only); exact HSx.out _ (((((((Kp.of_ext hx9).setCell (.inr hcbn) _).setCell (.inr hcbn) _).setCell (.inr hcbn) _).setCell (.inr hcbn) _).setCell (.inr hcbn) _).setCell (.inr hcbn) _)
          clear hK K
          try simp only [Act.put, List.setIfInBounds_toArray, List.set_cons_zero, List.set_cons_succ]
          refine heldIn_done (by kernel_rfl) ?_ _
          have hCM := CarM.of (W := W₂) (c := cr) (s := ⟨⟨pa, pn, pc⟩, ⟨ta, tn, tc⟩, nt⟩) hx6 hx69 hcl6 hBz hR9
          dsimp only [SliceV.val] at hCM
          generalize ((((((w9.setCell ⟨cb, 0, none⟩ (.int .i64 cr.ent)).setCell ⟨cb, 1, none⟩ (.int .i64 cr.com)).setCell ⟨cb, 2, none⟩ (.slice pa pn pc)).setCell ⟨cb, 3, none⟩ (.slice ta tn tc)).setCell ⟨cb, 4, none⟩ (.string nt)).setCell ⟨cb, 5, none⟩ (.int .i64 cr.code)) = wA at hCM ⊢
          clear z0 z1 z2 z3 z4 z5 y0 y1 y2 y3 y4 y5 hBz hR9 hcl6 hx69 hx9 hHeld2 hx6 hz6
          have hXA := HX2.out.frame (Kp.of_ext hCM.x)
          have b0 : wA.cell? ⟨cb, 0, none⟩ = some (.int .i64 cr.ent) := hCM.b.cell 0
          have b1 : wA.cell? ⟨cb, 1, none⟩ = some (.int .i64 cr.com) := hCM.b.cell 1
          have b2 : wA.cell? ⟨cb, 2, none⟩ = some (.slice pa pn pc) := hCM.b.cell 2
          have b3 : wA.cell? ⟨cb, 3, none⟩ = some (.slice ta tn tc) := hCM.b.cell 3
          have b4 : wA.cell? ⟨cb, 4, none⟩ = some (.string nt) := hCM.b.cell 4
          have b5 : wA.cell? ⟨cb, 5, none⟩ = some (.int .i64 cr.code) := hCM.b.cell 5
          have l0 : wA.cell? ⟨w3.heap.size + 1, 0, none⟩ = some (.slice Al 0 cl) := hXA.l.cell0
          have HCM := Lib.hid hCM
          have HXA := Lib.hid hXA
          have hlb2 : w3.heap.size + 1 < W₂.heap.size := HX2.out.l.lt
          have hcbA := hCM.b.lt
          have hzA := hCM.x.size
          clear hCM hXA
          obtain ⟨cd, hcd⟩ : ∃ cd, cr.code = cd := ⟨_, rfl⟩
          rw [hcd] at b5
          by_cases h7 : cd = 7
          · subst h7
            have hxB : Ext wA (wA.alloc (.cells #[.int .i64 cr.ent, .int .i64 cr.com, .slice pa pn pc, .slice ta tn tc, .string nt, .int .i64 7] 77)) := (Kp.refl _ _).alloc _
            gi_wp2_with (gi_at_builtin; refine stop ?_)
            refine listIn_append (v := .slice Al 0 cl) (u := .slice (some ⟨wA.heap.size, 0, none⟩) 1 1) (xs := rows) (ys := [⟨cr.ent, cr.com, ⟨⟨pa, pn, pc⟩, ⟨ta, tn, tc⟩, nt⟩, 7⟩]) tiCar rfl rfl rfl rfl (HXA.out.o.kp hxB (fun _ _ => trivial)) (Own.made (E := ECar) wA 77 [⟨cr.ent, cr.com, ⟨⟨pa, pn, pc⟩, ⟨ta, tn, tc⟩, nt⟩, 7⟩] (by simp [maxLen])).rd (by have := HLr.out; have := HPl.out; simp at this; simp; omega) (by have := HLr.out; have := HPl.out; simp at this; simp [maxLen]; omega) ?_
            intro v' w' hO hk hb
            obtain ⟨Av, nv, cv, hv'⟩ := hO.slice
            subst hv'
            have hCb := (HCM.out.b.ext hxB).kp hk (fun e => by have := HX2.out.o.lt e; omega)
            have hLb := (HXA.out.l.ext hxB).kp hk HXA.out.ov.2
            have hOb := (((HBoW.out wA HCM.out.x).ext hxB).kp hk HOv.out)
            have m0 : w'.cell? ⟨w3.heap.size + 1, 0, none⟩ = some (.slice Al 0 cl) := hLb.cell0
            have m1 := hLb.frozen 0
            have m2 : w'.cell? ⟨cb, 2, none⟩ = some (.slice pa pn pc) := hCb.cell 2
            have m3 : w'.cell? ⟨cb, 3, none⟩ = some (.slice ta tn tc) := hCb.cell 3
            have m4 : w'.cell? ⟨cb, 4, none⟩ = some (.string nt) := hCb.cell 4
            have m5 : w'.cell? ⟨cb, 5, none⟩ = some (.int .i64 7) := (show w'.cell? ⟨cb, 5, none⟩ = some (.int .i64 cr.code) from hCb.cell 5).trans (by rw [hcd])
            have m6 : w'.cell? ⟨w3.heap.size, 0, none⟩ = some (.pointer (some ⟨ob, 0, none⟩)) := hOb.cell0
            have hcne : cb ≠ w3.heap.size + 1 := by omega
            have hPush := HX2.out.push HHlw.out (by have := hxW2.size; omega) HDb2.out HCM.out hxB (by rw [hcd]; exact hO) hk hb
            obtain ⟨D1, hCW, hS1, hK1, hB1⟩ := hPush
            have HCW := Lib.hid hCW
            have HS1 := Lib.hid hS1
            have HK1 := Lib.hid hK1
            have HB1 := Lib.hid hB1
            have hkb := hk
            have HKb := Lib.hid hkb
            clear hO hk hb hCb hLb hOb hCW hS1 hK1 hB1 hkb b0 b1 b2 b3 b4 b5 l0
            have hkc : Kp (fun k => W₂.heap.size ≤ k ∧ k < wA.heap.size ∧ k ≠ cb) (wA.alloc (.cells #[.int .i64 cr.ent, .int .i64 cr.com, .slice pa pn pc, .slice ta tn tc, .string nt, .int .i64 7] 77)) w' := HKb.out.mono fun k _ hk e => by have := HX2.out.o.lt e; omega
            have hMr := (HCM.out.m.ext hxB).kp (hkc.setCell (p := ⟨w3.heap.size + 1, 0, none⟩) (.inr fun hk => by have := hk.1; dsimp only at this; omega) (.slice Av nv cv))
            obtain ⟨⟨lv1, rows1, J1, Ir1, Dr1, hX1⟩, hlw1⟩ := HCW.out
            have hAd := addR_calls hX1.r ⟨⟨pa, pn, pc⟩, ⟨ta, tn, tc⟩, nt⟩ cr.merge _ hMr (HSm.out hcd) (by have := HPl.out; simp at this; omega) (by omega)
            dsimp only [KS.val, SliceV.val] at hAd
            have HAd := Lib.hid hAd
            have HX1 := Lib.hid hX1
            have HLw1 := Lib.hid hlw1
            clear hAd hMr hX1 hlw1
            gi_wp2_with fail
            refine wideR_call (HAd.out.mono ?_)
            rintro e w13 hP
            have hP' := hP
            obtain ⟨rfl, I13, D13, -, -, -, hk13⟩ := hP'
            have hT13 := HX1.out.t.kp hk13 (fun e => (HX1.out.ad _ e).1 rfl)
            have t0 : w13.cell? ⟨w.heap.size + 1, 0, none⟩ = some (.int .i64 tp) := hT13.cell0
            have t1 := hT13.frozen 0
            obtain ⟨D2, g1, g2, g3, g4⟩ := HX1.out.add (n0 := w.heap.size) (tip' := ((addC M (60 + mm.toNat) cr.merge).2.1 : Int)) HLw1.out (by have := hxW2.size; have := HK1.out.size; omega) HB1.out hP
            have G1 := Lib.hid g1
            have G2 := Lib.hid g2
            have G3 := Lib.hid g3
            have G4 := Lib.hid g4
            have HSz := Lib.hid (And.intro HK1.out.size hk13.size)
            have hstp := HStep.out
            rw [if_pos hcd] at hstp
            have HStp := Lib.hid hstp
            clear g1 g2 g3 g4 hP hk13 hT13 hstp m0 m1 m2 m3 m4 m5 m6
            gi_wp2_with fail
            refine ⟨D2, fun k hk => ?_, ?_, G4.out, _, _, _, HStp.out, G1.out⟩
            · have h1 := HSz.out.1
              have h2 := HSz.out.2
              have h3 := G3.out.size
              rcases G2.out k hk with h | h
              · rcases HS1.out k h with h' | h'
                · exact .inl (.inl h')
                · exact .inr ⟨h'.1, by omega⟩
              · exact .inr ⟨by omega, h.2⟩
            · refine (HK1.out.mono fun k _ hn h => hn (.inl h)).trans' G3.out fun k hk0 hn h => ?_
              rcases HS1.out k h with h' | h'
              · exact hn (.inl h')
              · omega
          · have h7' : (cd == 7) = false := by rw [beq_eq_false_iff_ne]; exact h7
            have hxB : Ext wA (wA.alloc (.cells #[.int .i64 cr.ent, .int .i64 cr.com, .slice pa pn pc, .slice ta tn tc, .string nt, .int .i64 cd] 77)) := (Kp.refl _ _).alloc _
            gi_wp2_with (gi_at_builtin; refine stop ?_)
            refine listIn_append (v := .slice Al 0 cl) (u := .slice (some ⟨wA.heap.size, 0, none⟩) 1 1) (xs := rows) (ys := [⟨cr.ent, cr.com, ⟨⟨pa, pn, pc⟩, ⟨ta, tn, tc⟩, nt⟩, cd⟩]) tiCar rfl rfl rfl rfl (HXA.out.o.kp hxB (fun _ _ => trivial)) (Own.made (E := ECar) wA 77 [⟨cr.ent, cr.com, ⟨⟨pa, pn, pc⟩, ⟨ta, tn, tc⟩, nt⟩, cd⟩] (by simp [maxLen])).rd (by have := HLr.out; have := HPl.out; simp at this; simp; omega) (by have := HLr.out; have := HPl.out; simp at this; simp [maxLen]; omega) ?_
            intro v' w' hO hk hb
            obtain ⟨Av, nv, cv, hv'⟩ := hO.slice
            subst hv'
            have hCb := (HCM.out.b.ext hxB).kp hk (fun e => by have := HX2.out.o.lt e; omega)
            have hLb := (HXA.out.l.ext hxB).kp hk HXA.out.ov.2
            have hOb := (((HBoW.out wA HCM.out.x).ext hxB).kp hk HOv.out)
            have m0 : w'.cell? ⟨w3.heap.size + 1, 0, none⟩ = some (.slice Al 0 cl) := hLb.cell0
            have m1 := hLb.frozen 0
            have m2 : w'.cell? ⟨cb, 2, none⟩ = some (.slice pa pn pc) := hCb.cell 2
            have m3 : w'.cell? ⟨cb, 3, none⟩ = some (.slice ta tn tc) := hCb.cell 3
            have m4 : w'.cell? ⟨cb, 4, none⟩ = some (.string nt) := hCb.cell 4
            have m5 : w'.cell? ⟨cb, 5, none⟩ = some (.int .i64 cd) := (show w'.cell? ⟨cb, 5, none⟩ = some (.int .i64 cr.code) from hCb.cell 5).trans (by rw [hcd])
            have m6 : w'.cell? ⟨w3.heap.size, 0, none⟩ = some (.pointer (some ⟨ob, 0, none⟩)) := hOb.cell0
            have hcne : cb ≠ w3.heap.size + 1 := by omega
            have hPush := HX2.out.push HHlw.out (by have := hxW2.size; omega) HDb2.out HCM.out hxB (by rw [hcd]; exact hO) hk hb
            obtain ⟨D1, hCW, hS1, hK1, hB1⟩ := hPush
            have HCW := Lib.hid hCW
            have HS1 := Lib.hid hS1
            have HK1 := Lib.hid hK1
            have HB1 := Lib.hid hB1
            have hkb := hk
            have HKb := Lib.hid hkb
            clear hO hk hb hCb hLb hOb hCW hS1 hK1 hB1 hkb b0 b1 b2 b3 b4 b5 l0
            have hstp := HStep.out
            rw [if_neg (by rw [hcd]; exact h7), if_pos (show ([] : List Car).isEmpty = true from rfl)] at hstp
            have HStp := Lib.hid hstp
            clear hstp m2 m3 m4 m6
            gi_wp2_with fail
            exact ⟨D1, fun k hk => (HS1.out k hk).imp .inl id, HK1.out.mono fun k _ hn h => hn (.inl h), HB1.out, rfl, _, _, _, HStp.out, _, _, HCW.out⟩
        · skip
          go_simp
          refine hK.out _ _ ?_ ?_
          · (try dsimp only); exact HSx.out _ (Kp.of_ext (hx6.alloc _))
          clear hK K
          try simp only [Act.put, List.setIfInBounds_toArray, List.set_cons_zero, List.set_cons_succ]
          have hBz := Blk.new w6 77 #[.int .i64 0, .int .i64 0, .slice none 0 0, .slice none 0 0, .string ⟨#[]⟩, .int .i64 0]
          have hx67 : Ext w6 (w6.alloc (.cells #[.int .i64 0, .int .i64 0, .slice none 0 0, .slice none 0 0, .string ⟨#[]⟩, .int .i64 0] 77)) := (Kp.refl _ _).alloc _
          have hz67 : w6.heap.size < (w6.alloc (.cells #[.int .i64 0, .int .i64 0, .slice none 0 0, .slice none 0 0, .string ⟨#[]⟩, .int .i64 0] 77)).heap.size := by simp
          obtain ⟨w7, hw7⟩ : ∃ w7, w6.alloc (.cells #[.int .i64 0, .int .i64 0, .slice none 0 0, .slice none 0 0, .string ⟨#[]⟩, .int .i64 0] 77) = w7 := ⟨_, rfl⟩
          rw [hw7] at hBz hx67 hz67 ⊢
          have hx7 : Ext W₂ w7 := hx6.trans hx67
          have hHeld7 : (fun W => W.cell? ⟨w3.heap.size, 0, none⟩ = some (.pointer (some ⟨ob, 0, none⟩)) ∧ W.cell? ⟨w.heap.size + 1, 0, none⟩ = some (.int .i64 tp) ∧ W.cell? ⟨Wr.heap.size, 0, none⟩ = some (.int .i64 cr.ent) ∧ W.cell? ⟨Wr.heap.size, 1, none⟩ = some (.int .i64 cr.com) ∧ W.cell? ⟨Wr.heap.size, 2, none⟩ = some (.int .i64 lane) ∧ W.cell? ⟨Wr.heap.size, 3, none⟩ = some (.int .i64 code) ∧ W.cell? ⟨w3.heap.size + 1, 0, none⟩ = some (.slice Al 0 cl) ∧ W.cell? ⟨w.heap.size, 0, none⟩ = some (.pointer (some ⟨rb, 0, none⟩))) w7 := HSx.out _ (Kp.of_ext hx7)
          clear hw7
          refine heldIn_one (i := 11) (by kernel_rfl) (by simp only [List.getElem?_toArray, List.getElem?_cons_succ, List.getElem?_cons_zero]; rfl) (fun K hK => ?_)
          go_simp
          refine wideR_call ((HCar.out _ hx7).mono ?_)
          rintro e w8 ⟨⟨⟨pa, pn, pc⟩, ⟨ta, tn, tc⟩, nt⟩, rfl, hR8, hx8'⟩
          have hx8 : Ext W₂ w8 := hx7.trans hx8'
          dsimp only [CS.val, KS.val, SliceV.val]
          refine hK.out _ _ ?_ ?_
          · (try dsimp only); exact HSx.out _ (Kp.of_ext hx8)
          clear hK K
          try simp only [Act.put, List.setIfInBounds_toArray, List.set_cons_zero, List.set_cons_succ]
          have hBz9 := hBz.ext hx8'
          obtain ⟨cb, hcb⟩ : ∃ cb, w6.heap.size = cb := ⟨_, rfl⟩
          have hzz := hx8'.size
          have hR9 : RdC (fun k => w6.heap.size ≤ k ∧ k < w8.heap.size ∧ k ≠ cb) w8 ⟨⟨pa, pn, pc⟩, ⟨ta, tn, tc⟩, nt⟩ cr.merge := hR8.wide fun k hk => ⟨by omega, hk.2, by omega⟩
          have hcl6 : w6.heap.size ≤ cb := by omega
          have hx69 : Ext w6 w8 := hx67.trans hx8'
          rw [hcb] at hBz9 ⊢
          have hcbn : ¬ cb < W₂.heap.size := by omega
          have hx9 := hx8
          clear hR8 hx8' hx8 hcb hzz hBz hx67 hz67
          have hBz := hBz9
          clear hBz9
          obtain ⟨w9, hw9⟩ : ∃ w9, w8 = w9 := ⟨_, rfl⟩
          rw [hw9] at hBz hR9 hx69 hx9 ⊢
          clear hw9
          have z0 : w9.cell? ⟨cb, 0, none⟩ = some (.int .i64 0) := hBz.cell 0
          have y0 := hBz.frozen 0
          have z1 : w9.cell? ⟨cb, 1, none⟩ = some (.int .i64 0) := hBz.cell 1
          have y1 := hBz.frozen 1
          have z2 : w9.cell? ⟨cb, 2, none⟩ = some (.slice none 0 0) := hBz.cell 2
          have y2 := hBz.frozen 2
          have z3 : w9.cell? ⟨cb, 3, none⟩ = some (.slice none 0 0) := hBz.cell 3
          have y3 := hBz.frozen 3
          have z4 : w9.cell? ⟨cb, 4, none⟩ = some (.string ⟨#[]⟩) := hBz.cell 4
          have y4 := hBz.frozen 4
          have z5 : w9.cell? ⟨cb, 5, none⟩ = some (.int .i64 0) := hBz.cell 5
          have y5 := hBz.frozen 5
          refine heldIn_one (i := 13) (by kernel_rfl) (by simp only [List.getElem?_toArray, List.getElem?_cons_succ, List.getElem?_cons_zero]; rfl) (fun K hK => ?_)
          go_simp
          refine hK.out _ _ ?_ ?_
          · (try dsimp only); exact HSx.out _ (((((((Kp.of_ext hx9).setCell (.inr hcbn) _).setCell (.inr hcbn) _).setCell (.inr hcbn) _).setCell (.inr hcbn) _).setCell (.inr hcbn) _).setCell (.inr hcbn) _)
          clear hK K
          try simp only [Act.put, List.setIfInBounds_toArray, List.set_cons_zero, List.set_cons_succ]
          refine heldIn_done (by kernel_rfl) ?_ _
          have hCM := CarM.of (W := W₂) (c := cr) (s := ⟨⟨pa, pn, pc⟩, ⟨ta, tn, tc⟩, nt⟩) hx6 hx69 hcl6 hBz hR9
          dsimp only [SliceV.val] at hCM
          generalize ((((((w9.setCell ⟨cb, 0, none⟩ (.int .i64 cr.ent)).setCell ⟨cb, 1, none⟩ (.int .i64 cr.com)).setCell ⟨cb, 2, none⟩ (.slice pa pn pc)).setCell ⟨cb, 3, none⟩ (.slice ta tn tc)).setCell ⟨cb, 4, none⟩ (.string nt)).setCell ⟨cb, 5, none⟩ (.int .i64 cr.code)) = wA at hCM ⊢
          clear z0 z1 z2 z3 z4 z5 y0 y1 y2 y3 y4 y5 hBz hR9 hcl6 hx69 hx9 hHeld2 hx6 hz6
          have hXA := HX2.out.frame (Kp.of_ext hCM.x)
          have b0 : wA.cell? ⟨cb, 0, none⟩ = some (.int .i64 cr.ent) := hCM.b.cell 0
          have b1 : wA.cell? ⟨cb, 1, none⟩ = some (.int .i64 cr.com) := hCM.b.cell 1
          have b2 : wA.cell? ⟨cb, 2, none⟩ = some (.slice pa pn pc) := hCM.b.cell 2
          have b3 : wA.cell? ⟨cb, 3, none⟩ = some (.slice ta tn tc) := hCM.b.cell 3
          have b4 : wA.cell? ⟨cb, 4, none⟩ = some (.string nt) := hCM.b.cell 4
          have b5 : wA.cell? ⟨cb, 5, none⟩ = some (.int .i64 cr.code) := hCM.b.cell 5
          have l0 : wA.cell? ⟨w3.heap.size + 1, 0, none⟩ = some (.slice Al 0 cl) := hXA.l.cell0
          have HCM := Lib.hid hCM
          have HXA := Lib.hid hXA
          have hlb2 : w3.heap.size + 1 < W₂.heap.size := HX2.out.l.lt
          have hcbA := hCM.b.lt
          have hzA := hCM.x.size
          clear hCM hXA
          obtain ⟨cd, hcd⟩ : ∃ cd, cr.code = cd := ⟨_, rfl⟩
          rw [hcd] at b5
          by_cases h7 : cd = 7
          · subst h7
            have hxB : Ext wA (wA.alloc (.cells #[.int .i64 cr.ent, .int .i64 cr.com, .slice pa pn pc, .slice ta tn tc, .string nt, .int .i64 7] 77)) := (Kp.refl _ _).alloc _
            gi_wp2_with (gi_at_builtin; refine stop ?_)
            refine listIn_append (v := .slice Al 0 cl) (u := .slice (some ⟨wA.heap.size, 0, none⟩) 1 1) (xs := rows) (ys := [⟨cr.ent, cr.com, ⟨⟨pa, pn, pc⟩, ⟨ta, tn, tc⟩, nt⟩, 7⟩]) tiCar rfl rfl rfl rfl (HXA.out.o.kp hxB (fun _ _ => trivial)) (Own.made (E := ECar) wA 77 [⟨cr.ent, cr.com, ⟨⟨pa, pn, pc⟩, ⟨ta, tn, tc⟩, nt⟩, 7⟩] (by simp [maxLen])).rd (by have := HLr.out; have := HPl.out; simp at this; simp; omega) (by have := HLr.out; have := HPl.out; simp at this; simp [maxLen]; omega) ?_
            intro v' w' hO hk hb
            obtain ⟨Av, nv, cv, hv'⟩ := hO.slice
            subst hv'
            have hCb := (HCM.out.b.ext hxB).kp hk (fun e => by have := HX2.out.o.lt e; omega)
            have hLb := (HXA.out.l.ext hxB).kp hk HXA.out.ov.2
            have hOb := (((HBoW.out wA HCM.out.x).ext hxB).kp hk HOv.out)
            have m0 : w'.cell? ⟨w3.heap.size + 1, 0, none⟩ = some (.slice Al 0 cl) := hLb.cell0
            have m1 := hLb.frozen 0
            have m2 : w'.cell? ⟨cb, 2, none⟩ = some (.slice pa pn pc) := hCb.cell 2
            have m3 : w'.cell? ⟨cb, 3, none⟩ = some (.slice ta tn tc) := hCb.cell 3
            have m4 : w'.cell? ⟨cb, 4, none⟩ = some (.string nt) := hCb.cell 4
            have m5 : w'.cell? ⟨cb, 5, none⟩ = some (.int .i64 7) := (show w'.cell? ⟨cb, 5, none⟩ = some (.int .i64 cr.code) from hCb.cell 5).trans (by rw [hcd])
            have m6 : w'.cell? ⟨w3.heap.size, 0, none⟩ = some (.pointer (some ⟨ob, 0, none⟩)) := hOb.cell0
            have hcne : cb ≠ w3.heap.size + 1 := by omega
            have hPush := HX2.out.push HHlw.out (by have := hxW2.size; omega) HDb2.out HCM.out hxB (by rw [hcd]; exact hO) hk hb
            obtain ⟨D1, hCW, hS1, hK1, hB1⟩ := hPush
            have HCW := Lib.hid hCW
            have HS1 := Lib.hid hS1
            have HK1 := Lib.hid hK1
            have HB1 := Lib.hid hB1
            have hkb := hk
            have HKb := Lib.hid hkb
            clear hO hk hb hCb hLb hOb hCW hS1 hK1 hB1 hkb b0 b1 b2 b3 b4 b5 l0
            have hkc : Kp (fun k => W₂.heap.size ≤ k ∧ k < wA.heap.size ∧ k ≠ cb) (wA.alloc (.cells #[.int .i64 cr.ent, .int .i64 cr.com, .slice pa pn pc, .slice ta tn tc, .string nt, .int .i64 7] 77)) w' := HKb.out.mono fun k _ hk e => by have := HX2.out.o.lt e; omega
            have hMr := (HCM.out.m.ext hxB).kp (hkc.setCell (p := ⟨w3.heap.size + 1, 0, none⟩) (.inr fun hk => by have := hk.1; dsimp only at this; omega) (.slice Av nv cv))
            obtain ⟨⟨lv1, rows1, J1, Ir1, Dr1, hX1⟩, hlw1⟩ := HCW.out
            have hAd := addR_calls hX1.r ⟨⟨pa, pn, pc⟩, ⟨ta, tn, tc⟩, nt⟩ cr.merge _ hMr (HSm.out hcd) (by have := HPl.out; simp at this; omega) (by omega)
            dsimp only [KS.val, SliceV.val] at hAd
            have HAd := Lib.hid hAd
            have HX1 := Lib.hid hX1
            have HLw1 := Lib.hid hlw1
            clear hAd hMr hX1 hlw1
            gi_wp2_with fail
            refine wideR_call (HAd.out.mono ?_)
            rintro e w13 hP
            have hP' := hP
            obtain ⟨rfl, I13, D13, -, -, -, hk13⟩ := hP'
            have hT13 := HX1.out.t.kp hk13 (fun e => (HX1.out.ad _ e).1 rfl)
            have t0 : w13.cell? ⟨w.heap.size + 1, 0, none⟩ = some (.int .i64 tp) := hT13.cell0
            have t1 := hT13.frozen 0
            obtain ⟨D2, g1, g2, g3, g4⟩ := HX1.out.add (n0 := w.heap.size) (tip' := ((addC M (60 + mm.toNat) cr.merge).2.1 : Int)) HLw1.out (by have := hxW2.size; have := HK1.out.size; omega) HB1.out hP
            have G1 := Lib.hid g1
            have G2 := Lib.hid g2
            have G3 := Lib.hid g3
            have G4 := Lib.hid g4
            have HSz := Lib.hid (And.intro HK1.out.size hk13.size)
            have hstp := HStep.out
            rw [if_pos hcd] at hstp
            have HStp := Lib.hid hstp
            clear g1 g2 g3 g4 hP hk13 hT13 hstp m0 m1 m2 m3 m4 m5 m6
            gi_wp2_with fail
            refine ⟨D2, fun k hk => ?_, ?_, G4.out, _, _, _, HStp.out, G1.out⟩
            · have h1 := HSz.out.1
              have h2 := HSz.out.2
              have h3 := G3.out.size
              rcases G2.out k hk with h | h
              · rcases HS1.out k h with h' | h'
                · exact .inl (.inl h')
                · exact .inr ⟨h'.1, by omega⟩
              · exact .inr ⟨by omega, h.2⟩
            · refine (HK1.out.mono fun k _ hn h => hn (.inl h)).trans' G3.out fun k hk0 hn h => ?_
              rcases HS1.out k h with h' | h'
              · exact hn (.inl h')
              · omega
          · have h7' : (cd == 7) = false := by rw [beq_eq_false_iff_ne]; exact h7
            have hxB : Ext wA (wA.alloc (.cells #[.int .i64 cr.ent, .int .i64 cr.com, .slice pa pn pc, .slice ta tn tc, .string nt, .int .i64 cd] 77)) := (Kp.refl _ _).alloc _
            gi_wp2_with (gi_at_builtin; refine stop ?_)
            refine listIn_append (v := .slice Al 0 cl) (u := .slice (some ⟨wA.heap.size, 0, none⟩) 1 1) (xs := rows) (ys := [⟨cr.ent, cr.com, ⟨⟨pa, pn, pc⟩, ⟨ta, tn, tc⟩, nt⟩, cd⟩]) tiCar rfl rfl rfl rfl (HXA.out.o.kp hxB (fun _ _ => trivial)) (Own.made (E := ECar) wA 77 [⟨cr.ent, cr.com, ⟨⟨pa, pn, pc⟩, ⟨ta, tn, tc⟩, nt⟩, cd⟩] (by simp [maxLen])).rd (by have := HLr.out; have := HPl.out; simp at this; simp; omega) (by have := HLr.out; have := HPl.out; simp at this; simp [maxLen]; omega) ?_
            intro v' w' hO hk hb
            obtain ⟨Av, nv, cv, hv'⟩ := hO.slice
            subst hv'
            have hCb := (HCM.out.b.ext hxB).kp hk (fun e => by have := HX2.out.o.lt e; omega)
            have hLb := (HXA.out.l.ext hxB).kp hk HXA.out.ov.2
            have hOb := (((HBoW.out wA HCM.out.x).ext hxB).kp hk HOv.out)
            have m0 : w'.cell? ⟨w3.heap.size + 1, 0, none⟩ = some (.slice Al 0 cl) := hLb.cell0
            have m1 := hLb.frozen 0
            have m2 : w'.cell? ⟨cb, 2, none⟩ = some (.slice pa pn pc) := hCb.cell 2
            have m3 : w'.cell? ⟨cb, 3, none⟩ = some (.slice ta tn tc) := hCb.cell 3
            have m4 : w'.cell? ⟨cb, 4, none⟩ = some (.string nt) := hCb.cell 4
            have m5 : w'.cell? ⟨cb, 5, none⟩ = some (.int .i64 cd) := (show w'.cell? ⟨cb, 5, none⟩ = some (.int .i64 cr.code) from hCb.cell 5).trans (by rw [hcd])
            have m6 : w'.cell? ⟨w3.heap.size, 0, none⟩ = some (.pointer (some ⟨ob, 0, none⟩)) := hOb.cell0
            have hcne : cb ≠ w3.heap.size + 1 := by omega
            have hPush := HX2.out.push HHlw.out (by have := hxW2.size; omega) HDb2.out HCM.out hxB (by rw [hcd]; exact hO) hk hb
            obtain ⟨D1, hCW, hS1, hK1, hB1⟩ := hPush
            have HCW := Lib.hid hCW
            have HS1 := Lib.hid hS1
            have HK1 := Lib.hid hK1
            have HB1 := Lib.hid hB1
            have hkb := hk
            have HKb := Lib.hid hkb
            clear hO hk hb hCb hLb hOb hCW hS1 hK1 hB1 hkb b0 b1 b2 b3 b4 b5 l0
            have hstp := HStep.out
            rw [if_neg (by rw [hcd]; exact h7), if_pos (show ([] : List Car).isEmpty = true from rfl)] at hstp
            have HStp := Lib.hid hstp
            clear hstp m2 m3 m4 m6
            gi_wp2_with fail
            exact ⟨D1, fun k hk => (HS1.out k hk).imp .inl id, HK1.out.mono fun k _ hn h => hn (.inl h), HB1.out, rfl, _, _, _, HStp.out, _, _, HCW.out⟩
      · skip
        go_simp
        refine hK.out _ _ ?_ ?_
        · (try dsimp only); exact HSx.out _ (Kp.of_ext (hx6.alloc _))
        clear hK K
        try simp only [Act.put, List.setIfInBounds_toArray, List.set_cons_zero, List.set_cons_succ]
        have hBz := Blk.new w6 77 #[.int .i64 0, .int .i64 0, .slice none 0 0, .slice none 0 0, .string ⟨#[]⟩, .int .i64 0]
        have hx67 : Ext w6 (w6.alloc (.cells #[.int .i64 0, .int .i64 0, .slice none 0 0, .slice none 0 0, .string ⟨#[]⟩, .int .i64 0] 77)) := (Kp.refl _ _).alloc _
        have hz67 : w6.heap.size < (w6.alloc (.cells #[.int .i64 0, .int .i64 0, .slice none 0 0, .slice none 0 0, .string ⟨#[]⟩, .int .i64 0] 77)).heap.size := by simp
        obtain ⟨w7, hw7⟩ : ∃ w7, w6.alloc (.cells #[.int .i64 0, .int .i64 0, .slice none 0 0, .slice none 0 0, .string ⟨#[]⟩, .int .i64 0] 77) = w7 := ⟨_, rfl⟩
        rw [hw7] at hBz hx67 hz67 ⊢
        have hx7 : Ext W₂ w7 := hx6.trans hx67
        have hHeld7 : (fun W => W.cell? ⟨w3.heap.size, 0, none⟩ = some (.pointer (some ⟨ob, 0, none⟩)) ∧ W.cell? ⟨w.heap.size + 1, 0, none⟩ = some (.int .i64 tp) ∧ W.cell? ⟨Wr.heap.size, 0, none⟩ = some (.int .i64 cr.ent) ∧ W.cell? ⟨Wr.heap.size, 1, none⟩ = some (.int .i64 cr.com) ∧ W.cell? ⟨Wr.heap.size, 2, none⟩ = some (.int .i64 lane) ∧ W.cell? ⟨Wr.heap.size, 3, none⟩ = some (.int .i64 code) ∧ W.cell? ⟨w3.heap.size + 1, 0, none⟩ = some (.slice Al 0 cl) ∧ W.cell? ⟨w.heap.size, 0, none⟩ = some (.pointer (some ⟨rb, 0, none⟩))) w7 := HSx.out _ (Kp.of_ext hx7)
        clear hw7
        refine heldIn_one (i := 8) (by kernel_rfl) (by simp only [List.getElem?_toArray, List.getElem?_cons_succ, List.getElem?_cons_zero]; rfl) (fun K hK => ?_)
        go_simp
        refine wideR_call ((HLnW.out _ hx7).mono ?_)
        rintro e w' ⟨rfl, rfl⟩
        refine hK.out _ _ ?_ ?_
        · (try dsimp only); exact HSx.out _ (Kp.of_ext hx7)
        clear hK K
        try simp only [Act.put, List.setIfInBounds_toArray, List.set_cons_zero, List.set_cons_succ]
        refine heldIn_take (i := 9) (v := ?_) (noDefer_of (by kernel_rfl)) (by simp only [List.getElem?_toArray, List.getElem?_cons_succ, List.getElem?_cons_zero]; rfl) (by kernel_rfl) (by kernel_rfl) (by kernel_rfl) (fun _ _ _ h => h) (by rfl) (fun _ _ _ => trivial) (by assumption) ?_ ?_
        rotate_left
        · intro w hSw; (try dsimp only at hSw); go_simp; (try with_reducible rfl)
        try simp only [Act.put, List.setIfInBounds_toArray, List.set_cons_zero, List.set_cons_succ]
        refine heldIn_take (i := 10) (v := ?_) (noDefer_of (by kernel_rfl)) (by simp only [List.getElem?_toArray, List.getElem?_cons_succ, List.getElem?_cons_zero]; rfl) (by kernel_rfl) (by kernel_rfl) (by kernel_rfl) (fun _ _ _ h => h) (by rfl) (fun _ _ _ => trivial) (by assumption) ?_ ?_
        rotate_left
        · intro w hSw; (try dsimp only at hSw); go_simp; (try with_reducible rfl)
        try simp only [Act.put, List.setIfInBounds_toArray, List.set_cons_zero, List.set_cons_succ]
        refine heldIn_one (i := 11) (by kernel_rfl) (by simp only [List.getElem?_toArray, List.getElem?_cons_succ, List.getElem?_cons_zero]; rfl) (fun K hK => ?_)
        go_simp
        refine wideR_call ((HCar.out _ hx7).mono ?_)
        rintro e w8 ⟨⟨⟨pa, pn, pc⟩, ⟨ta, tn, tc⟩, nt⟩, rfl, hR8, hx8'⟩
        have hx8 : Ext W₂ w8 := hx7.trans hx8'
        dsimp only [CS.val, KS.val, SliceV.val]
        refine hK.out _ _ ?_ ?_
        · (try dsimp only); exact HSx.out _ (Kp.of_ext hx8)
        clear hK K
        try simp only [Act.put, List.setIfInBounds_toArray, List.set_cons_zero, List.set_cons_succ]
        have hBz9 := hBz.ext hx8'
        obtain ⟨cb, hcb⟩ : ∃ cb, w6.heap.size = cb := ⟨_, rfl⟩
        have hzz := hx8'.size
        have hR9 : RdC (fun k => w6.heap.size ≤ k ∧ k < w8.heap.size ∧ k ≠ cb) w8 ⟨⟨pa, pn, pc⟩, ⟨ta, tn, tc⟩, nt⟩ cr.merge := hR8.wide fun k hk => ⟨by omega, hk.2, by omega⟩
        have hcl6 : w6.heap.size ≤ cb := by omega
        have hx69 : Ext w6 w8 := hx67.trans hx8'
        rw [hcb] at hBz9 ⊢
        have hcbn : ¬ cb < W₂.heap.size := by omega
        have hx9 := hx8
        clear hR8 hx8' hx8 hcb hzz hBz hx67 hz67
        have hBz := hBz9
        clear hBz9
        obtain ⟨w9, hw9⟩ : ∃ w9, w8 = w9 := ⟨_, rfl⟩
        rw [hw9] at hBz hR9 hx69 hx9 ⊢
        clear hw9
        have z0 : w9.cell? ⟨cb, 0, none⟩ = some (.int .i64 0) := hBz.cell 0
        have y0 := hBz.frozen 0
        have z1 : w9.cell? ⟨cb, 1, none⟩ = some (.int .i64 0) := hBz.cell 1
        have y1 := hBz.frozen 1
        have z2 : w9.cell? ⟨cb, 2, none⟩ = some (.slice none 0 0) := hBz.cell 2
        have y2 := hBz.frozen 2
        have z3 : w9.cell? ⟨cb, 3, none⟩ = some (.slice none 0 0) := hBz.cell 3
        have y3 := hBz.frozen 3
        have z4 : w9.cell? ⟨cb, 4, none⟩ = some (.string ⟨#[]⟩) := hBz.cell 4
        have y4 := hBz.frozen 4
        have z5 : w9.cell? ⟨cb, 5, none⟩ = some (.int .i64 0) := hBz.cell 5
        have y5 := hBz.frozen 5
        refine heldIn_one (i := 13) (by kernel_rfl) (by simp only [List.getElem?_toArray, List.getElem?_cons_succ, List.getElem?_cons_zero]; rfl) (fun K hK => ?_)
        go_simp
        refine hK.out _ _ ?_ ?_
        · (try dsimp only); exact HSx.out _ (((((((Kp.of_ext hx9).setCell (.inr hcbn) _).setCell (.inr hcbn) _).setCell (.inr hcbn) _).setCell (.inr hcbn) _).setCell (.inr hcbn) _).setCell (.inr hcbn) _)
        clear hK K
        try simp only [Act.put, List.setIfInBounds_toArray, List.set_cons_zero, List.set_cons_succ]
        refine heldIn_done (by kernel_rfl) ?_ _
        have hCM := CarM.of (W := W₂) (c := cr) (s := ⟨⟨pa, pn, pc⟩, ⟨ta, tn, tc⟩, nt⟩) hx6 hx69 hcl6 hBz hR9
        dsimp only [SliceV.val] at hCM
        generalize ((((((w9.setCell ⟨cb, 0, none⟩ (.int .i64 cr.ent)).setCell ⟨cb, 1, none⟩ (.int .i64 cr.com)).setCell ⟨cb, 2, none⟩ (.slice pa pn pc)).setCell ⟨cb, 3, none⟩ (.slice ta tn tc)).setCell ⟨cb, 4, none⟩ (.string nt)).setCell ⟨cb, 5, none⟩ (.int .i64 cr.code)) = wA at hCM ⊢
        clear z0 z1 z2 z3 z4 z5 y0 y1 y2 y3 y4 y5 hBz hR9 hcl6 hx69 hx9 hHeld2 hx6 hz6
        have hXA := HX2.out.frame (Kp.of_ext hCM.x)
        have b0 : wA.cell? ⟨cb, 0, none⟩ = some (.int .i64 cr.ent) := hCM.b.cell 0
        have b1 : wA.cell? ⟨cb, 1, none⟩ = some (.int .i64 cr.com) := hCM.b.cell 1
        have b2 : wA.cell? ⟨cb, 2, none⟩ = some (.slice pa pn pc) := hCM.b.cell 2
        have b3 : wA.cell? ⟨cb, 3, none⟩ = some (.slice ta tn tc) := hCM.b.cell 3
        have b4 : wA.cell? ⟨cb, 4, none⟩ = some (.string nt) := hCM.b.cell 4
        have b5 : wA.cell? ⟨cb, 5, none⟩ = some (.int .i64 cr.code) := hCM.b.cell 5
        have l0 : wA.cell? ⟨w3.heap.size + 1, 0, none⟩ = some (.slice Al 0 cl) := hXA.l.cell0
        have HCM := Lib.hid hCM
        have HXA := Lib.hid hXA
        have hlb2 : w3.heap.size + 1 < W₂.heap.size := HX2.out.l.lt
        have hcbA := hCM.b.lt
        have hzA := hCM.x.size
        clear hCM hXA
        obtain ⟨cd, hcd⟩ : ∃ cd, cr.code = cd := ⟨_, rfl⟩
        rw [hcd] at b5
        by_cases h7 : cd = 7
        · subst h7
          have hxB : Ext wA (wA.alloc (.cells #[.int .i64 cr.ent, .int .i64 cr.com, .slice pa pn pc, .slice ta tn tc, .string nt, .int .i64 7] 77)) := (Kp.refl _ _).alloc _
          gi_wp2_with (gi_at_builtin; refine stop ?_)
          refine listIn_append (v := .slice Al 0 cl) (u := .slice (some ⟨wA.heap.size, 0, none⟩) 1 1) (xs := rows) (ys := [⟨cr.ent, cr.com, ⟨⟨pa, pn, pc⟩, ⟨ta, tn, tc⟩, nt⟩, 7⟩]) tiCar rfl rfl rfl rfl (HXA.out.o.kp hxB (fun _ _ => trivial)) (Own.made (E := ECar) wA 77 [⟨cr.ent, cr.com, ⟨⟨pa, pn, pc⟩, ⟨ta, tn, tc⟩, nt⟩, 7⟩] (by simp [maxLen])).rd (by have := HLr.out; have := HPl.out; simp at this; simp; omega) (by have := HLr.out; have := HPl.out; simp at this; simp [maxLen]; omega) ?_
          intro v' w' hO hk hb
          obtain ⟨Av, nv, cv, hv'⟩ := hO.slice
          subst hv'
          have hCb := (HCM.out.b.ext hxB).kp hk (fun e => by have := HX2.out.o.lt e; omega)
          have hLb := (HXA.out.l.ext hxB).kp hk HXA.out.ov.2
          have hOb := (((HBoW.out wA HCM.out.x).ext hxB).kp hk HOv.out)
          have m0 : w'.cell? ⟨w3.heap.size + 1, 0, none⟩ = some (.slice Al 0 cl) := hLb.cell0
          have m1 := hLb.frozen 0
          have m2 : w'.cell? ⟨cb, 2, none⟩ = some (.slice pa pn pc) := hCb.cell 2
          have m3 : w'.cell? ⟨cb, 3, none⟩ = some (.slice ta tn tc) := hCb.cell 3
          have m4 : w'.cell? ⟨cb, 4, none⟩ = some (.string nt) := hCb.cell 4
          have m5 : w'.cell? ⟨cb, 5, none⟩ = some (.int .i64 7) := (show w'.cell? ⟨cb, 5, none⟩ = some (.int .i64 cr.code) from hCb.cell 5).trans (by rw [hcd])
          have m6 : w'.cell? ⟨w3.heap.size, 0, none⟩ = some (.pointer (some ⟨ob, 0, none⟩)) := hOb.cell0
          have hcne : cb ≠ w3.heap.size + 1 := by omega
          have hPush := HX2.out.push HHlw.out (by have := hxW2.size; omega) HDb2.out HCM.out hxB (by rw [hcd]; exact hO) hk hb
          obtain ⟨D1, hCW, hS1, hK1, hB1⟩ := hPush
          have HCW := Lib.hid hCW
          have HS1 := Lib.hid hS1
          have HK1 := Lib.hid hK1
          have HB1 := Lib.hid hB1
          have hkb := hk
          have HKb := Lib.hid hkb
          clear hO hk hb hCb hLb hOb hCW hS1 hK1 hB1 hkb b0 b1 b2 b3 b4 b5 l0
          have hkc : Kp (fun k => W₂.heap.size ≤ k ∧ k < wA.heap.size ∧ k ≠ cb) (wA.alloc (.cells #[.int .i64 cr.ent, .int .i64 cr.com, .slice pa pn pc, .slice ta tn tc, .string nt, .int .i64 7] 77)) w' := HKb.out.mono fun k _ hk e => by have := HX2.out.o.lt e; omega
          have hMr := (HCM.out.m.ext hxB).kp (hkc.setCell (p := ⟨w3.heap.size + 1, 0, none⟩) (.inr fun hk => by have := hk.1; dsimp only at this; omega) (.slice Av nv cv))
          obtain ⟨⟨lv1, rows1, J1, Ir1, Dr1, hX1⟩, hlw1⟩ := HCW.out
          have hAd := addR_calls hX1.r ⟨⟨pa, pn, pc⟩, ⟨ta, tn, tc⟩, nt⟩ cr.merge _ hMr (HSm.out hcd) (by have := HPl.out; simp at this; omega) (by omega)
          dsimp only [KS.val, SliceV.val] at hAd
          have HAd := Lib.hid hAd
          have HX1 := Lib.hid hX1
          have HLw1 := Lib.hid hlw1
          clear hAd hMr hX1 hlw1
          gi_wp2_with fail
          refine wideR_call (HAd.out.mono ?_)
          rintro e w13 hP
          have hP' := hP
          obtain ⟨rfl, I13, D13, -, -, -, hk13⟩ := hP'
          have hT13 := HX1.out.t.kp hk13 (fun e => (HX1.out.ad _ e).1 rfl)
          have t0 : w13.cell? ⟨w.heap.size + 1, 0, none⟩ = some (.int .i64 tp) := hT13.cell0
          have t1 := hT13.frozen 0
          obtain ⟨D2, g1, g2, g3, g4⟩ := HX1.out.add (n0 := w.heap.size) (tip' := ((addC M (60 + mm.toNat) cr.merge).2.1 : Int)) HLw1.out (by have := hxW2.size; have := HK1.out.size; omega) HB1.out hP
          have G1 := Lib.hid g1
          have G2 := Lib.hid g2
          have G3 := Lib.hid g3
          have G4 := Lib.hid g4
          have HSz := Lib.hid (And.intro HK1.out.size hk13.size)
          have hstp := HStep.out
          rw [if_pos hcd] at hstp
          have HStp := Lib.hid hstp
          clear g1 g2 g3 g4 hP hk13 hT13 hstp m0 m1 m2 m3 m4 m5 m6
          gi_wp2_with fail
          refine ⟨D2, fun k hk => ?_, ?_, G4.out, _, _, _, HStp.out, G1.out⟩
          · have h1 := HSz.out.1
            have h2 := HSz.out.2
            have h3 := G3.out.size
            rcases G2.out k hk with h | h
            · rcases HS1.out k h with h' | h'
              · exact .inl (.inl h')
              · exact .inr ⟨h'.1, by omega⟩
            · exact .inr ⟨by omega, h.2⟩
          · refine (HK1.out.mono fun k _ hn h => hn (.inl h)).trans' G3.out fun k hk0 hn h => ?_
            rcases HS1.out k h with h' | h'
            · exact hn (.inl h')
            · omega
        · have h7' : (cd == 7) = false := by rw [beq_eq_false_iff_ne]; exact h7
          have hxB : Ext wA (wA.alloc (.cells #[.int .i64 cr.ent, .int .i64 cr.com, .slice pa pn pc, .slice ta tn tc, .string nt, .int .i64 cd] 77)) := (Kp.refl _ _).alloc _
          gi_wp2_with (gi_at_builtin; refine stop ?_)
          refine listIn_append (v := .slice Al 0 cl) (u := .slice (some ⟨wA.heap.size, 0, none⟩) 1 1) (xs := rows) (ys := [⟨cr.ent, cr.com, ⟨⟨pa, pn, pc⟩, ⟨ta, tn, tc⟩, nt⟩, cd⟩]) tiCar rfl rfl rfl rfl (HXA.out.o.kp hxB (fun _ _ => trivial)) (Own.made (E := ECar) wA 77 [⟨cr.ent, cr.com, ⟨⟨pa, pn, pc⟩, ⟨ta, tn, tc⟩, nt⟩, cd⟩] (by simp [maxLen])).rd (by have := HLr.out; have := HPl.out; simp at this; simp; omega) (by have := HLr.out; have := HPl.out; simp at this; simp [maxLen]; omega) ?_
          intro v' w' hO hk hb
          obtain ⟨Av, nv, cv, hv'⟩ := hO.slice
          subst hv'
          have hCb := (HCM.out.b.ext hxB).kp hk (fun e => by have := HX2.out.o.lt e; omega)
          have hLb := (HXA.out.l.ext hxB).kp hk HXA.out.ov.2
          have hOb := (((HBoW.out wA HCM.out.x).ext hxB).kp hk HOv.out)
          have m0 : w'.cell? ⟨w3.heap.size + 1, 0, none⟩ = some (.slice Al 0 cl) := hLb.cell0
          have m1 := hLb.frozen 0
          have m2 : w'.cell? ⟨cb, 2, none⟩ = some (.slice pa pn pc) := hCb.cell 2
          have m3 : w'.cell? ⟨cb, 3, none⟩ = some (.slice ta tn tc) := hCb.cell 3
          have m4 : w'.cell? ⟨cb, 4, none⟩ = some (.string nt) := hCb.cell 4
          have m5 : w'.cell? ⟨cb, 5, none⟩ = some (.int .i64 cd) := (show w'.cell? ⟨cb, 5, none⟩ = some (.int .i64 cr.code) from hCb.cell 5).trans (by rw [hcd])
          have m6 : w'.cell? ⟨w3.heap.size, 0, none⟩ = some (.pointer (some ⟨ob, 0, none⟩)) := hOb.cell0
          have hcne : cb ≠ w3.heap.size + 1 := by omega
          have hPush := HX2.out.push HHlw.out (by have := hxW2.size; omega) HDb2.out HCM.out hxB (by rw [hcd]; exact hO) hk hb
          obtain ⟨D1, hCW, hS1, hK1, hB1⟩ := hPush
          have HCW := Lib.hid hCW
          have HS1 := Lib.hid hS1
          have HK1 := Lib.hid hK1
          have HB1 := Lib.hid hB1
          have hkb := hk
          have HKb := Lib.hid hkb
          clear hO hk hb hCb hLb hOb hCW hS1 hK1 hB1 hkb b0 b1 b2 b3 b4 b5 l0
          have hstp := HStep.out
          rw [if_neg (by rw [hcd]; exact h7), if_pos (show ([] : List Car).isEmpty = true from rfl)] at hstp
          have HStp := Lib.hid hstp
          clear hstp m2 m3 m4 m6
          gi_wp2_with fail
          exact ⟨D1, fun k hk => (HS1.out k hk).imp .inl id, HK1.out.mono fun k _ hn h => hn (.inl h), HB1.out, rfl, _, _, _, HStp.out, _, _, HCW.out⟩
    | cons c0 cs0 =>
      have hgt : decide ((0 : Int) < (n : Int)) = true := decide_eq_true (by rw [hn, List.length_cons]; omega)
      have hgt2 : decide (0 < n) = true := decide_eq_true (by rw [hn, List.length_cons]; omega)
      have HN' := Lib.hid hn
      clear hn
      refine wpIn_region_held (S := (fun W => W.cell? ⟨w3.heap.size, 0, none⟩ = some (.pointer (some ⟨ob, 0, none⟩)) ∧ W.cell? ⟨w.heap.size + 1, 0, none⟩ = some (.int .i64 tp) ∧ W.cell? ⟨Wr.heap.size, 0, none⟩ = some (.int .i64 cr.ent) ∧ W.cell? ⟨Wr.heap.size, 1, none⟩ = some (.int .i64 cr.com) ∧ W.cell? ⟨Wr.heap.size, 2, none⟩ = some (.int .i64 lane) ∧ W.cell? ⟨Wr.heap.size, 3, none⟩ = some (.int .i64 code) ∧ W.cell? ⟨w3.heap.size + 1, 0, none⟩ = some (.slice Al n cl) ∧ W.cell? ⟨w.heap.size, 0, none⟩ = some (.pointer (some ⟨rb, 0, none⟩)))) (by kernel_rfl) ?_
      obtain ⟨w6, hw6⟩ : ∃ w6, W₂.drew = w6 := ⟨_, rfl⟩
      have hx6 : Ext W₂ w6 := by rw [← hw6]; exact (Kp.refl _ _).drew
      have hz6 := hx6.size
      rw [hw6]
      have hHeld2 : (fun W => W.cell? ⟨w3.heap.size, 0, none⟩ = some (.pointer (some ⟨ob, 0, none⟩)) ∧ W.cell? ⟨w.heap.size + 1, 0, none⟩ = some (.int .i64 tp) ∧ W.cell? ⟨Wr.heap.size, 0, none⟩ = some (.int .i64 cr.ent) ∧ W.cell? ⟨Wr.heap.size, 1, none⟩ = some (.int .i64 cr.com) ∧ W.cell? ⟨Wr.heap.size, 2, none⟩ = some (.int .i64 lane) ∧ W.cell? ⟨Wr.heap.size, 3, none⟩ = some (.int .i64 code) ∧ W.cell? ⟨w3.heap.size + 1, 0, none⟩ = some (.slice Al n cl) ∧ W.cell? ⟨w.heap.size, 0, none⟩ = some (.pointer (some ⟨rb, 0, none⟩))) w6 := HSx.out _ (Kp.of_ext hx6)
      clear hw6
      refine heldIn_take (i := 0) (v := ?_) (noDefer_of (by kernel_rfl)) (by simp only [List.getElem?_toArray, List.getElem?_cons_succ, List.getElem?_cons_zero]; rfl) (by kernel_rfl) (by kernel_rfl) (by kernel_rfl) (fun _ _ _ h => h) (by rfl) (fun _ _ _ => trivial) (by assumption) ?_ ?_
      rotate_left
      · intro w hSw; (try dsimp only at hSw); go_simp; (try with_reducible rfl)
      try simp only [Act.put, List.setIfInBounds_toArray, List.set_cons_zero, List.set_cons_succ]
      refine heldIn_take (i := 1) (v := ?_) (noDefer_of (by kernel_rfl)) (by simp only [List.getElem?_toArray, List.getElem?_cons_succ, List.getElem?_cons_zero]; rfl) (by kernel_rfl) (by kernel_rfl) (by kernel_rfl) (fun _ _ _ h => h) (by rfl) (fun _ _ _ => trivial) (by assumption) ?_ ?_
      rotate_left
      · intro w hSw; (try dsimp only at hSw); go_simp; (try with_reducible rfl)
      try simp only [Act.put, List.setIfInBounds_toArray, List.set_cons_zero, List.set_cons_succ]
      refine heldIn_take (i := 2) (v := ?_) (noDefer_of (by kernel_rfl)) (by simp only [List.getElem?_toArray, List.getElem?_cons_succ, List.getElem?_cons_zero]; rfl) (by kernel_rfl) (by kernel_rfl) (by kernel_rfl) (fun _ _ _ h => h) (by rfl) (fun _ _ _ => trivial) (by assumption) ?_ ?_
      rotate_left
      · intro w hSw; (try dsimp only at hSw); go_simp; (try with_reducible rfl)
      try simp only [Act.put, List.setIfInBounds_toArray, List.set_cons_zero, List.set_cons_succ]
      refine heldIn_take (i := 3) (v := ?_) (noDefer_of (by kernel_rfl)) (by simp only [List.getElem?_toArray, List.getElem?_cons_succ, List.getElem?_cons_zero]; rfl) (by kernel_rfl) (by kernel_rfl) (by kernel_rfl) (fun _ _ _ h => h) (by rfl) (fun _ _ _ => trivial) (by assumption) ?_ ?_
      rotate_left
      · intro w hSw; (try dsimp only at hSw); go_simp; (try with_reducible rfl)
      try simp only [Act.put, List.setIfInBounds_toArray, List.set_cons_zero, List.set_cons_succ]
      refine heldIn_take (i := 4) (v := ?_) (noDefer_of (by kernel_rfl)) (by simp only [List.getElem?_toArray, List.getElem?_cons_succ, List.getElem?_cons_zero]; rfl) (by kernel_rfl) (by kernel_rfl) (by kernel_rfl) (fun _ _ _ h => h) (by rfl) (fun _ _ _ => trivial) (by assumption) ?_ ?_
      rotate_left
      · intro w hSw; (try dsimp only at hSw); go_simp; (try with_reducible rfl)
      try simp only [Act.put, List.setIfInBounds_toArray, List.set_cons_zero, List.set_cons_succ]
      refine heldIn_take (i := 5) (v := ?_) (noDefer_of (by kernel_rfl)) (by simp only [List.getElem?_toArray, List.getElem?_cons_succ, List.getElem?_cons_zero]; rfl) (by kernel_rfl) (by kernel_rfl) (by kernel_rfl) (fun _ _ _ h => h) (by rfl) (fun _ _ _ => trivial) (by assumption) ?_ ?_
      rotate_left
      · intro w hSw; (try dsimp only at hSw); go_simp; (try with_reducible rfl)
      try simp only [Act.put, List.setIfInBounds_toArray, List.set_cons_zero, List.set_cons_succ]
      refine heldIn_take (i := 6) (v := ?_) (noDefer_of (by kernel_rfl)) (by simp only [List.getElem?_toArray, List.getElem?_cons_succ, List.getElem?_cons_zero]; rfl) (by kernel_rfl) (by kernel_rfl) (by kernel_rfl) (fun _ _ _ h => h) (by rfl) (fun _ _ _ => trivial) (by assumption) ?_ ?_
      rotate_left
      · intro w hSw; (try dsimp only at hSw); go_simp; (try with_reducible rfl)
      try simp only [Act.put, List.setIfInBounds_toArray, List.set_cons_zero, List.set_cons_succ]
      have hrq : rm = true := by have := HRm.out; simpa using this.symm
      subst hrq
      refine heldIn_skip (i := 7) (noDefer_of (by kernel_rfl)) (by simp only [List.getElem?_toArray, List.getElem?_cons_succ, List.getElem?_cons_zero]; rfl) (by kernel_rfl) (by kernel_rfl) (by kernel_rfl) (fun _ _ _ h => h) (by rfl) (fun _ _ _ => trivial) (by assumption) ?_
      try simp only [Act.put, List.setIfInBounds_toArray, List.set_cons_zero, List.set_cons_succ]
      refine heldIn_skip (i := 8) (noDefer_of (by kernel_rfl)) (by simp only [List.getElem?_toArray, List.getElem?_cons_succ, List.getElem?_cons_zero]; rfl) (by kernel_rfl) (by kernel_rfl) (by kernel_rfl) (fun _ _ _ h => h) (by rfl) (fun _ _ _ => trivial) (by assumption) ?_
      try simp only [Act.put, List.setIfInBounds_toArray, List.set_cons_zero, List.set_cons_succ]
      refine heldIn_skip (i := 9) (noDefer_of (by kernel_rfl)) (by simp only [List.getElem?_toArray, List.getElem?_cons_succ, List.getElem?_cons_zero]; rfl) (by kernel_rfl) (by kernel_rfl) (by kernel_rfl) (fun _ _ _ h => h) (by rfl) (fun _ _ _ => trivial) (by assumption) ?_
      try simp only [Act.put, List.setIfInBounds_toArray, List.set_cons_zero, List.set_cons_succ]
      refine heldIn_take (i := 10) (v := ?_) (noDefer_of (by kernel_rfl)) (by simp only [List.getElem?_toArray, List.getElem?_cons_succ, List.getElem?_cons_zero]; rfl) (by kernel_rfl) (by kernel_rfl) (by kernel_rfl) (fun _ _ _ h => h) (by rfl) (fun _ _ _ => trivial) (by assumption) ?_ ?_
      rotate_left
      · intro w hSw; (try dsimp only at hSw); go_simp; (try with_reducible rfl)
      try simp only [Act.put, List.setIfInBounds_toArray, List.set_cons_zero, List.set_cons_succ]
      refine heldIn_two (i := 11) (i' := 12) (by kernel_rfl) (by simp only [List.getElem?_toArray, List.getElem?_cons_succ, List.getElem?_cons_zero]; rfl) (by simp only [List.getElem?_toArray, List.getElem?_cons_succ, List.getElem?_cons_zero]; rfl) (fun K hK => ?_) (fun K hK => ?_)
      · skip
        go_simp
        refine wideR_call ((HCar.out _ hx6).mono ?_)
        rintro e w8 ⟨⟨⟨pa, pn, pc⟩, ⟨ta, tn, tc⟩, nt⟩, rfl, hR8, hx8'⟩
        have hx8 : Ext W₂ w8 := hx6.trans hx8'
        dsimp only [CS.val, KS.val, SliceV.val]
        refine hK.out _ _ ?_ ?_
        · (try dsimp only); exact HSx.out _ (Kp.of_ext hx8)
        clear hK K
        try simp only [Act.put, List.setIfInBounds_toArray, List.set_cons_zero, List.set_cons_succ]
        refine heldIn_one (i := 12) (by kernel_rfl) (by simp only [List.getElem?_toArray, List.getElem?_cons_succ, List.getElem?_cons_zero]; rfl) (fun K hK => ?_)
        go_simp
        refine hK.out _ _ ?_ ?_
        · (try dsimp only); exact HSx.out _ (Kp.of_ext (hx8.alloc _))
        clear hK K
        try simp only [Act.put, List.setIfInBounds_toArray, List.set_cons_zero, List.set_cons_succ]
        have hBz := Blk.new w8 77 #[.int .i64 0, .int .i64 0, .slice none 0 0, .slice none 0 0, .string ⟨#[]⟩, .int .i64 0]
        have hx89 : Ext w8 (w8.alloc (.cells #[.int .i64 0, .int .i64 0, .slice none 0 0, .slice none 0 0, .string ⟨#[]⟩, .int .i64 0] 77)) := (Kp.refl _ _).alloc _
        have hz89 : w8.heap.size < (w8.alloc (.cells #[.int .i64 0, .int .i64 0, .slice none 0 0, .slice none 0 0, .string ⟨#[]⟩, .int .i64 0] 77)).heap.size := by simp
        obtain ⟨w9, hw9⟩ : ∃ w9, w8.alloc (.cells #[.int .i64 0, .int .i64 0, .slice none 0 0, .slice none 0 0, .string ⟨#[]⟩, .int .i64 0] 77) = w9 := ⟨_, rfl⟩
        rw [hw9] at hBz hx89 hz89 ⊢
        have hx9 : Ext W₂ w9 := hx8.trans hx89
        obtain ⟨cb, hcb⟩ : ∃ cb, w8.heap.size = cb := ⟨_, rfl⟩
        have hzz := hx8'.size
        have hR9 : RdC (fun k => w6.heap.size ≤ k ∧ k < w9.heap.size ∧ k ≠ cb) w9 ⟨⟨pa, pn, pc⟩, ⟨ta, tn, tc⟩, nt⟩ cr.merge := (hR8.ext hx89).wide fun k hk => ⟨hk.1, by omega, by omega⟩
        have hcl6 : w6.heap.size ≤ cb := by omega
        have hx69 : Ext w6 w9 := hx8'.trans hx89
        rw [hcb] at hBz ⊢
        have hcbn : ¬ cb < W₂.heap.size := by omega
        clear hw9 hR8 hx89 hz89 hx8' hx8 hcb hzz
        have z0 : w9.cell? ⟨cb, 0, none⟩ = some (.int .i64 0) := hBz.cell 0
        have y0 := hBz.frozen 0
        have z1 : w9.cell? ⟨cb, 1, none⟩ = some (.int .i64 0) := hBz.cell 1
        have y1 := hBz.frozen 1
        have z2 : w9.cell? ⟨cb, 2, none⟩ = some (.slice none 0 0) := hBz.cell 2
        have y2 := hBz.frozen 2
        have z3 : w9.cell? ⟨cb, 3, none⟩ = some (.slice none 0 0) := hBz.cell 3
        have y3 := hBz.frozen 3
        have z4 : w9.cell? ⟨cb, 4, none⟩ = some (.string ⟨#[]⟩) := hBz.cell 4
        have y4 := hBz.frozen 4
        have z5 : w9.cell? ⟨cb, 5, none⟩ = some (.int .i64 0) := hBz.cell 5
        have y5 := hBz.frozen 5
        refine heldIn_one (i := 13) (by kernel_rfl) (by simp only [List.getElem?_toArray, List.getElem?_cons_succ, List.getElem?_cons_zero]; rfl) (fun K hK => ?_)
        go_simp
        refine hK.out _ _ ?_ ?_
        · (try dsimp only); exact HSx.out _ (((((((Kp.of_ext hx9).setCell (.inr hcbn) _).setCell (.inr hcbn) _).setCell (.inr hcbn) _).setCell (.inr hcbn) _).setCell (.inr hcbn) _).setCell (.inr hcbn) _)
        clear hK K
        try simp only [Act.put, List.setIfInBounds_toArray, List.set_cons_zero, List.set_cons_succ]
        refine heldIn_done (by kernel_rfl) ?_ _
        have hCM := CarM.of (W := W₂) (c := cr) (s := ⟨⟨pa, pn, pc⟩, ⟨ta, tn, tc⟩, nt⟩) hx6 hx69 hcl6 hBz hR9
        dsimp only [SliceV.val] at hCM
        generalize ((((((w9.setCell ⟨cb, 0, none⟩ (.int .i64 cr.ent)).setCell ⟨cb, 1, none⟩ (.int .i64 cr.com)).setCell ⟨cb, 2, none⟩ (.slice pa pn pc)).setCell ⟨cb, 3, none⟩ (.slice ta tn tc)).setCell ⟨cb, 4, none⟩ (.string nt)).setCell ⟨cb, 5, none⟩ (.int .i64 cr.code)) = wA at hCM ⊢
        clear z0 z1 z2 z3 z4 z5 y0 y1 y2 y3 y4 y5 hBz hR9 hcl6 hx69 hx9 hHeld2 hx6 hz6
        have hXA := HX2.out.frame (Kp.of_ext hCM.x)
        have b0 : wA.cell? ⟨cb, 0, none⟩ = some (.int .i64 cr.ent) := hCM.b.cell 0
        have b1 : wA.cell? ⟨cb, 1, none⟩ = some (.int .i64 cr.com) := hCM.b.cell 1
        have b2 : wA.cell? ⟨cb, 2, none⟩ = some (.slice pa pn pc) := hCM.b.cell 2
        have b3 : wA.cell? ⟨cb, 3, none⟩ = some (.slice ta tn tc) := hCM.b.cell 3
        have b4 : wA.cell? ⟨cb, 4, none⟩ = some (.string nt) := hCM.b.cell 4
        have b5 : wA.cell? ⟨cb, 5, none⟩ = some (.int .i64 cr.code) := hCM.b.cell 5
        have l0 : wA.cell? ⟨w3.heap.size + 1, 0, none⟩ = some (.slice Al n cl) := hXA.l.cell0
        have HCM := Lib.hid hCM
        have HXA := Lib.hid hXA
        have hlb2 : w3.heap.size + 1 < W₂.heap.size := HX2.out.l.lt
        have hcbA := hCM.b.lt
        have hzA := hCM.x.size
        clear hCM hXA
        obtain ⟨cd, hcd⟩ : ∃ cd, cr.code = cd := ⟨_, rfl⟩
        rw [hcd] at b5
        by_cases h7 : cd = 7
        · subst h7
          have hxB : Ext wA (wA.alloc (.cells #[.int .i64 cr.ent, .int .i64 cr.com, .slice pa pn pc, .slice ta tn tc, .string nt, .int .i64 7] 77)) := (Kp.refl _ _).alloc _
          gi_wp2_with (gi_at_builtin; refine stop ?_)
          refine listIn_append (v := .slice Al n cl) (u := .slice (some ⟨wA.heap.size, 0, none⟩) 1 1) (xs := rows) (ys := [⟨cr.ent, cr.com, ⟨⟨pa, pn, pc⟩, ⟨ta, tn, tc⟩, nt⟩, 7⟩]) tiCar rfl rfl rfl rfl (HXA.out.o.kp hxB (fun _ _ => trivial)) (Own.made (E := ECar) wA 77 [⟨cr.ent, cr.com, ⟨⟨pa, pn, pc⟩, ⟨ta, tn, tc⟩, nt⟩, 7⟩] (by simp [maxLen])).rd (by have := HLr.out; have := HPl.out; simp at this; simp; omega) (by have := HLr.out; have := HPl.out; simp at this; simp [maxLen]; omega) ?_
          intro v' w' hO hk hb
          obtain ⟨Av, nv, cv, hv'⟩ := hO.slice
          subst hv'
          have hCb := (HCM.out.b.ext hxB).kp hk (fun e => by have := HX2.out.o.lt e; omega)
          have hLb := (HXA.out.l.ext hxB).kp hk HXA.out.ov.2
          have hOb := (((HBoW.out wA HCM.out.x).ext hxB).kp hk HOv.out)
          have m0 : w'.cell? ⟨w3.heap.size + 1, 0, none⟩ = some (.slice Al n cl) := hLb.cell0
          have m1 := hLb.frozen 0
          have m2 : w'.cell? ⟨cb, 2, none⟩ = some (.slice pa pn pc) := hCb.cell 2
          have m3 : w'.cell? ⟨cb, 3, none⟩ = some (.slice ta tn tc) := hCb.cell 3
          have m4 : w'.cell? ⟨cb, 4, none⟩ = some (.string nt) := hCb.cell 4
          have m5 : w'.cell? ⟨cb, 5, none⟩ = some (.int .i64 7) := (show w'.cell? ⟨cb, 5, none⟩ = some (.int .i64 cr.code) from hCb.cell 5).trans (by rw [hcd])
          have m6 : w'.cell? ⟨w3.heap.size, 0, none⟩ = some (.pointer (some ⟨ob, 0, none⟩)) := hOb.cell0
          have hcne : cb ≠ w3.heap.size + 1 := by omega
          have hPush := HX2.out.push HHlw.out (by have := hxW2.size; omega) HDb2.out HCM.out hxB (by rw [hcd]; exact hO) hk hb
          obtain ⟨D1, hCW, hS1, hK1, hB1⟩ := hPush
          have HCW := Lib.hid hCW
          have HS1 := Lib.hid hS1
          have HK1 := Lib.hid hK1
          have HB1 := Lib.hid hB1
          have hkb := hk
          have HKb := Lib.hid hkb
          clear hO hk hb hCb hLb hOb hCW hS1 hK1 hB1 hkb b0 b1 b2 b3 b4 b5 l0
          have hkc : Kp (fun k => W₂.heap.size ≤ k ∧ k < wA.heap.size ∧ k ≠ cb) (wA.alloc (.cells #[.int .i64 cr.ent, .int .i64 cr.com, .slice pa pn pc, .slice ta tn tc, .string nt, .int .i64 7] 77)) w' := HKb.out.mono fun k _ hk e => by have := HX2.out.o.lt e; omega
          have hMr := (HCM.out.m.ext hxB).kp (hkc.setCell (p := ⟨w3.heap.size + 1, 0, none⟩) (.inr fun hk => by have := hk.1; dsimp only at this; omega) (.slice Av nv cv))
          obtain ⟨⟨lv1, rows1, J1, Ir1, Dr1, hX1⟩, hlw1⟩ := HCW.out
          have hAd := addR_calls hX1.r ⟨⟨pa, pn, pc⟩, ⟨ta, tn, tc⟩, nt⟩ cr.merge _ hMr (HSm.out hcd) (by have := HPl.out; simp at this; omega) (by omega)
          dsimp only [KS.val, SliceV.val] at hAd
          have HAd := Lib.hid hAd
          have HX1 := Lib.hid hX1
          have HLw1 := Lib.hid hlw1
          clear hAd hMr hX1 hlw1
          gi_wp2_with fail
          refine wideR_call (HAd.out.mono ?_)
          rintro e w13 hP
          have hP' := hP
          obtain ⟨rfl, I13, D13, -, -, -, hk13⟩ := hP'
          have hT13 := HX1.out.t.kp hk13 (fun e => (HX1.out.ad _ e).1 rfl)
          have t0 : w13.cell? ⟨w.heap.size + 1, 0, none⟩ = some (.int .i64 tp) := hT13.cell0
          have t1 := hT13.frozen 0
          obtain ⟨D2, g1, g2, g3, g4⟩ := HX1.out.add (n0 := w.heap.size) (tip' := ((addC M (60 + mm.toNat) cr.merge).2.1 : Int)) HLw1.out (by have := hxW2.size; have := HK1.out.size; omega) HB1.out hP
          have G1 := Lib.hid g1
          have G2 := Lib.hid g2
          have G3 := Lib.hid g3
          have G4 := Lib.hid g4
          have HSz := Lib.hid (And.intro HK1.out.size hk13.size)
          have hstp := HStep.out
          rw [if_pos hcd] at hstp
          have HStp := Lib.hid hstp
          clear g1 g2 g3 g4 hP hk13 hT13 hstp m0 m1 m2 m3 m4 m5 m6
          gi_wp2_with fail
          refine ⟨D2, fun k hk => ?_, ?_, G4.out, _, _, _, HStp.out, G1.out⟩
          · have h1 := HSz.out.1
            have h2 := HSz.out.2
            have h3 := G3.out.size
            rcases G2.out k hk with h | h
            · rcases HS1.out k h with h' | h'
              · exact .inl (.inl h')
              · exact .inr ⟨h'.1, by omega⟩
            · exact .inr ⟨by omega, h.2⟩
          · refine (HK1.out.mono fun k _ hn h => hn (.inl h)).trans' G3.out fun k hk0 hn h => ?_
            rcases HS1.out k h with h' | h'
            · exact hn (.inl h')
            · omega
        · have h7' : (cd == 7) = false := by rw [beq_eq_false_iff_ne]; exact h7
          have hstp := HStep.out
          rw [if_neg (by rw [hcd]; exact h7), if_neg (by simp)] at hstp
          have HStp := Lib.hid hstp
          clear hstp
          gi_wp2_with fail
          exact ⟨Dx, fun k hk => .inl (.inl hk), Kp.of_ext HCM.out.x, fun k hk => HCM.out.x.lt (HDb2.out k hk), rfl, _, _, _, HStp.out, _, _, ⟨_, _, _, _, _, HXA.out⟩, HHlw.out⟩
      · skip
        go_simp
        refine hK.out _ _ ?_ ?_
        · (try dsimp only); exact HSx.out _ (Kp.of_ext (hx6.alloc _))
        clear hK K
        try simp only [Act.put, List.setIfInBounds_toArray, List.set_cons_zero, List.set_cons_succ]
        have hBz := Blk.new w6 77 #[.int .i64 0, .int .i64 0, .slice none 0 0, .slice none 0 0, .string ⟨#[]⟩, .int .i64 0]
        have hx67 : Ext w6 (w6.alloc (.cells #[.int .i64 0, .int .i64 0, .slice none 0 0, .slice none 0 0, .string ⟨#[]⟩, .int .i64 0] 77)) := (Kp.refl _ _).alloc _
        have hz67 : w6.heap.size < (w6.alloc (.cells #[.int .i64 0, .int .i64 0, .slice none 0 0, .slice none 0 0, .string ⟨#[]⟩, .int .i64 0] 77)).heap.size := by simp
        obtain ⟨w7, hw7⟩ : ∃ w7, w6.alloc (.cells #[.int .i64 0, .int .i64 0, .slice none 0 0, .slice none 0 0, .string ⟨#[]⟩, .int .i64 0] 77) = w7 := ⟨_, rfl⟩
        rw [hw7] at hBz hx67 hz67 ⊢
        have hx7 : Ext W₂ w7 := hx6.trans hx67
        have hHeld7 : (fun W => W.cell? ⟨w3.heap.size, 0, none⟩ = some (.pointer (some ⟨ob, 0, none⟩)) ∧ W.cell? ⟨w.heap.size + 1, 0, none⟩ = some (.int .i64 tp) ∧ W.cell? ⟨Wr.heap.size, 0, none⟩ = some (.int .i64 cr.ent) ∧ W.cell? ⟨Wr.heap.size, 1, none⟩ = some (.int .i64 cr.com) ∧ W.cell? ⟨Wr.heap.size, 2, none⟩ = some (.int .i64 lane) ∧ W.cell? ⟨Wr.heap.size, 3, none⟩ = some (.int .i64 code) ∧ W.cell? ⟨w3.heap.size + 1, 0, none⟩ = some (.slice Al n cl) ∧ W.cell? ⟨w.heap.size, 0, none⟩ = some (.pointer (some ⟨rb, 0, none⟩))) w7 := HSx.out _ (Kp.of_ext hx7)
        clear hw7
        refine heldIn_one (i := 11) (by kernel_rfl) (by simp only [List.getElem?_toArray, List.getElem?_cons_succ, List.getElem?_cons_zero]; rfl) (fun K hK => ?_)
        go_simp
        refine wideR_call ((HCar.out _ hx7).mono ?_)
        rintro e w8 ⟨⟨⟨pa, pn, pc⟩, ⟨ta, tn, tc⟩, nt⟩, rfl, hR8, hx8'⟩
        have hx8 : Ext W₂ w8 := hx7.trans hx8'
        dsimp only [CS.val, KS.val, SliceV.val]
        refine hK.out _ _ ?_ ?_
        · (try dsimp only); exact HSx.out _ (Kp.of_ext hx8)
        clear hK K
        try simp only [Act.put, List.setIfInBounds_toArray, List.set_cons_zero, List.set_cons_succ]
        have hBz9 := hBz.ext hx8'
        obtain ⟨cb, hcb⟩ : ∃ cb, w6.heap.size = cb := ⟨_, rfl⟩
        have hzz := hx8'.size
        have hR9 : RdC (fun k => w6.heap.size ≤ k ∧ k < w8.heap.size ∧ k ≠ cb) w8 ⟨⟨pa, pn, pc⟩, ⟨ta, tn, tc⟩, nt⟩ cr.merge := hR8.wide fun k hk => ⟨by omega, hk.2, by omega⟩
        have hcl6 : w6.heap.size ≤ cb := by omega
        have hx69 : Ext w6 w8 := hx67.trans hx8'
        rw [hcb] at hBz9 ⊢
        have hcbn : ¬ cb < W₂.heap.size := by omega
        have hx9 := hx8
        clear hR8 hx8' hx8 hcb hzz hBz hx67 hz67
        have hBz := hBz9
        clear hBz9
        obtain ⟨w9, hw9⟩ : ∃ w9, w8 = w9 := ⟨_, rfl⟩
        rw [hw9] at hBz hR9 hx69 hx9 ⊢
        clear hw9
        have z0 : w9.cell? ⟨cb, 0, none⟩ = some (.int .i64 0) := hBz.cell 0
        have y0 := hBz.frozen 0
        have z1 : w9.cell? ⟨cb, 1, none⟩ = some (.int .i64 0) := hBz.cell 1
        have y1 := hBz.frozen 1
        have z2 : w9.cell? ⟨cb, 2, none⟩ = some (.slice none 0 0) := hBz.cell 2
        have y2 := hBz.frozen 2
        have z3 : w9.cell? ⟨cb, 3, none⟩ = some (.slice none 0 0) := hBz.cell 3
        have y3 := hBz.frozen 3
        have z4 : w9.cell? ⟨cb, 4, none⟩ = some (.string ⟨#[]⟩) := hBz.cell 4
        have y4 := hBz.frozen 4
        have z5 : w9.cell? ⟨cb, 5, none⟩ = some (.int .i64 0) := hBz.cell 5
        have y5 := hBz.frozen 5
        refine heldIn_one (i := 13) (by kernel_rfl) (by simp only [List.getElem?_toArray, List.getElem?_cons_succ, List.getElem?_cons_zero]; rfl) (fun K hK => ?_)
        go_simp
        refine hK.out _ _ ?_ ?_
        · (try dsimp only); exact HSx.out _ (((((((Kp.of_ext hx9).setCell (.inr hcbn) _).setCell (.inr hcbn) _).setCell (.inr hcbn) _).setCell (.inr hcbn) _).setCell (.inr hcbn) _).setCell (.inr hcbn) _)
        clear hK K
        try simp only [Act.put, List.setIfInBounds_toArray, List.set_cons_zero, List.set_cons_succ]
        refine heldIn_done (by kernel_rfl) ?_ _
        have hCM := CarM.of (W := W₂) (c := cr) (s := ⟨⟨pa, pn, pc⟩, ⟨ta, tn, tc⟩, nt⟩) hx6 hx69 hcl6 hBz hR9
        dsimp only [SliceV.val] at hCM
        generalize ((((((w9.setCell ⟨cb, 0, none⟩ (.int .i64 cr.ent)).setCell ⟨cb, 1, none⟩ (.int .i64 cr.com)).setCell ⟨cb, 2, none⟩ (.slice pa pn pc)).setCell ⟨cb, 3, none⟩ (.slice ta tn tc)).setCell ⟨cb, 4, none⟩ (.string nt)).setCell ⟨cb, 5, none⟩ (.int .i64 cr.code)) = wA at hCM ⊢
        clear z0 z1 z2 z3 z4 z5 y0 y1 y2 y3 y4 y5 hBz hR9 hcl6 hx69 hx9 hHeld2 hx6 hz6
        have hXA := HX2.out.frame (Kp.of_ext hCM.x)
        have b0 : wA.cell? ⟨cb, 0, none⟩ = some (.int .i64 cr.ent) := hCM.b.cell 0
        have b1 : wA.cell? ⟨cb, 1, none⟩ = some (.int .i64 cr.com) := hCM.b.cell 1
        have b2 : wA.cell? ⟨cb, 2, none⟩ = some (.slice pa pn pc) := hCM.b.cell 2
        have b3 : wA.cell? ⟨cb, 3, none⟩ = some (.slice ta tn tc) := hCM.b.cell 3
        have b4 : wA.cell? ⟨cb, 4, none⟩ = some (.string nt) := hCM.b.cell 4
        have b5 : wA.cell? ⟨cb, 5, none⟩ = some (.int .i64 cr.code) := hCM.b.cell 5
        have l0 : wA.cell? ⟨w3.heap.size + 1, 0, none⟩ = some (.slice Al n cl) := hXA.l.cell0
        have HCM := Lib.hid hCM
        have HXA := Lib.hid hXA
        have hlb2 : w3.heap.size + 1 < W₂.heap.size := HX2.out.l.lt
        have hcbA := hCM.b.lt
        have hzA := hCM.x.size
        clear hCM hXA
        obtain ⟨cd, hcd⟩ : ∃ cd, cr.code = cd := ⟨_, rfl⟩
        rw [hcd] at b5
        by_cases h7 : cd = 7
        · subst h7
          have hxB : Ext wA (wA.alloc (.cells #[.int .i64 cr.ent, .int .i64 cr.com, .slice pa pn pc, .slice ta tn tc, .string nt, .int .i64 7] 77)) := (Kp.refl _ _).alloc _
          gi_wp2_with (gi_at_builtin; refine stop ?_)
          refine listIn_append (v := .slice Al n cl) (u := .slice (some ⟨wA.heap.size, 0, none⟩) 1 1) (xs := rows) (ys := [⟨cr.ent, cr.com, ⟨⟨pa, pn, pc⟩, ⟨ta, tn, tc⟩, nt⟩, 7⟩]) tiCar rfl rfl rfl rfl (HXA.out.o.kp hxB (fun _ _ => trivial)) (Own.made (E := ECar) wA 77 [⟨cr.ent, cr.com, ⟨⟨pa, pn, pc⟩, ⟨ta, tn, tc⟩, nt⟩, 7⟩] (by simp [maxLen])).rd (by have := HLr.out; have := HPl.out; simp at this; simp; omega) (by have := HLr.out; have := HPl.out; simp at this; simp [maxLen]; omega) ?_
          intro v' w' hO hk hb
          obtain ⟨Av, nv, cv, hv'⟩ := hO.slice
          subst hv'
          have hCb := (HCM.out.b.ext hxB).kp hk (fun e => by have := HX2.out.o.lt e; omega)
          have hLb := (HXA.out.l.ext hxB).kp hk HXA.out.ov.2
          have hOb := (((HBoW.out wA HCM.out.x).ext hxB).kp hk HOv.out)
          have m0 : w'.cell? ⟨w3.heap.size + 1, 0, none⟩ = some (.slice Al n cl) := hLb.cell0
          have m1 := hLb.frozen 0
          have m2 : w'.cell? ⟨cb, 2, none⟩ = some (.slice pa pn pc) := hCb.cell 2
          have m3 : w'.cell? ⟨cb, 3, none⟩ = some (.slice ta tn tc) := hCb.cell 3
          have m4 : w'.cell? ⟨cb, 4, none⟩ = some (.string nt) := hCb.cell 4
          have m5 : w'.cell? ⟨cb, 5, none⟩ = some (.int .i64 7) := (show w'.cell? ⟨cb, 5, none⟩ = some (.int .i64 cr.code) from hCb.cell 5).trans (by rw [hcd])
          have m6 : w'.cell? ⟨w3.heap.size, 0, none⟩ = some (.pointer (some ⟨ob, 0, none⟩)) := hOb.cell0
          have hcne : cb ≠ w3.heap.size + 1 := by omega
          have hPush := HX2.out.push HHlw.out (by have := hxW2.size; omega) HDb2.out HCM.out hxB (by rw [hcd]; exact hO) hk hb
          obtain ⟨D1, hCW, hS1, hK1, hB1⟩ := hPush
          have HCW := Lib.hid hCW
          have HS1 := Lib.hid hS1
          have HK1 := Lib.hid hK1
          have HB1 := Lib.hid hB1
          have hkb := hk
          have HKb := Lib.hid hkb
          clear hO hk hb hCb hLb hOb hCW hS1 hK1 hB1 hkb b0 b1 b2 b3 b4 b5 l0
          have hkc : Kp (fun k => W₂.heap.size ≤ k ∧ k < wA.heap.size ∧ k ≠ cb) (wA.alloc (.cells #[.int .i64 cr.ent, .int .i64 cr.com, .slice pa pn pc, .slice ta tn tc, .string nt, .int .i64 7] 77)) w' := HKb.out.mono fun k _ hk e => by have := HX2.out.o.lt e; omega
          have hMr := (HCM.out.m.ext hxB).kp (hkc.setCell (p := ⟨w3.heap.size + 1, 0, none⟩) (.inr fun hk => by have := hk.1; dsimp only at this; omega) (.slice Av nv cv))
          obtain ⟨⟨lv1, rows1, J1, Ir1, Dr1, hX1⟩, hlw1⟩ := HCW.out
          have hAd := addR_calls hX1.r ⟨⟨pa, pn, pc⟩, ⟨ta, tn, tc⟩, nt⟩ cr.merge _ hMr (HSm.out hcd) (by have := HPl.out; simp at this; omega) (by omega)
          dsimp only [KS.val, SliceV.val] at hAd
          have HAd := Lib.hid hAd
          have HX1 := Lib.hid hX1
          have HLw1 := Lib.hid hlw1
          clear hAd hMr hX1 hlw1
          gi_wp2_with fail
          refine wideR_call (HAd.out.mono ?_)
          rintro e w13 hP
          have hP' := hP
          obtain ⟨rfl, I13, D13, -, -, -, hk13⟩ := hP'
          have hT13 := HX1.out.t.kp hk13 (fun e => (HX1.out.ad _ e).1 rfl)
          have t0 : w13.cell? ⟨w.heap.size + 1, 0, none⟩ = some (.int .i64 tp) := hT13.cell0
          have t1 := hT13.frozen 0
          obtain ⟨D2, g1, g2, g3, g4⟩ := HX1.out.add (n0 := w.heap.size) (tip' := ((addC M (60 + mm.toNat) cr.merge).2.1 : Int)) HLw1.out (by have := hxW2.size; have := HK1.out.size; omega) HB1.out hP
          have G1 := Lib.hid g1
          have G2 := Lib.hid g2
          have G3 := Lib.hid g3
          have G4 := Lib.hid g4
          have HSz := Lib.hid (And.intro HK1.out.size hk13.size)
          have hstp := HStep.out
          rw [if_pos hcd] at hstp
          have HStp := Lib.hid hstp
          clear g1 g2 g3 g4 hP hk13 hT13 hstp m0 m1 m2 m3 m4 m5 m6
          gi_wp2_with fail
          refine ⟨D2, fun k hk => ?_, ?_, G4.out, _, _, _, HStp.out, G1.out⟩
          · have h1 := HSz.out.1
            have h2 := HSz.out.2
            have h3 := G3.out.size
            rcases G2.out k hk with h | h
            · rcases HS1.out k h with h' | h'
              · exact .inl (.inl h')
              · exact .inr ⟨h'.1, by omega⟩
            · exact .inr ⟨by omega, h.2⟩
          · refine (HK1.out.mono fun k _ hn h => hn (.inl h)).trans' G3.out fun k hk0 hn h => ?_
            rcases HS1.out k h with h' | h'
            · exact hn (.inl h')
            · omega
        · have h7' : (cd == 7) = false := by rw [beq_eq_false_iff_ne]; exact h7
          have hstp := HStep.out
          rw [if_neg (by rw [hcd]; exact h7), if_neg (by simp)] at hstp
          have HStp := Lib.hid hstp
          clear hstp
          gi_wp2_with fail
          exact ⟨Dx, fun k hk => .inl (.inl hk), Kp.of_ext HCM.out.x, fun k hk => HCM.out.x.lt (HDb2.out k hk), rfl, _, _, _, HStp.out, _, _, ⟨_, _, _, _, _, HXA.out⟩, HHlw.out⟩
  case done =>
    intro q D1 W' hId hsub hkp hlt hq hnq hblk
    obtain ⟨M, tp, cars, hrun, ⟨⟨lv, rows, J, Ir, Dr, hXl⟩, hlw⟩⟩ := hId
    obtain ⟨Al, n, cl, hlv⟩ := hXl.o.slice
    subst hlv
    have HRes := Lib.hid (show (runT (decide (cs.length < 60)) (60 + mm.toNat) cs tip (xs.take mm.toNat)).l = cars by rw [hrun])
    clear hrun
    have hX3 := Lib.hid hXl
    have l0 : W'.cell? ⟨w3.heap.size + 1, 0, none⟩ = some (.slice Al n cl) := hXl.l.cell0
    have hxW' : Ext w W' := hx05.trans' hkp fun k hk _ hd => by have := hlowS k hd; omega
    have hqw : w.heap.size ≤ q := by omega
    clear hXl hkp hsub
    gi_wp2_with fail
    refine leaves1 hblk fun W3 hk3 _ => ⟨_, results_tmp rfl _ _ _, ?_⟩
    rw [HRes.out]
    exact cars_out hX3.out hlw hlt hxW' hk3 hnq hqw
  case stop =>
    rintro q c pre D1 W' hpre ⟨rfl, M, tp, cars, hrun, M', tp', ⟨⟨lv, rows, J, Ir, Dr, hXl⟩, hlw⟩⟩ hsub hkp hlt hq hnq hblk
    obtain ⟨Al, n, cl, hlv⟩ := hXl.o.slice
    subst hlv
    have HRes := Lib.hid (show (runT (decide (cs.length < 60)) (60 + mm.toNat) cs tip (xs.take mm.toNat)).l = cars by rw [runT_off hpre (by rw [hrun]), hrun])
    clear hrun
    have hX3 := Lib.hid hXl
    have l0 : W'.cell? ⟨w3.heap.size + 1, 0, none⟩ = some (.slice Al n cl) := hXl.l.cell0
    have hxW' : Ext w W' := hx05.trans' hkp fun k hk _ hd => by have := hlowS k hd; omega
    have hqw : w.heap.size ≤ q := by omega
    clear hXl hkp hsub
    gi_wp2_with fail
    refine leaves1 hblk fun W3 hk3 _ => ⟨_, results_tmp rfl _ _ _, ?_⟩
    rw [HRes.out]
    exact cars_out hX3.out hlw hlt hxW' hk3 hnq hqw
end

end Go.Proofs.YtgjbfkaepalkiaaGreatDoor

namespace Go.Proofs.YtgjbfkaepalkiaaGreatDoor
open Go.RowKit
set_option linter.unusedVariables false
set_option linter.unusedSimpArgs false
attribute [local go_sem] Oper.semAt_some

set_option maxHeartbeats 2000000 in
theorem made21_calls (v : Value) (ss : List KS) (cs : List Cm) (S : Fp) (w : World) (hR : Rd EK S w v ss) (hK : RepK S w ss cs) (hS : ∀ k, S k → k < w.heap.size) (hs : ∀ c ∈ cs, SmallC c) (hn : cs.length ≤ 100) :
    Calls Tryz.prog 45 #[v] w (MadePost S w cs) := by
  obtain ⟨A, c, rfl, hO⟩ := hR.open_
  have hlen := hO.len
  have hl := hK.len
  have HO := Lib.hid fun W (hW : Ext w W) => hO.kp (hW.mono fun _ _ _ => trivial)
  have HK := Lib.hid fun W (hW : Ext w W) => hK.ext hW
  obtain ⟨n, hxn⟩ : ∃ n, cs.length = n := ⟨_, rfl⟩
  rw [hxn] at hl hn
  rw [hl] at hlen ⊢
  have HX := Lib.hid hxn
  have HL := Lib.hid hl
  have HS := Lib.hid hS
  have HSm := Lib.hid hs
  clear hR hO hK hxn hl hS hs
  go_enter Tryz.func45, Tryz.ntmps45
  go_wp2_with fail
  refine (newR_calls 60 w (by omega)).mono ?_
  rintro e w1 hP1
  have hP1' := hP1
  obtain ⟨rfl, -⟩ := hP1'
  have HP1 := Lib.hid hP1
  go_wp2_with fail
  refine (refNew_calls 60 w1 (by omega)).mono ?_
  rintro e w2 hP2
  have hP2' := hP2
  obtain ⟨rfl, -⟩ := hP2'
  have HT := Lib.hid (TwoR.start HS.out HP1.out hP2)
  clear hP1 hP2 HP1
  go_wp2_with fail
  go_loopw [6] (fun i wr => ∃ (k : Nat) (I D D' : Fp), k ≤ n ∧ i = .int .i64 k ∧ TwoR S w wr w.heap.size w1.heap.size (madeC (cs.take k)) (madeC (cs.take k)) I D D') (fun i _ => n - (intOf i).toNat)
  case atStart => exact ⟨0, _, _, _, Nat.zero_le _, rfl, HT.out⟩
  case round =>
    obtain ⟨k, I, D, D', hk, rfl, hT⟩ := hrel
    rename World => wo
    have HTo := Lib.hid hT
    have hx := hT.x
    clear hT HT
    by_cases hlt : k < n
    · have hd : decide ((k : Int) < (n : Int)) = true := decide_eq_true (by omega)
      have hkc : k < cs.length := by have := HX.out; omega
      have hkr : k < ss.length := by have := HL.out; omega
      obtain ⟨b, off, rfl, hSb, hb, c0, c1, c2⟩ := (HO.out wo hx).rd.kom hkr
      have hRx := (HK.out wo hx).get k hkr hkc
      have hsm := HSm.out cs[k] (List.getElem_mem hkc)
      have hgood : GoodR (madeC (cs.take k)) := madeC_good fun c hc => HSm.out c (List.take_subset _ _ hc)
      have hml : (madeC (cs.take k)).length ≤ 1000 := by have := madeC_len (cs.take k); rw [List.length_take] at this; omega
      have HT1 : Hid (madeC (cs.take (k + 1)) = (addC (madeC (cs.take k)) 60 cs[k]).1) := Lib.hid (by rw [take_snoc cs hkc, madeC_snoc])
      have hA1 := addR_calls HTo.out.r ss[k] cs[k] S hRx hsm hml (by omega)
      have hlt' : (k : Int) < (n : Int) := by omega
      have h0 : (0 : Int) ≤ (k : Int) := by omega
      have hw : IntKind.i64.wrap ((k : Int) + 1) = (k : Int) + 1 := IntWalk.i64_in _ (by omega)
      have hA2 : Hid (∀ w3 I1 D1 D2, TwoR S w w3 w.heap.size w1.heap.size I1 (madeC (cs.take k)) D1 D2 D' → Ext w w3 → Calls Tryz.prog 57 #[.pointer (some ⟨w1.heap.size, 0, none⟩), ss[k].val] w3 (RefAddPost refT S D' w3 w1.heap.size (madeC (cs.take k)) 60 cs[k])) := Lib.hid fun w3 I1 D1 D2 h hx3 => refAdd_calls h.q ss[k] cs[k] ((HK.out w3 hx3).get k hkr hkc) hsm hml (by omega)
      have hSb' := HS.out b hSb
      obtain ⟨xk, hrk⟩ : ∃ x, ss[k] = x := ⟨_, rfl⟩
      rw [hrk] at c0 c1 c2 hA1 hA2
      obtain ⟨⟨pa, pn, pc⟩, ⟨ta, tn, tc⟩, nt⟩ := xk
      dsimp only [KS.val, SliceV.val] at c0 c1 c2 hA1 hA2
      generalize cs[k] = ck at HT1 hA1 hA2 hRx hsm
      have HA1 := Lib.hid hA1
      clear hRx hrk hsm hgood hA1
      go_wp2_with fail
      refine HA1.out.mono ?_
      rintro e w3 hP3
      have hP3' := hP3
      obtain ⟨rfl, -⟩ := hP3'
      obtain ⟨I1, D1, hT3⟩ := HTo.out.add HS.out hP3
      have HT3 := Lib.hid hT3
      have hbk : ∀ (i : Nat) (v : Value), wo.cell? ⟨b, i, none⟩ = some v → w3.cell? ⟨b, i, none⟩ = some v := fun i v h => by
        obtain ⟨_, _, _, _, _, _, h4⟩ := hP3
        exact (h4.cell (p := ⟨b, i, none⟩) hb fun hd => by have := HTo.out.lowD _ hd; dsimp only at this; omega).trans h
      have d0 := hbk _ _ c0
      have d1 := hbk _ _ c1
      have d2 := hbk _ _ c2
      have hA2' := Lib.hid (hA2.out w3 _ _ _ hT3 hT3.x)
      clear hP3 hT3 hbk c0 c1 c2 hA2 HA1
      go_wp2_with fail
      refine hA2'.out.mono ?_
      rintro e w4 hP4
      have hP4' := hP4
      obtain ⟨rfl, -⟩ := hP4'
      obtain ⟨D2, hT4⟩ := HT3.out.radd hP4
      have HT4 := Lib.hid hT4
      clear hP4 hT4 hA2'
      go_wp2_with fail
      go_roundw
      case rel => exact ⟨k + 1, I1, D1, D2, by omega, by go_num, by rw [HT1.out]; exact HT4.out⟩
      case measure => simp [intOf]; omega
    · have hd : decide ((k : Int) < (n : Int)) = false := decide_eq_false (by omega)
      have hall : cs.take k = cs := List.take_of_length_le (by have := HX.out; omega)
      rw [hall] at HTo
      obtain ⟨A2, c2, rows, hB2, hO2, _, hl2⟩ := HTo.out.q.rd
      have q0 : wo.cell? ⟨w1.heap.size, 0, none⟩ = some (.slice A2 (madeC cs).length c2) := hB2.cell 0
      have hln := fun k => lenR_calls (HTo.out.r.ext ((Kp.refl _ wo).drewN k))
      obtain ⟨m, hm⟩ : ∃ m, (madeC cs).length = m := ⟨_, rfl⟩
      rw [hm] at q0 hln
      have HLn := Lib.hid hln
      clear hall hB2 hO2 hl2 hm hln
      go_wp2_with fail
      go_quiet ((go_at_call 25; exact Calls.quiet_of_same ((HLn.out _).mono fun _ _ h => ⟨h.1, h.2.symm⟩)))
      have hTn := Lib.hid (HTo.out.ext ((Kp.refl _ wo).drewN nq))
      clear HLn q0
      go_wp2_with fail
      go_returns
      exact ⟨_, _, _, _, _, rfl, hTn.out⟩


end Go.Proofs.YtgjbfkaepalkiaaGreatDoor

namespace Go.Proofs.YtgjbfkaepalkiaaGreatDoor
open Go.RowKit
set_option linter.unusedVariables false
set_option linter.unusedSimpArgs false
attribute [local go_sem] Oper.semAt_some

/-- What is read of the cars that Cars tells. -/
theorem cars_open {w0 W : World} {v : Value} {rows : List CS} {J : Fp} {cars : List Car} (hN : New ECar 77 w0.heap.size W v rows) (hR : RepCar J W rows cars) :
    ∃ A c, v = .slice A cars.length c ∧ ∀ i (hi : i < cars.length), ∃ b off, A = some ⟨b, off, none⟩ ∧ b < W.heap.size ∧ v.ownBlock = some b ∧ ∃ (pa ta : Option Addr) (pc tc : Nat), W.cell? ⟨b, off + i * 6, none⟩ = some (.int .i64 cars[i].ent) ∧ W.cell? ⟨b, off + i * 6 + 1, none⟩ = some (.int .i64 cars[i].com) ∧
      W.cell? ⟨b, off + i * 6 + 2, none⟩ = some (.slice pa cars[i].merge.parents.length pc) ∧ W.cell? ⟨b, off + i * 6 + 3, none⟩ = some (.slice ta cars[i].merge.tree.length tc) ∧ W.cell? ⟨b, off + i * 6 + 4, none⟩ = some (.string cars[i].merge.note) ∧ W.cell? ⟨b, off + i * 6 + 5, none⟩ = some (.int .i64 cars[i].code) ∧
      RdC J W ⟨⟨pa, cars[i].merge.parents.length, pc⟩, ⟨ta, cars[i].merge.tree.length, tc⟩, cars[i].merge.note⟩ cars[i].merge := by
  obtain ⟨A, c, rfl, hO⟩ := hN.1.rd.open_
  have hlr := hR.len
  rw [hlr]
  refine ⟨A, c, rfl, fun i hi => ?_⟩
  have hi' : i < rows.length := by rw [hR.len]; exact hi
  obtain ⟨b, off, hA, hs, hb, c0, c1, c2, c3, c4, c5⟩ := hO.rd.car hi'
  have hr := hR.get i hi' hi
  obtain ⟨pa, a, ta, b', hm, _, _⟩ := hr.m.open_
  rw [hm] at c2 c3 c4
  rw [hr.ent] at c0
  rw [hr.com] at c1
  rw [hr.code] at c5
  refine ⟨b, off, hA, hb, ?_, pa, ta, a, b', c0, c1, c2, c3, c4, c5, hm ▸ hr.m⟩
  rw [hlr] at hs
  exact hs

def es21 : List Ent := [⟨1, 2, 0, 0⟩, ⟨2, 3, 0, 0⟩]
def cars21 : List Car := [⟨1, 2, ⟨[1, 2], a14, ⟨#[]⟩⟩, 7⟩, ⟨2, 3, ⟨[4, 3], ab14, ⟨#[]⟩⟩, 7⟩]
theorem cs14_cars : trainF cs14 1 es21 2 = cars21 := by kernel_rfl
theorem cs14_cars1 : trainF cs14 1 es21 1 = [⟨1, 2, ⟨[1, 2], a14, ⟨#[]⟩⟩, 7⟩] := by kernel_rfl

set_option maxHeartbeats 4000000 in
theorem awake21_calls (w : World) : Calls Tryz.prog 44 #[] w (SamePost w true) := by
  go_enter Tryz.func44, Tryz.ntmps44
  go_wp2_with fail
  have hB0 := Blk.new w 3 #[.int .i64 1]
  have hx0 : Ext w (w.alloc (.cells #[.int .i64 1] 3)) := (Kp.refl _ _).alloc _
  have hz0 : (w.alloc (.cells #[.int .i64 1] 3)).heap.size = w.heap.size + 1 := by simp
  generalize w.alloc (.cells #[.int .i64 1] 3) = W0 at hB0 hx0 hz0 ⊢
  have hB1 := Blk.new W0 39 #[.string ⟨#[97]⟩, .string ⟨#[]⟩]
  have hx1 : Ext W0 (W0.alloc (.cells #[.string ⟨#[97]⟩, .string ⟨#[]⟩] 39)) := (Kp.refl _ _).alloc _
  have hz1 : (W0.alloc (.cells #[.string ⟨#[97]⟩, .string ⟨#[]⟩] 39)).heap.size = W0.heap.size + 1 := by simp
  generalize W0.alloc (.cells #[.string ⟨#[97]⟩, .string ⟨#[]⟩] 39) = W1 at hB1 hx1 hz1 ⊢
  have hB2 := Blk.new W1 3 #[.int .i64 1]
  have hx2 : Ext W1 (W1.alloc (.cells #[.int .i64 1] 3)) := (Kp.refl _ _).alloc _
  have hz2 : (W1.alloc (.cells #[.int .i64 1] 3)).heap.size = W1.heap.size + 1 := by simp
  generalize W1.alloc (.cells #[.int .i64 1] 3) = W2 at hB2 hx2 hz2 ⊢
  have hB3 := Blk.new W2 39 #[.string ⟨#[98]⟩, .string ⟨#[]⟩]
  have hx3 : Ext W2 (W2.alloc (.cells #[.string ⟨#[98]⟩, .string ⟨#[]⟩] 39)) := (Kp.refl _ _).alloc _
  have hz3 : (W2.alloc (.cells #[.string ⟨#[98]⟩, .string ⟨#[]⟩] 39)).heap.size = W2.heap.size + 1 := by simp
  generalize W2.alloc (.cells #[.string ⟨#[98]⟩, .string ⟨#[]⟩] 39) = W3 at hB3 hx3 hz3 ⊢
  have hB4 := Blk.new W3 42 #[.slice none 0 0, .slice none 0 0, .string ⟨#[]⟩, .slice (some ⟨w.heap.size, 0, none⟩) 1 1, .slice (some ⟨w.heap.size + 1, 0, none⟩) 1 1, .string ⟨#[]⟩, .slice (some ⟨w.heap.size + 1 + 1, 0, none⟩) 1 1, .slice (some ⟨w.heap.size + 1 + 1 + 1, 0, none⟩) 1 1, .string ⟨#[]⟩]
  have hx4 : Ext W3 (W3.alloc (.cells #[.slice none 0 0, .slice none 0 0, .string ⟨#[]⟩, .slice (some ⟨w.heap.size, 0, none⟩) 1 1, .slice (some ⟨w.heap.size + 1, 0, none⟩) 1 1, .string ⟨#[]⟩, .slice (some ⟨w.heap.size + 1 + 1, 0, none⟩) 1 1, .slice (some ⟨w.heap.size + 1 + 1 + 1, 0, none⟩) 1 1, .string ⟨#[]⟩] 42)) := (Kp.refl _ _).alloc _
  have hz4 : (W3.alloc (.cells #[.slice none 0 0, .slice none 0 0, .string ⟨#[]⟩, .slice (some ⟨w.heap.size, 0, none⟩) 1 1, .slice (some ⟨w.heap.size + 1, 0, none⟩) 1 1, .string ⟨#[]⟩, .slice (some ⟨w.heap.size + 1 + 1, 0, none⟩) 1 1, .slice (some ⟨w.heap.size + 1 + 1 + 1, 0, none⟩) 1 1, .string ⟨#[]⟩] 42)).heap.size = W3.heap.size + 1 := by simp
  generalize W3.alloc (.cells #[.slice none 0 0, .slice none 0 0, .string ⟨#[]⟩, .slice (some ⟨w.heap.size, 0, none⟩) 1 1, .slice (some ⟨w.heap.size + 1, 0, none⟩) 1 1, .string ⟨#[]⟩, .slice (some ⟨w.heap.size + 1 + 1, 0, none⟩) 1 1, .slice (some ⟨w.heap.size + 1 + 1 + 1, 0, none⟩) 1 1, .string ⟨#[]⟩] 42) = W4 at hB4 hx4 hz4 ⊢
  have hs1 : W0.heap.size = w.heap.size + 1 := by omega
  rw [hs1] at hB1
  have hs2 : W1.heap.size = w.heap.size + 1 + 1 := by omega
  rw [hs2] at hB2
  have hs3 : W2.heap.size = w.heap.size + 1 + 1 + 1 := by omega
  rw [hs3] at hB3
  have hs4 : W3.heap.size = w.heap.size + 1 + 1 + 1 + 1 := by omega
  rw [hs4] at hB4
  have hC0 := ((((hB0.ext hx1).ext hx2).ext hx3).ext hx4)
  have hC1 := (((hB1.ext hx2).ext hx3).ext hx4)
  have hC2 := ((hB2.ext hx3).ext hx4)
  have hC3 := (hB3.ext hx4)
  have hC4 := hB4
  have HXW := Lib.hid ((((hx0.trans hx1).trans hx2).trans hx3).trans hx4)
  have hRk : RepK (fun k => k < W4.heap.size) W4 [⟨⟨none, 0, 0⟩, ⟨none, 0, 0⟩, ⟨#[]⟩⟩, ⟨⟨some ⟨w.heap.size, 0, none⟩, 1, 1⟩, ⟨some ⟨w.heap.size + 1, 0, none⟩, 1, 1⟩, ⟨#[]⟩⟩, ⟨⟨some ⟨w.heap.size + 1 + 1, 0, none⟩, 1, 1⟩, ⟨some ⟨w.heap.size + 1 + 1 + 1, 0, none⟩, 1, 1⟩, ⟨#[]⟩⟩] cs14 := ⟨⟨Rd.nil _ _, Rd.nil _ _, rfl⟩, ⟨rd_of_blk (E := EI) (n := 1) hC0 rfl (by omega), rd_of_blk (E := EF) (n := 1) (ys := a14) hC1 rfl (by omega), rfl⟩, ⟨rd_of_blk (E := EI) (n := 1) hC2 rfl (by omega), rd_of_blk (E := EF) (n := 1) (ys := b14) hC3 rfl (by omega), rfl⟩, trivial⟩
  have hRd : Rd EK (fun k => k < W4.heap.size) W4 (.slice (some ⟨w.heap.size + 1 + 1 + 1 + 1, 0, none⟩) 3 3) [⟨⟨none, 0, 0⟩, ⟨none, 0, 0⟩, ⟨#[]⟩⟩, ⟨⟨some ⟨w.heap.size, 0, none⟩, 1, 1⟩, ⟨some ⟨w.heap.size + 1, 0, none⟩, 1, 1⟩, ⟨#[]⟩⟩, ⟨⟨some ⟨w.heap.size + 1 + 1, 0, none⟩, 1, 1⟩, ⟨some ⟨w.heap.size + 1 + 1 + 1, 0, none⟩, 1, 1⟩, ⟨#[]⟩⟩] := rd_of_blk (E := EK) (n := 3) hC4 rfl (by omega)
  have HMd := Lib.hid (made21_calls _ _ cs14 _ W4 hRd hRk (fun k hk => hk) cs14_small (by decide))
  clear hB0 hx0 hz0 hC0 hB1 hx1 hz1 hC1 hB2 hx2 hz2 hC2 hB3 hx3 hz3 hC3 hB4 hx4 hz4 hC4 hs1 hs2 hs3 hs4 hRk hRd
  refine HMd.out.mono ?_
  rintro e w1 ⟨rb, wb, I, D, D', rfl, hT⟩
  rw [cs14_made] at hT
  have HT := Lib.hid hT.r
  have HX1 := Lib.hid (HXW.out.trans hT.x)
  clear HMd hT HXW
  go_wp2_with fail
  have hB5 := Blk.new w1 79 #[.int .i64 1, .int .i64 2, .int .i64 0, .int .i64 0, .int .i64 2, .int .i64 3, .int .i64 0, .int .i64 0]
  have hx5 : Ext w1 (w1.alloc (.cells #[.int .i64 1, .int .i64 2, .int .i64 0, .int .i64 0, .int .i64 2, .int .i64 3, .int .i64 0, .int .i64 0] 79)) := (Kp.refl _ _).alloc _
  generalize (w1.alloc (.cells #[.int .i64 1, .int .i64 2, .int .i64 0, .int .i64 0, .int .i64 2, .int .i64 3, .int .i64 0, .int .i64 0] 79)) = w5 at hB5 hx5 ⊢
  have HEach := Lib.hid fun W (hW : Ext w5 W) => each_calls _ es21 _ W (rd_of_blk (E := EE) (n := 2) (ys := es21) (hB5.ext hW) rfl (by omega))
  have HCars := Lib.hid fun W (hW : Ext w5 W) s S hs hS m => cars_calls (HT.out.ext (hx5.trans hW)) cs14_good (by decide) 1 s es21 S hs hS m
  have HX5 := Lib.hid (HX1.out.trans hx5)
  clear hB5 hx5 HT
  refine (HEach.out w5 (Kp.refl _ _)).mono ?_
  rintro e w6 ⟨s6, rfl, hs6, hx6, hz6⟩
  have hc := HCars.out w6 hx6 s6 _ hs6 (fun k hk => by rcases hk with hk | rfl <;> omega) 2
  rw [cs14_cars] at hc
  have HC := Lib.hid hc
  have HX6 := Lib.hid hx6
  clear hc hs6 hx6 hz6
  go_wp2_with fail
  refine HC.out.mono ?_
  rintro e w7 ⟨v, rows, J, rfl, hN, hR, -, hx7⟩
  obtain ⟨A, c, rfl, hcell⟩ := cars_open hN hR
  obtain ⟨b, off, rfl, hb, -, pa, ta, pc, tc, a0, a1, a2, a3, a4, a5, -⟩ := hcell 0 (by decide)
  obtain ⟨b', off', hA', -, -, pa', ta', pc', tc', d0, d1, d2, d3, d4, d5, -⟩ := hcell 1 (by decide)
  injection hA' with hA'
  injection hA' with h1 h2
  subst h1 h2
  have a0' : w7.cell? ⟨b, off, none⟩ = some (.int .i64 1) := a0
  have a5' : w7.cell? ⟨b, off + 5, none⟩ = some (.int .i64 7) := a5
  have d3' : w7.cell? ⟨b, off + 6 + 2 + 1, none⟩ = some (.slice ta' 2 tc') := d3
  have d3'' : w7.cell? ⟨b, off + 9, none⟩ = some (.slice ta' 2 tc') := d3
  have HX7 := Lib.hid (HX6.out.trans hx7)
  clear a0 a1 a2 a3 a4 a5 d0 d1 d2 d3 d4 d5 hcell hN hR hx7 HC
  rw [show cars21.length = 2 from rfl]
  go_wp2_with fail
  refine (HEach.out w7 HX7.out).mono ?_
  rintro e w8 ⟨s8, rfl, hs8, hx8, hz8⟩
  have hc := HCars.out w8 (HX7.out.trans hx8) s8 _ hs8 (fun k hk => by rcases hk with hk | rfl <;> omega) 1
  rw [cs14_cars1] at hc
  have HC := Lib.hid hc
  have HX8 := Lib.hid ((HX5.out.trans HX7.out).trans hx8)
  clear hc hs8 hx8 hz8
  go_wp2_with fail
  refine HC.out.mono ?_
  rintro e w9 ⟨v, rows, J, rfl, hN, hR, -, hx9⟩
  obtain ⟨A, c, rfl, -⟩ := cars_open hN hR
  clear hN hR HC
  rw [show ([⟨1, 2, ⟨[1, 2], a14, ⟨#[]⟩⟩, 7⟩] : List Car).length = 1 from rfl]
  go_wp2_with fail
  go_ret
  exact ⟨rfl, HX8.out.trans hx9⟩

end Go.Proofs.YtgjbfkaepalkiaaGreatDoor
