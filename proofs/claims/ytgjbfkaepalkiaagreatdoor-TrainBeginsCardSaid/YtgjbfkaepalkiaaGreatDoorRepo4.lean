/-
  repo: Add.
-/
import Derived.Test.YtgjbfkaepalkiaaGreatDoorRef10
import Derived.Deep.RegionHeld3
import Derived.Deep.DrawnRows
namespace Go.Proofs.YtgjbfkaepalkiaaGreatDoor
open Go.RowKit
set_option linter.unusedVariables false
set_option linter.unusedSimpArgs false
attribute [local go_sem] Oper.semAt_some

/-- append, as a step of a drawn region. -/
theorem step_appendK {α : Type} {E : El α} {P : Program} {T e : TypeId} {bytes : Nat} (ti : TI E P T e bytes) {ops : Array Oper} {o : Oper} {a : Act} {W : World} {K : Act → World → Prop} {Q : Exit → Act → World → Prop} {EE : Prop} {s x : Operand} (hgd : o.guard = none)
    (ho : o.op = .call { callee := .builtin .append, args := #[s, x], argTypes := #[T, T] }) {v u : Value} {xs ys : List α} {S : Fp} (hN : Own E e W v xs) (hrd : Rd E S W u ys) (hs : a.eval s = v) (hx : a.eval x = u)
    (hb : (xs.length + ys.length) * bytes ≤ 140737488355328) (hm : xs.length + ys.length ≤ maxLen)
    (h : ∀ v' w', Own E e w' v' (xs ++ ys) → Kp (fun k => v.ownBlock ≠ some k) W w' → (v'.ownBlock = v.ownBlock ∨ v'.ownBlock = some W.heap.size) → K (a.put o.dst v') w') :
    if Region.wanted o (yielded ops a.tmps) = true then Oper.wp P o a W K Q else EE := by
  have hw : Region.wanted o (yielded ops a.tmps) = true := by simp [Region.wanted, hgd]
  rw [if_pos hw]
  exact wp_append ti ho hs hx hN hrd hb hm h

section
variable {I D : Fp} {rb : Nat} {cs : List Cm} {room : Nat} {w : World}

/-- The boxes of the receiver and of the commit. -/
structure AddQ (w W : World) (rb : Nat) (a b c : Value) : Prop where
  x : Ext w W
  b1 : Blk W w.heap.size 25 #[rp rb]
  b2 : Blk W (w.heap.size + 1) 42 #[a, b, c]
theorem AddQ.ext {W W' : World} {a b c : Value} (h : AddQ w W rb a b c) (hx : Ext W W') : AddQ w W' rb a b c := ⟨h.x.trans hx, h.b1.ext hx, h.b2.ext hx⟩
theorem AddQ.new {a b c : Value} : AddQ w ((w.alloc (.cells #[rp rb] 25)).alloc (.cells #[a, b, c] 42)) rb a b c := by
  refine ⟨((Kp.refl _ w).alloc _).alloc _, (Blk.new w 25 #[rp rb]).ext ((Kp.refl _ _).alloc _), ?_⟩
  have h := Blk.new (w.alloc (.cells #[rp rb] 25)) 42 #[a, b, c]
  rwa [World.size_alloc] at h
theorem AddPost.same {T : TypeId} {c : Cm} {n m : Nat} {w' : World} {v : Value} (h : RepoX T I D w rb cs room) (ha : addC cs room c = (cs, n, m)) (hx : Ext w w') (hv : v = .tuple #[.int .i64 n, .int .i64 m]) : AddPost T I D w rb cs room c (.returned v) w' := by
  refine ⟨by rw [ha, hv], I, D, by rw [ha]; exact h.ext hx, Sub.refl' _ hx.size, Sub.refl' _ hx.size, Kp.of_ext hx⟩

set_option maxHeartbeats 4000000 in
/-- Add. -/
theorem addR_calls (h : RepoX 99 I D w rb cs room) (s : KS) (c : Cm) (T : Fp) (hR : RdC T w s c) (hs : SmallC c) (hcl : cs.length ≤ 1000) (hrm : room ≤ 1000) :
    Calls Tryz.prog 43 #[.pointer (some ⟨rb, 0, none⟩), s.val] w (AddPost 99 I D w rb cs room c) := by
  obtain ⟨lv, rows, hB, hown, hrep, hD, hg⟩ := h.ex
  have hlen := hrep.len
  obtain ⟨Al, nl, cl, hlv⟩ := hown.slice
  subst hlv
  have hnl : nl = cs.length := by obtain ⟨_, _, h, _⟩ := hown.rd; injection h with _ h _; omega
  subst hnl
  have c0 : w.cell? ⟨rb, 0, none⟩ = some (.slice Al cs.length cl) := hB.cell 0
  have c1 : w.cell? ⟨rb, 1, none⟩ = some (.int .i64 room) := hB.cell 1
  have hrb := hB.lt
  have hne1 : rb ≠ w.heap.size := by omega
  have hne2 : rb ≠ w.heap.size + 1 := by omega
  have HM := Lib.hid fun W (hW : Ext w W) => mayC_calls s c T W (hR.ext hW) hs.2.1 hs.2.2
  have HCt := Lib.hid fun W (hQ : AddQ w W rb s.p.val s.t.val (.string s.note)) => containsI_calls (rb := rb) (w := W) s.p.val c.parents w.heap.size cs.length cl Al T (hR.ext hQ.x).p hs.1 hQ.b1.cell0 ((hQ.x.cell (p := ⟨rb, 0, none⟩) hrb trivial).trans c0)
  have HFd := Lib.hid fun W (hW : Ext w W) => findR_calls (h.ext hW) s c T (hR.ext hW)
  have HOw := Lib.hid fun W (hW : Ext w W) => own_calls s c T W (hR.ext hW) hs.1 hs.2.1
  have hA : addC cs room c = if mayC c = false then (cs, 0, 6) else if (c.parents.any (badP cs.length)) = true then (cs, 0, 7) else if 0 < findC cs c then (cs, findC cs c, 0) else if room ≤ cs.length then (cs, 0, 3) else (cs ++ [c], cs.length + 1, 0) := rfl
  have HA := Lib.hid hA
  have HH := Lib.hid h
  have HB := Lib.hid hB
  have HO := Lib.hid hown
  have HRp := Lib.hid hrep
  have HD := Lib.hid hD
  have HG := Lib.hid hg
  obtain ⟨⟨pa, pn, pc⟩, ⟨ta, tn, tc⟩, nt⟩ := s
  dsimp only [SliceV.val, KS.val] at HM HCt HFd HOw
  clear h hR hs hB hown hrep hD hg hA
  obtain ⟨m, hm⟩ : ∃ m, cs.length = m := ⟨_, rfl⟩
  rw [hm] at c0 HCt HA HB HO HG hcl
  have HLM := Lib.hid hm
  have HLN := Lib.hid hlen
  clear hm hlen
  show Calls _ _ #[_, .agg #[.slice pa pn pc, .slice ta tn tc, .string nt]] w _
  go_enter Tryz.func43, Tryz.ntmps43
  go_wp2_with fail
  have hQ0 := AddQ.new (w := w) (rb := rb) (a := .slice pa pn pc) (b := .slice ta tn tc) (c := .string nt)
  refine (HM.out _ hQ0.x).mono ?_
  rintro e w1 ⟨rfl, hx1⟩
  have hQ1 := hQ0.ext hx1
  clear HM hQ0 hx1
  obtain ⟨b, hb⟩ : ∃ b, mayC c = b := ⟨_, rfl⟩
  rw [hb] at HA ⊢
  have d0 := hQ1.b1.cell0
  have e0 : w1.cell? ⟨w.heap.size + 1, 0, none⟩ = some (.slice pa pn pc) := hQ1.b2.cell 0
  have e1 : w1.cell? ⟨w.heap.size + 1, 1, none⟩ = some (.slice ta tn tc) := hQ1.b2.cell 1
  have e2 : w1.cell? ⟨w.heap.size + 1, 2, none⟩ = some (.string nt) := hQ1.b2.cell 2
  have HQ1 := Lib.hid hQ1
  clear hQ1 hb
  cases b with
  | false =>
    go_wp2_with fail
    go_returns
    exact AddPost.same HH.out (by rw [HA.out]; rfl) HQ1.out.x rfl
  | true =>
    go_wp2_with fail
    refine (HCt.out _ HQ1.out).mono ?_
    rintro e w1' ⟨rfl, rfl⟩
    clear HCt
    obtain ⟨b, hb⟩ : ∃ b, c.parents.any (badP m) = b := ⟨_, rfl⟩
    rw [hb] at HA ⊢
    clear hb
    cases b with
    | true =>
      go_wp2_with fail
      go_returns
      exact AddPost.same HH.out (by rw [HA.out]; rfl) HQ1.out.x rfl
    | false =>
      go_wp2_with fail
      refine (HFd.out _ HQ1.out.x).mono ?_
      rintro e w2 ⟨rfl, hx2⟩
      have hQ2 := HQ1.out.ext hx2
      clear HFd HQ1 d0 e0 e1 e2 hx2
      obtain ⟨f, hf⟩ : ∃ f, findC cs c = f := ⟨_, rfl⟩
      rw [hf] at HA ⊢
      have d0 := hQ2.b1.cell0
      have r0 : w2.cell? ⟨rb, 0, none⟩ = some (.slice Al m cl) := (hQ2.x.cell (p := ⟨rb, 0, none⟩) hrb trivial).trans c0
      have r1 : w2.cell? ⟨rb, 1, none⟩ = some (.int .i64 room) := (hQ2.x.cell (p := ⟨rb, 1, none⟩) hrb trivial).trans c1
      have HQ2 := Lib.hid hQ2
      clear hQ2 hf
      by_cases h0 : 0 < f
      · have hd0 : decide ((0 : Int) < (f : Int)) = true := decide_eq_true (by omega)
        go_wp2_with fail
        go_returns
        exact AddPost.same HH.out (by rw [HA.out, if_neg (by simp), if_neg (by simp), if_pos h0]) HQ2.out.x rfl
      · have hd0 : decide ((0 : Int) < (f : Int)) = false := decide_eq_false (by omega)
        by_cases hr : room ≤ m
        · have hdr : decide ((room : Int) ≤ (m : Int)) = true := decide_eq_true (by omega)
          go_wp2_with fail
          go_quiet (fail)
          go_wp2_with fail
          go_returns
          exact AddPost.same HH.out (by rw [HA.out, if_neg (by simp), if_neg (by simp), if_neg h0, if_pos hr]) (HQ2.out.x.drewN _) rfl
        · have hdr : decide ((room : Int) ≤ (m : Int)) = false := decide_eq_false (by omega)
          have HA2 : Hid (addC cs room c = (cs ++ [c], m + 1, 0)) := Lib.hid (by rw [HA.out, if_neg (by simp), if_neg (by simp), if_neg h0, if_neg hr])
          clear HA
          go_wp2_with fail
          go_quiet (fail)
          obtain ⟨wd, hwd⟩ : ∃ wd, w2.drewN nq = wd := ⟨_, rfl⟩
          rw [hwd]
          have hQ : AddQ w wd rb (.slice pa pn pc) (.slice ta tn tc) (.string nt) := HQ2.out.ext (by rw [← hwd]; exact (Kp.refl _ _).drewN _)
          clear hwd HQ2 d0 r0 r1
          have HQ := Lib.hid hQ
          have HF := Lib.hid fun W (hW : AddQ w W rb (.slice pa pn pc) (.slice ta tn tc) (.string nt)) => (And.intro hW.b1.cell0 (And.intro (hW.b2.cell 0) (And.intro (hW.b2.cell 1) (hW.b2.cell 2))) : W.cell? ⟨w.heap.size, 0, none⟩ = some (rp rb) ∧ W.cell? ⟨w.heap.size + 1, 0, none⟩ = some (.slice pa pn pc) ∧ W.cell? ⟨w.heap.size + 1, 1, none⟩ = some (.slice ta tn tc) ∧ W.cell? ⟨w.heap.size + 1, 2, none⟩ = some (.string nt))
          clear hQ
          go_wp2_with fail
          have HQd : AddQ w wd.drew rb (.slice pa pn pc) (.slice ta tn tc) (.string nt) := HQ.out.ext (Kp.refl _ _).drew
          have HQ := Lib.hid HQd
          clear HQd
          obtain ⟨w0, hw0⟩ : ∃ w0, wd.drew = w0 := ⟨_, rfl⟩
          rw [hw0] at HQ
          refine wp_region_held_drew (S := (fun W => W.cell? ⟨w.heap.size, 0, none⟩ = some (rp rb) ∧ W.cell? ⟨w.heap.size + 1, 0, none⟩ = some (.slice pa pn pc) ∧ W.cell? ⟨w.heap.size + 1, 1, none⟩ = some (.slice ta tn tc) ∧ W.cell? ⟨w.heap.size + 1, 2, none⟩ = some (.string nt))) (by kernel_rfl) ?_ (fun hHeld => ?_)
          · rw [hw0]; exact HF.out _ HQ.out
          rw [hw0]
          have hHeld2 : (fun W => W.cell? ⟨w.heap.size, 0, none⟩ = some (rp rb) ∧ W.cell? ⟨w.heap.size + 1, 0, none⟩ = some (.slice pa pn pc) ∧ W.cell? ⟨w.heap.size + 1, 1, none⟩ = some (.slice ta tn tc) ∧ W.cell? ⟨w.heap.size + 1, 2, none⟩ = some (.string nt)) w0 := HF.out _ HQ.out
          clear hw0 hHeld
          have r0 : w0.cell? ⟨rb, 0, none⟩ = some (.slice Al m cl) := (HQ.out.x.cell (p := ⟨rb, 0, none⟩) hrb trivial).trans c0
          refine wpAnyH_take (i := 0) (v := ?_) rfl (by kernel_rfl) (by kernel_rfl) (by kernel_rfl) (fun _ _ _ h => h) (Or.inl ⟨by rfl, ?_⟩) (by assumption) ?_
          rotate_left
          · intro w hSw; (try dsimp only at hSw); go_simp; (try with_reducible rfl)
          try simp only [Act.put, List.setIfInBounds_toArray, List.set_cons_zero, List.set_cons_succ]
          refine wpAnyH_take (i := 1) (v := ?_) rfl (by kernel_rfl) (by kernel_rfl) (by kernel_rfl) (fun _ _ _ h => h) (Or.inl ⟨by rfl, ?_⟩) (by assumption) ?_
          rotate_left
          · intro w hSw; (try dsimp only at hSw); go_simp; (try with_reducible rfl)
          try simp only [Act.put, List.setIfInBounds_toArray, List.set_cons_zero, List.set_cons_succ]
          refine wpAnyH_take (i := 2) (v := ?_) rfl (by kernel_rfl) (by kernel_rfl) (by kernel_rfl) (fun _ _ _ h => h) (Or.inl ⟨by rfl, ?_⟩) (by assumption) ?_
          rotate_left
          · intro w hSw; (try dsimp only at hSw); go_simp; (try with_reducible rfl)
          try simp only [Act.put, List.setIfInBounds_toArray, List.set_cons_zero, List.set_cons_succ]
          refine wpAnyH_take (i := 3) (v := ?_) rfl (by kernel_rfl) (by kernel_rfl) (by kernel_rfl) (fun _ _ _ h => h) (Or.inl ⟨by rfl, ?_⟩) (by assumption) ?_
          rotate_left
          · intro w hSw; (try dsimp only at hSw); go_simp; (try with_reducible rfl)
          try simp only [Act.put, List.setIfInBounds_toArray, List.set_cons_zero, List.set_cons_succ]
          refine wpAnyH_take (i := 5) (v := ?_) rfl (by kernel_rfl) (by kernel_rfl) (by kernel_rfl) (fun _ _ _ h => h) (Or.inl ⟨by rfl, ?_⟩) (by assumption) ?_
          rotate_left
          · intro w hSw; (try dsimp only at hSw); go_simp; (try with_reducible rfl)
          try simp only [Act.put, List.setIfInBounds_toArray, List.set_cons_zero, List.set_cons_succ]
          refine wpAnyH_ready (rs := [4, 6]) (by kernel_rfl) (by simp) ?_
          refine AllReadyH.cons rfl (fun K hK => ?_) ?_
          · skip
            go_simp
            refine hK.out _ _ ?_ (fun hHeld => ?_)
            · (try dsimp only); exact HF.out _ HQ.out
            clear hK K
            try simp only [Act.put, List.setIfInBounds_toArray, List.set_cons_zero, List.set_cons_succ]
            refine wpAnyH_ready (rs := [6]) (by kernel_rfl) (by simp) ?_
            refine AllReadyH.cons rfl (fun K hK => ?_) ?_
            · skip
              go_simp
              refine (HOw.out _ HQ.out.x).mono ?_
              rintro e w3 ⟨⟨⟨x1, y1, z1⟩, ⟨x2, y2, z2⟩, nt3⟩, rfl, hN3, hx3⟩
              have HN := Lib.hid hN3
              have HX3 := Lib.hid hx3
              have HQ3 := HQ.out.ext hx3
              have r3 : w3.cell? ⟨rb, 0, none⟩ = some (.slice Al m cl) := (HQ3.x.cell (p := ⟨rb, 0, none⟩) hrb trivial).trans c0
              have hne3 : rb ≠ w3.heap.size := by have := HQ3.x.size; omega
              clear hN3 hx3
              dsimp only [KS.val, SliceV.val]
              (try go_wp2_with fail)
              refine hK.out _ _ ?_ (fun hHeld => ?_)
              · (try dsimp only); exact HF.out _ HQ3
              clear hK K
              try simp only [Act.put, List.setIfInBounds_toArray, List.set_cons_zero, List.set_cons_succ]
              refine wpAnyH_ready (rs := [7]) (by kernel_rfl) (by simp) ?_
              refine AllReadyH.cons rfl (fun K hK => ?_) ?_
              · skip
                go_simp
                refine hK.out _ _ ?_ (fun hHeld => ?_)
                · (try dsimp only); exact HF.out _ (HQ3.ext ((Kp.refl _ _).alloc _))
                clear hK K
                try simp only [Act.put, List.setIfInBounds_toArray, List.set_cons_zero, List.set_cons_succ]
                refine wpAnyH_ready (rs := [8]) (by kernel_rfl) (by simp) ?_
                refine AllReadyH.cons rfl (fun K hK => ?_) ?_
                · skip
                  refine step_appendK (E := EK) (v := .slice Al m cl) (xs := rows) (ys := [⟨⟨x1, y1, z1⟩, ⟨x2, y2, z2⟩, nt3⟩]) tiK (by rfl) (by rfl) (HO.out.kp (HQ3.x.alloc _) fun _ _ => trivial) (Own.made (E := EK) w3 42 [⟨⟨x1, y1, z1⟩, ⟨x2, y2, z2⟩, nt3⟩] (by simp [maxLen])).rd (by rfl) (by rfl) (by have h1 := HLN.out; have h2 := HLM.out; simp; omega) (by have h1 := HLN.out; have h2 := HLM.out; unfold maxLen; simp; omega) ?_
                  intro v4 w4 hO4 hk4 hb4
                  obtain ⟨A4, n4, c4, rfl⟩ := hO4.slice
                  have hlr : (Value.slice Al m cl).ownBlock ≠ some rb := fun e => (HG.out rb e).2 rfl
                  have hl1 : ∀ g, (Value.slice Al m cl).ownBlock = some g → g < w.heap.size := fun g e => HO.out.lt e
                  have r4 : w4.cell? ⟨rb, 0, none⟩ = some (.slice Al m cl) := (hk4.cell (p := ⟨rb, 0, none⟩) (by have := HQ3.x.size; simp; omega) hlr).trans ((((Kp.refl All w3).alloc _).cell (p := ⟨rb, 0, none⟩) (by have := HQ3.x.size; show rb < _; omega) trivial).trans r3)
                  have hBr4 : Blk w4 rb 99 #[.slice Al m cl, .int .i64 room] := (HB.out.ext (HQ3.x.alloc _)).kp hk4 hlr
                  have fr4 := hBr4.frozen 0
                  have HQ4 : AddQ w w4 rb (.slice pa pn pc) (.slice ta tn tc) (.string nt) ∨ True := .inr trivial
                  have hS4 : w4.cell? ⟨w.heap.size, 0, none⟩ = some (rp rb) ∧ w4.cell? ⟨w.heap.size + 1, 0, none⟩ = some (.slice pa pn pc) ∧ w4.cell? ⟨w.heap.size + 1, 1, none⟩ = some (.slice ta tn tc) ∧ w4.cell? ⟨w.heap.size + 1, 2, none⟩ = some (.string nt) := by
                    have hz := HQ3.b2.lt
                    have hb1 := (HQ3.b1.ext ((Kp.refl All w3).alloc (.cells #[.slice x1 y1 z1, .slice x2 y2 z2, .string nt3] 42))).kp hk4 fun e => by have := hl1 _ e; omega
                    have hb2 := (HQ3.b2.ext ((Kp.refl All w3).alloc (.cells #[.slice x1 y1 z1, .slice x2 y2 z2, .string nt3] 42))).kp hk4 fun e => by have := hl1 _ e; omega
                    exact ⟨hb1.cell0, hb2.cell 0, hb2.cell 1, hb2.cell 2⟩
                  have hz4 : w.heap.size + 1 < w4.heap.size := by have h1 := HQ3.b2.lt; have h2 := hk4.size; simp at h2; omega
                  have HO4 := Lib.hid hO4
                  have HK4 := Lib.hid hk4
                  have HB4 := Lib.hid hb4
                  clear hO4 hk4 hb4
                  refine hK.out _ _ ?_ (fun hHeld => ?_)
                  · (try dsimp only); exact hS4
                  clear hK K
                  try simp only [Act.put, List.setIfInBounds_toArray, List.set_cons_zero, List.set_cons_succ]
                  refine wpAnyH_ready (rs := [9]) (by kernel_rfl) (by simp) ?_
                  refine AllReadyH.cons rfl (fun K hK => ?_) ?_
                  · skip
                    go_simp
                    refine hK.out _ _ ?_ (fun hHeld => ?_)
                    · (try dsimp only); exact hS4
                    clear hK K
                    try simp only [Act.put, List.setIfInBounds_toArray, List.set_cons_zero, List.set_cons_succ]
                    refine wpAnyH_ready (rs := [10]) (by kernel_rfl) (by simp) ?_
                    refine AllReadyH.cons rfl (fun K hK => ?_) ?_
                    · skip
                      go_simp
                      refine hK.out _ _ ?_ (fun hHeld => ?_)
                      · (try dsimp only); exact hS4
                      clear hK K
                      try simp only [Act.put, List.setIfInBounds_toArray, List.set_cons_zero, List.set_cons_succ]
                      refine wpAnyH_ready (rs := [11]) (by kernel_rfl) (by simp) ?_
                      refine AllReadyH.cons rfl (fun K hK => ?_) ?_
                      · skip
                        go_simp
                        refine hK.out _ _ ?_ (fun hHeld => ?_)
                        · (try dsimp only); (have hk5 : ∀ u, Kp (fun k => k ≠ rb) w4 (w4.setCell ⟨rb, 0, none⟩ u) := fun u => (Kp.refl _ w4).setCell (.inr (by simp)) _); exact ⟨((hk5 _).cell (p := ⟨w.heap.size, 0, none⟩) (by show w.heap.size < _; omega) (by show w.heap.size ≠ rb; omega)).trans hS4.1, ((hk5 _).cell (p := ⟨w.heap.size + 1, 0, none⟩) hz4 (by show w.heap.size + 1 ≠ rb; omega)).trans hS4.2.1, ((hk5 _).cell (p := ⟨w.heap.size + 1, 1, none⟩) hz4 (by show w.heap.size + 1 ≠ rb; omega)).trans hS4.2.2.1, ((hk5 _).cell (p := ⟨w.heap.size + 1, 2, none⟩) hz4 (by show w.heap.size + 1 ≠ rb; omega)).trans hS4.2.2.2⟩
                        clear hK K
                        try simp only [Act.put, List.setIfInBounds_toArray, List.set_cons_zero, List.set_cons_succ]
                        refine wpAnyH_done (by kernel_rfl) ?_ _
                        have hk5 : Kp (fun k => k ≠ rb) w4 (w4.setCell ⟨rb, 0, none⟩ (.slice A4 n4 c4)) := (Kp.refl _ w4).setCell (.inr (by simp)) _
                        have s0 : (w4.setCell ⟨rb, 0, none⟩ (.slice A4 n4 c4)).cell? ⟨w.heap.size, 0, none⟩ = some (rp rb) := (hk5.cell (p := ⟨w.heap.size, 0, none⟩) (by show w.heap.size < _; omega) (by show w.heap.size ≠ rb; omega)).trans hS4.1
                        have hn4 : n4 = m + 1 := by
                          obtain ⟨_, _, h, _⟩ := HO4.out.rd
                          injection h with _ h _
                          have h1 := HLN.out; have h2 := HLM.out
                          rw [List.length_append, List.length_singleton] at h
                          omega
                        subst hn4
                        clear hk5 hS4 hHeld fr4
                        go_wp2_with fail
                        go_returns
                        refine ⟨by rw [HA2.out]; rfl, ?_⟩
                        rw [HA2.out]
                        exact HH.out.add (lv := .slice Al m cl) HB.out HRp.out HD.out HG.out (HQ3.x.alloc (.cells #[.slice x1 y1 z1, .slice x2 y2 z2, .string nt3] 42)) ((HN.out.less (by have := HQ.out.x.size; omega)).ext ((Kp.refl _ _).alloc _)) HO4.out HK4.out HB4.out
                      exact AllReadyH.nil
                    exact AllReadyH.nil
                  exact AllReadyH.nil
                exact AllReadyH.nil
              exact AllReadyH.nil
            exact AllReadyH.nil
          refine AllReadyH.cons rfl (fun K hK => ?_) ?_
          · skip
            go_simp
            refine (HOw.out _ HQ.out.x).mono ?_
            rintro e w3 ⟨⟨⟨x1, y1, z1⟩, ⟨x2, y2, z2⟩, nt3⟩, rfl, hN3, hx3⟩
            have HN := Lib.hid hN3
            have HX3 := Lib.hid hx3
            have HQ3 := HQ.out.ext hx3
            have r3 : w3.cell? ⟨rb, 0, none⟩ = some (.slice Al m cl) := (HQ3.x.cell (p := ⟨rb, 0, none⟩) hrb trivial).trans c0
            have hne3 : rb ≠ w3.heap.size := by have := HQ3.x.size; omega
            clear hN3 hx3
            dsimp only [KS.val, SliceV.val]
            (try go_wp2_with fail)
            refine hK.out _ _ ?_ (fun hHeld => ?_)
            · (try dsimp only); exact HF.out _ HQ3
            clear hK K
            try simp only [Act.put, List.setIfInBounds_toArray, List.set_cons_zero, List.set_cons_succ]
            refine wpAnyH_ready (rs := [4, 7]) (by kernel_rfl) (by simp) ?_
            refine AllReadyH.cons rfl (fun K hK => ?_) ?_
            · skip
              go_simp
              refine hK.out _ _ ?_ (fun hHeld => ?_)
              · (try dsimp only); exact HF.out _ HQ3
              clear hK K
              try simp only [Act.put, List.setIfInBounds_toArray, List.set_cons_zero, List.set_cons_succ]
              refine wpAnyH_ready (rs := [7]) (by kernel_rfl) (by simp) ?_
              refine AllReadyH.cons rfl (fun K hK => ?_) ?_
              · skip
                go_simp
                refine hK.out _ _ ?_ (fun hHeld => ?_)
                · (try dsimp only); exact HF.out _ (HQ3.ext ((Kp.refl _ _).alloc _))
                clear hK K
                try simp only [Act.put, List.setIfInBounds_toArray, List.set_cons_zero, List.set_cons_succ]
                refine wpAnyH_ready (rs := [8]) (by kernel_rfl) (by simp) ?_
                refine AllReadyH.cons rfl (fun K hK => ?_) ?_
                · skip
                  refine step_appendK (E := EK) (v := .slice Al m cl) (xs := rows) (ys := [⟨⟨x1, y1, z1⟩, ⟨x2, y2, z2⟩, nt3⟩]) tiK (by rfl) (by rfl) (HO.out.kp (HQ3.x.alloc _) fun _ _ => trivial) (Own.made (E := EK) w3 42 [⟨⟨x1, y1, z1⟩, ⟨x2, y2, z2⟩, nt3⟩] (by simp [maxLen])).rd (by rfl) (by rfl) (by have h1 := HLN.out; have h2 := HLM.out; simp; omega) (by have h1 := HLN.out; have h2 := HLM.out; unfold maxLen; simp; omega) ?_
                  intro v4 w4 hO4 hk4 hb4
                  obtain ⟨A4, n4, c4, rfl⟩ := hO4.slice
                  have hlr : (Value.slice Al m cl).ownBlock ≠ some rb := fun e => (HG.out rb e).2 rfl
                  have hl1 : ∀ g, (Value.slice Al m cl).ownBlock = some g → g < w.heap.size := fun g e => HO.out.lt e
                  have r4 : w4.cell? ⟨rb, 0, none⟩ = some (.slice Al m cl) := (hk4.cell (p := ⟨rb, 0, none⟩) (by have := HQ3.x.size; simp; omega) hlr).trans ((((Kp.refl All w3).alloc _).cell (p := ⟨rb, 0, none⟩) (by have := HQ3.x.size; show rb < _; omega) trivial).trans r3)
                  have hBr4 : Blk w4 rb 99 #[.slice Al m cl, .int .i64 room] := (HB.out.ext (HQ3.x.alloc _)).kp hk4 hlr
                  have fr4 := hBr4.frozen 0
                  have HQ4 : AddQ w w4 rb (.slice pa pn pc) (.slice ta tn tc) (.string nt) ∨ True := .inr trivial
                  have hS4 : w4.cell? ⟨w.heap.size, 0, none⟩ = some (rp rb) ∧ w4.cell? ⟨w.heap.size + 1, 0, none⟩ = some (.slice pa pn pc) ∧ w4.cell? ⟨w.heap.size + 1, 1, none⟩ = some (.slice ta tn tc) ∧ w4.cell? ⟨w.heap.size + 1, 2, none⟩ = some (.string nt) := by
                    have hz := HQ3.b2.lt
                    have hb1 := (HQ3.b1.ext ((Kp.refl All w3).alloc (.cells #[.slice x1 y1 z1, .slice x2 y2 z2, .string nt3] 42))).kp hk4 fun e => by have := hl1 _ e; omega
                    have hb2 := (HQ3.b2.ext ((Kp.refl All w3).alloc (.cells #[.slice x1 y1 z1, .slice x2 y2 z2, .string nt3] 42))).kp hk4 fun e => by have := hl1 _ e; omega
                    exact ⟨hb1.cell0, hb2.cell 0, hb2.cell 1, hb2.cell 2⟩
                  have hz4 : w.heap.size + 1 < w4.heap.size := by have h1 := HQ3.b2.lt; have h2 := hk4.size; simp at h2; omega
                  have HO4 := Lib.hid hO4
                  have HK4 := Lib.hid hk4
                  have HB4 := Lib.hid hb4
                  clear hO4 hk4 hb4
                  refine hK.out _ _ ?_ (fun hHeld => ?_)
                  · (try dsimp only); exact hS4
                  clear hK K
                  try simp only [Act.put, List.setIfInBounds_toArray, List.set_cons_zero, List.set_cons_succ]
                  refine wpAnyH_ready (rs := [9]) (by kernel_rfl) (by simp) ?_
                  refine AllReadyH.cons rfl (fun K hK => ?_) ?_
                  · skip
                    go_simp
                    refine hK.out _ _ ?_ (fun hHeld => ?_)
                    · (try dsimp only); exact hS4
                    clear hK K
                    try simp only [Act.put, List.setIfInBounds_toArray, List.set_cons_zero, List.set_cons_succ]
                    refine wpAnyH_ready (rs := [10]) (by kernel_rfl) (by simp) ?_
                    refine AllReadyH.cons rfl (fun K hK => ?_) ?_
                    · skip
                      go_simp
                      refine hK.out _ _ ?_ (fun hHeld => ?_)
                      · (try dsimp only); exact hS4
                      clear hK K
                      try simp only [Act.put, List.setIfInBounds_toArray, List.set_cons_zero, List.set_cons_succ]
                      refine wpAnyH_ready (rs := [11]) (by kernel_rfl) (by simp) ?_
                      refine AllReadyH.cons rfl (fun K hK => ?_) ?_
                      · skip
                        go_simp
                        refine hK.out _ _ ?_ (fun hHeld => ?_)
                        · (try dsimp only); (have hk5 : ∀ u, Kp (fun k => k ≠ rb) w4 (w4.setCell ⟨rb, 0, none⟩ u) := fun u => (Kp.refl _ w4).setCell (.inr (by simp)) _); exact ⟨((hk5 _).cell (p := ⟨w.heap.size, 0, none⟩) (by show w.heap.size < _; omega) (by show w.heap.size ≠ rb; omega)).trans hS4.1, ((hk5 _).cell (p := ⟨w.heap.size + 1, 0, none⟩) hz4 (by show w.heap.size + 1 ≠ rb; omega)).trans hS4.2.1, ((hk5 _).cell (p := ⟨w.heap.size + 1, 1, none⟩) hz4 (by show w.heap.size + 1 ≠ rb; omega)).trans hS4.2.2.1, ((hk5 _).cell (p := ⟨w.heap.size + 1, 2, none⟩) hz4 (by show w.heap.size + 1 ≠ rb; omega)).trans hS4.2.2.2⟩
                        clear hK K
                        try simp only [Act.put, List.setIfInBounds_toArray, List.set_cons_zero, List.set_cons_succ]
                        refine wpAnyH_done (by kernel_rfl) ?_ _
                        have hk5 : Kp (fun k => k ≠ rb) w4 (w4.setCell ⟨rb, 0, none⟩ (.slice A4 n4 c4)) := (Kp.refl _ w4).setCell (.inr (by simp)) _
                        have s0 : (w4.setCell ⟨rb, 0, none⟩ (.slice A4 n4 c4)).cell? ⟨w.heap.size, 0, none⟩ = some (rp rb) := (hk5.cell (p := ⟨w.heap.size, 0, none⟩) (by show w.heap.size < _; omega) (by show w.heap.size ≠ rb; omega)).trans hS4.1
                        have hn4 : n4 = m + 1 := by
                          obtain ⟨_, _, h, _⟩ := HO4.out.rd
                          injection h with _ h _
                          have h1 := HLN.out; have h2 := HLM.out
                          rw [List.length_append, List.length_singleton] at h
                          omega
                        subst hn4
                        clear hk5 hS4 hHeld fr4
                        go_wp2_with fail
                        go_returns
                        refine ⟨by rw [HA2.out]; rfl, ?_⟩
                        rw [HA2.out]
                        exact HH.out.add (lv := .slice Al m cl) HB.out HRp.out HD.out HG.out (HQ3.x.alloc (.cells #[.slice x1 y1 z1, .slice x2 y2 z2, .string nt3] 42)) ((HN.out.less (by have := HQ.out.x.size; omega)).ext ((Kp.refl _ _).alloc _)) HO4.out HK4.out HB4.out
                      exact AllReadyH.nil
                    exact AllReadyH.nil
                  exact AllReadyH.nil
                exact AllReadyH.nil
              exact AllReadyH.nil
            refine AllReadyH.cons rfl (fun K hK => ?_) ?_
            · skip
              go_simp
              refine hK.out _ _ ?_ (fun hHeld => ?_)
              · (try dsimp only); exact HF.out _ (HQ3.ext ((Kp.refl _ _).alloc _))
              clear hK K
              try simp only [Act.put, List.setIfInBounds_toArray, List.set_cons_zero, List.set_cons_succ]
              refine wpAnyH_ready (rs := [4]) (by kernel_rfl) (by simp) ?_
              refine AllReadyH.cons rfl (fun K hK => ?_) ?_
              · skip
                have r3' : (w3.alloc (.cells #[.slice x1 y1 z1, .slice x2 y2 z2, .string nt3] 42)).cell? ⟨rb, 0, none⟩ = some (.slice Al m cl) := (((Kp.refl All w3).alloc _).cell (p := ⟨rb, 0, none⟩) (by have := HQ3.x.size; show rb < _; omega) trivial).trans r3
                go_simp
                refine hK.out _ _ ?_ (fun hHeld => ?_)
                · (try dsimp only); exact HF.out _ (HQ3.ext ((Kp.refl _ _).alloc _))
                clear hK K
                try simp only [Act.put, List.setIfInBounds_toArray, List.set_cons_zero, List.set_cons_succ]
                refine wpAnyH_ready (rs := [8]) (by kernel_rfl) (by simp) ?_
                refine AllReadyH.cons rfl (fun K hK => ?_) ?_
                · skip
                  refine step_appendK (E := EK) (v := .slice Al m cl) (xs := rows) (ys := [⟨⟨x1, y1, z1⟩, ⟨x2, y2, z2⟩, nt3⟩]) tiK (by rfl) (by rfl) (HO.out.kp (HQ3.x.alloc _) fun _ _ => trivial) (Own.made (E := EK) w3 42 [⟨⟨x1, y1, z1⟩, ⟨x2, y2, z2⟩, nt3⟩] (by simp [maxLen])).rd (by rfl) (by rfl) (by have h1 := HLN.out; have h2 := HLM.out; simp; omega) (by have h1 := HLN.out; have h2 := HLM.out; unfold maxLen; simp; omega) ?_
                  intro v4 w4 hO4 hk4 hb4
                  obtain ⟨A4, n4, c4, rfl⟩ := hO4.slice
                  have hlr : (Value.slice Al m cl).ownBlock ≠ some rb := fun e => (HG.out rb e).2 rfl
                  have hl1 : ∀ g, (Value.slice Al m cl).ownBlock = some g → g < w.heap.size := fun g e => HO.out.lt e
                  have r4 : w4.cell? ⟨rb, 0, none⟩ = some (.slice Al m cl) := (hk4.cell (p := ⟨rb, 0, none⟩) (by have := HQ3.x.size; simp; omega) hlr).trans ((((Kp.refl All w3).alloc _).cell (p := ⟨rb, 0, none⟩) (by have := HQ3.x.size; show rb < _; omega) trivial).trans r3)
                  have hBr4 : Blk w4 rb 99 #[.slice Al m cl, .int .i64 room] := (HB.out.ext (HQ3.x.alloc _)).kp hk4 hlr
                  have fr4 := hBr4.frozen 0
                  have HQ4 : AddQ w w4 rb (.slice pa pn pc) (.slice ta tn tc) (.string nt) ∨ True := .inr trivial
                  have hS4 : w4.cell? ⟨w.heap.size, 0, none⟩ = some (rp rb) ∧ w4.cell? ⟨w.heap.size + 1, 0, none⟩ = some (.slice pa pn pc) ∧ w4.cell? ⟨w.heap.size + 1, 1, none⟩ = some (.slice ta tn tc) ∧ w4.cell? ⟨w.heap.size + 1, 2, none⟩ = some (.string nt) := by
                    have hz := HQ3.b2.lt
                    have hb1 := (HQ3.b1.ext ((Kp.refl All w3).alloc (.cells #[.slice x1 y1 z1, .slice x2 y2 z2, .string nt3] 42))).kp hk4 fun e => by have := hl1 _ e; omega
                    have hb2 := (HQ3.b2.ext ((Kp.refl All w3).alloc (.cells #[.slice x1 y1 z1, .slice x2 y2 z2, .string nt3] 42))).kp hk4 fun e => by have := hl1 _ e; omega
                    exact ⟨hb1.cell0, hb2.cell 0, hb2.cell 1, hb2.cell 2⟩
                  have hz4 : w.heap.size + 1 < w4.heap.size := by have h1 := HQ3.b2.lt; have h2 := hk4.size; simp at h2; omega
                  have HO4 := Lib.hid hO4
                  have HK4 := Lib.hid hk4
                  have HB4 := Lib.hid hb4
                  clear hO4 hk4 hb4
                  refine hK.out _ _ ?_ (fun hHeld => ?_)
                  · (try dsimp only); exact hS4
                  clear hK K
                  try simp only [Act.put, List.setIfInBounds_toArray, List.set_cons_zero, List.set_cons_succ]
                  refine wpAnyH_ready (rs := [9]) (by kernel_rfl) (by simp) ?_
                  refine AllReadyH.cons rfl (fun K hK => ?_) ?_
                  · skip
                    go_simp
                    refine hK.out _ _ ?_ (fun hHeld => ?_)
                    · (try dsimp only); exact hS4
                    clear hK K
                    try simp only [Act.put, List.setIfInBounds_toArray, List.set_cons_zero, List.set_cons_succ]
                    refine wpAnyH_ready (rs := [10]) (by kernel_rfl) (by simp) ?_
                    refine AllReadyH.cons rfl (fun K hK => ?_) ?_
                    · skip
                      go_simp
                      refine hK.out _ _ ?_ (fun hHeld => ?_)
                      · (try dsimp only); exact hS4
                      clear hK K
                      try simp only [Act.put, List.setIfInBounds_toArray, List.set_cons_zero, List.set_cons_succ]
                      refine wpAnyH_ready (rs := [11]) (by kernel_rfl) (by simp) ?_
                      refine AllReadyH.cons rfl (fun K hK => ?_) ?_
                      · skip
                        go_simp
                        refine hK.out _ _ ?_ (fun hHeld => ?_)
                        · (try dsimp only); (have hk5 : ∀ u, Kp (fun k => k ≠ rb) w4 (w4.setCell ⟨rb, 0, none⟩ u) := fun u => (Kp.refl _ w4).setCell (.inr (by simp)) _); exact ⟨((hk5 _).cell (p := ⟨w.heap.size, 0, none⟩) (by show w.heap.size < _; omega) (by show w.heap.size ≠ rb; omega)).trans hS4.1, ((hk5 _).cell (p := ⟨w.heap.size + 1, 0, none⟩) hz4 (by show w.heap.size + 1 ≠ rb; omega)).trans hS4.2.1, ((hk5 _).cell (p := ⟨w.heap.size + 1, 1, none⟩) hz4 (by show w.heap.size + 1 ≠ rb; omega)).trans hS4.2.2.1, ((hk5 _).cell (p := ⟨w.heap.size + 1, 2, none⟩) hz4 (by show w.heap.size + 1 ≠ rb; omega)).trans hS4.2.2.2⟩
                        clear hK K
                        try simp only [Act.put, List.setIfInBounds_toArray, List.set_cons_zero, List.set_cons_succ]
                        refine wpAnyH_done (by kernel_rfl) ?_ _
                        have hk5 : Kp (fun k => k ≠ rb) w4 (w4.setCell ⟨rb, 0, none⟩ (.slice A4 n4 c4)) := (Kp.refl _ w4).setCell (.inr (by simp)) _
                        have s0 : (w4.setCell ⟨rb, 0, none⟩ (.slice A4 n4 c4)).cell? ⟨w.heap.size, 0, none⟩ = some (rp rb) := (hk5.cell (p := ⟨w.heap.size, 0, none⟩) (by show w.heap.size < _; omega) (by show w.heap.size ≠ rb; omega)).trans hS4.1
                        have hn4 : n4 = m + 1 := by
                          obtain ⟨_, _, h, _⟩ := HO4.out.rd
                          injection h with _ h _
                          have h1 := HLN.out; have h2 := HLM.out
                          rw [List.length_append, List.length_singleton] at h
                          omega
                        subst hn4
                        clear hk5 hS4 hHeld fr4
                        go_wp2_with fail
                        go_returns
                        refine ⟨by rw [HA2.out]; rfl, ?_⟩
                        rw [HA2.out]
                        exact HH.out.add (lv := .slice Al m cl) HB.out HRp.out HD.out HG.out (HQ3.x.alloc (.cells #[.slice x1 y1 z1, .slice x2 y2 z2, .string nt3] 42)) ((HN.out.less (by have := HQ.out.x.size; omega)).ext ((Kp.refl _ _).alloc _)) HO4.out HK4.out HB4.out
                      exact AllReadyH.nil
                    exact AllReadyH.nil
                  exact AllReadyH.nil
                exact AllReadyH.nil
              exact AllReadyH.nil
            exact AllReadyH.nil
          exact AllReadyH.nil
end

end Go.Proofs.YtgjbfkaepalkiaaGreatDoor
