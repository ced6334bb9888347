/-
  cortegeref10: Add.
-/
import Derived.Test.YtgjbfkaepalkiaaGreatDoorRef10
import Derived.Test.YtgjbfkaepalkiaaGreatDoorRepo4
namespace Go.Proofs.YtgjbfkaepalkiaaGreatDoor
open Go.RowKit
set_option linter.unusedVariables false
set_option linter.unusedSimpArgs false
attribute [local go_sem] Oper.semAt_some

section
variable {I D : Fp} {rb : Nat} {cs : List Cm} {room : Nat} {w : World}
theorem RepoX.addN {T : TypeId} {w4 : World} (h : RepoX T I D w rb cs room) {lv v' : Value} {rows : List KS} {s : KS} {c : Cm} (hB : Blk w rb T #[lv, .int .i64 room]) (hrep : RepK I w rows cs) (hD : D rb) (hR : RdC I w s c)
    (hk : Kp (fun k => k < w.heap.size) w w4) (hown : Own EK 42 w4 v' (rows ++ [s])) (hn : ∀ g, v'.ownBlock = some g → w.heap.size ≤ g) :
    ∃ D', RepoX T I D' (w4.setCell ⟨rb, 0, none⟩ v') rb (cs ++ [c]) room ∧ Sub D D' w (w4.setCell ⟨rb, 0, none⟩ v') ∧ Kp (fun k => ¬ D k) w (w4.setCell ⟨rb, 0, none⟩ v') := by
  have hrb := hB.lt
  have hz := hk.size
  have hkS : ∀ S : Fp, (∀ k, S k → k ≠ rb) → Kp S w4 (w4.setCell ⟨rb, 0, none⟩ v') := fun S hS => (Kp.refl _ w4).setCell (.inr fun e => hS _ e rfl) _
  have hkI : Kp I w w4 := hk.mono fun k hk _ => hk
  have hIr : ∀ k, I k → k ≠ rb := fun k hi e => h.apart k hi (e ▸ hD)
  refine ⟨fun k => D k ∨ v'.ownBlock = some k, ⟨⟨v', rows ++ [s], (hB.kp hk hrb).set_ 0 v', hown.kp (hkS (fun k => k ≠ rb) fun _ h => h) fun g e => by have := hn g e; omega, ?_, .inl hD, fun g e => ⟨.inr e, by have := hn g e; omega⟩⟩, ?_, ?_, ?_⟩, ?_, ?_⟩
  · exact ((hrep.kp hkI).kp (hkS I hIr)).snoc ((hR.kp hkI).kp (hkS I hIr))
  · rintro k hi (hd | hd)
    · exact h.apart k hi hd
    · have := hn k hd; have := h.li k hi; omega
  · intro k hi; have := h.li k hi; simp; omega
  · rintro k (hd | hd)
    · have := h.ld k hd; simp; omega
    · simpa using hown.lt hd
  · rintro k (hd | hd)
    · exact .inl hd
    · exact .inr ⟨hn k hd, by simpa using hown.lt hd⟩
  · exact (hk.mono fun k hk _ => hk).setCell (.inr fun e => e hD) _
/-- What adding a commit owes, where its lists are lent. -/
def RefAddPost (T : TypeId) (I D : Fp) (w : World) (rb : Nat) (cs : List Cm) (room : Nat) (c : Cm) (e : Ending) (w' : World) : Prop :=
  e = .returned (.tuple #[.int .i64 ((addC cs room c).2.1 : Int), .int .i64 ((addC cs room c).2.2 : Int)]) ∧ ∃ D', RepoX T I D' w' rb (addC cs room c).1 room ∧ Sub D D' w w' ∧ Kp (fun k => ¬ D k) w w'
theorem RefAddPost.same {T : TypeId} {c : Cm} {n m : Nat} {w' : World} {v : Value} (h : RepoX T I D w rb cs room) (ha : addC cs room c = (cs, n, m)) (hx : Ext w w') (hv : v = .tuple #[.int .i64 n, .int .i64 m]) : RefAddPost T I D w rb cs room c (.returned v) w' := by
  refine ⟨by rw [ha, hv], D, by rw [ha]; exact h.ext hx, Sub.refl' _ hx.size, Kp.of_ext hx⟩
theorem isSome_bad (cs : List Cm) (p : Int) : (getC cs p).isSome = !badP cs.length p := by
  have := getC_isSome cs p
  unfold badP
  by_cases h1 : p < 1
  · rw [decide_eq_true h1, Bool.true_or]
    cases hb : (getC cs p).isSome with
    | false => rfl
    | true => have := this.1 hb; omega
  · rw [decide_eq_false h1, Bool.false_or]
    by_cases h2 : (cs.length : Int) < p
    · rw [decide_eq_true h2]
      cases hb : (getC cs p).isSome with
      | false => rfl
      | true => have := this.1 hb; omega
    · rw [decide_eq_false h2]
      exact this.2 (by omega)

set_option maxHeartbeats 4000000 in
/-- Add. -/
theorem refAdd_calls (h : RepoX refT I D w rb cs room) (s : KS) (c : Cm) (hR : RdC I w s c) (hs : SmallC c) (hcl : cs.length ≤ 1000) (hrm : room ≤ 1000) :
    Calls Tryz.prog 57 #[.pointer (some ⟨rb, 0, none⟩), s.val] w (RefAddPost refT I D w rb cs room c) := by
  obtain ⟨lv, rows, hB, hown, hrep, hD, hg⟩ := h.ex
  have hlen := hrep.len
  obtain ⟨Al, nl, cl, hlv⟩ := hown.slice
  subst hlv
  have hnl : nl = cs.length := by obtain ⟨_, _, h, _⟩ := hown.rd; injection h with _ h _; omega
  subst hnl
  have c0 : w.cell? ⟨rb, 0, none⟩ = some (.slice Al cs.length cl) := hB.cell 0
  have c1 : w.cell? ⟨rb, 1, none⟩ = some (.int .i64 room) := hB.cell 1
  have hrb := hB.lt
  have hne1 : rb ≠ w.heap.size := by omega
  have HM := Lib.hid fun W (hW : Ext w W) => refMayC_calls s c I W (hR.ext hW) hs.2.2
  have HHas := Lib.hid fun W (hW : Ext w W) n => rkHas_calls (h.ext hW) n
  have HFd := Lib.hid fun W (hW : Ext w W) => refFind_calls (h.ext hW) s c I (hR.ext hW) hcl
  have HBad := Lib.hid fun p => isSome_bad cs p
  have hA : addC cs room c = if mayC c = false then (cs, 0, 6) else if (c.parents.any (badP cs.length)) = true then (cs, 0, 7) else if 0 < findC cs c then (cs, findC cs c, 0) else if room ≤ cs.length then (cs, 0, 3) else (cs ++ [c], cs.length + 1, 0) := rfl
  have HA := Lib.hid hA
  have HH := Lib.hid h
  have HB := Lib.hid hB
  have HO := Lib.hid hown
  have HRp := Lib.hid hrep
  have HD := Lib.hid hD
  have HG := Lib.hid hg
  have HRC := Lib.hid hR
  have HSm := Lib.hid hs
  obtain ⟨A, a, B, b, rfl, hA1, hB1⟩ := hR.open_
  have HP := Lib.hid fun W (hW : Ext w W) => (hA1.kp (hW.mono fun _ _ _ => trivial))
  have hale := hA1.len
  dsimp only [SliceV.val, KS.val] at HM HFd
  clear h hR hs hB hown hrep hD hg hA hA1 hB1
  obtain ⟨m, hm⟩ : ∃ m, cs.length = m := ⟨_, rfl⟩
  rw [hm] at c0 HA HB HO HG hcl HBad
  have HLM := Lib.hid hm
  have HLN := Lib.hid hlen
  obtain ⟨n, hn⟩ : ∃ n, c.parents.length = n := ⟨_, rfl⟩
  rw [hn] at HM HFd hale
  have HPN := Lib.hid hn
  obtain ⟨tn, htn⟩ : ∃ n, c.tree.length = n := ⟨_, rfl⟩
  rw [htn] at HM HFd
  obtain ⟨nt, hnt⟩ : ∃ n, c.note = n := ⟨_, rfl⟩
  rw [hnt] at HM HFd
  have hpn : n ≤ 1000000 := by have := HSm.out.1; omega
  obtain ⟨s, hs0⟩ : ∃ s : KS, s = ⟨⟨A, n, a⟩, ⟨B, tn, b⟩, nt⟩ := ⟨_, rfl⟩
  rw [hn, htn, hnt] at HRC ⊢
  clear hm hlen hn htn hnt
  show Calls _ _ #[_, .agg #[.slice A n a, .slice B tn b, .string nt]] w _
  have hQ0 := Blk.new w 42 #[.slice A n a, .slice B tn b, .string nt]
  have hx0 : Ext w (w.alloc (.cells #[.slice A n a, .slice B tn b, .string nt] 42)) := (Kp.refl _ w).alloc _
  go_enter Tryz.func57, Tryz.ntmps57
  go_wp2_with fail
  refine (HM.out _ hx0).mono ?_
  rintro e w1 ⟨rfl, hx1⟩
  have hQ1 := hQ0.ext hx1
  have hxw1 := hx0.trans hx1
  clear HM hQ0 hx1 hx0
  obtain ⟨bm, hb⟩ : ∃ b, mayC c = b := ⟨_, rfl⟩
  rw [hb] at HA ⊢
  have HQ1 := Lib.hid hQ1
  clear hQ1 hb
  cases bm with
  | false =>
    go_wp2_with fail
    go_returns
    exact RefAddPost.same HH.out (by rw [HA.out]; rfl) hxw1 rfl
  | true =>
    have HQb : Hid (∀ W, Ext w1 W → W.cell? ⟨w.heap.size, 0, none⟩ = some (.slice A n a) ∧ W.cell? ⟨w.heap.size, 1, none⟩ = some (.slice B tn b) ∧ W.cell? ⟨w.heap.size, 2, none⟩ = some (.string nt)) := Lib.hid fun W hW => ⟨(HQ1.out.ext hW).cell 0, (HQ1.out.ext hW).cell 1, (HQ1.out.ext hW).cell 2⟩
    go_wp2_with fail
    go_loopw [6] (fun i wr => ∃ k : Nat, k ≤ n ∧ i = .int .i64 k ∧ (c.parents.take k).any (badP m) = false ∧ w1 = wr) (fun i _ => n - (intOf i).toNat)
    case atStart => exact ⟨0, Nat.zero_le _, rfl, by simp, rfl⟩
    case round =>
      obtain ⟨k, hk, rfl, hno, rfl⟩ := hrel
      have e0 := (HQb.out _ (Kp.refl _ _)).1
      by_cases hlt : k < n
      · have hd : decide ((k : Int) < (n : Int)) = true := decide_eq_true (by omega)
        have hkp : k < c.parents.length := by have := HPN.out; omega
        obtain ⟨bb, off, rfl, _, hbl, f0⟩ := (HP.out w1 hxw1).rd.num hkp
        have hw : IntKind.i64.wrap ((k : Int) + 1) = (k : Int) + 1 := IntWalk.i64_in _ (by omega)
        have h0 : (0 : Int) ≤ (k : Int) := by omega
        have h1 : (k : Int) < (n : Int) := by omega
        have hHs := HHas.out w1 hxw1 c.parents[k]
        rw [HBad.out] at hHs
        have hsn : (c.parents.take (k + 1)).any (badP m) = badP m c.parents[k] := by rw [take_snoc c.parents hkp, List.any_append, hno]; simp only [List.any_cons, List.any_nil, Bool.or_false, Bool.false_or]
        have hany : badP m c.parents[k] = true → c.parents.any (badP m) = true := fun h => List.any_eq_true.2 ⟨_, List.getElem_mem hkp, h⟩
        generalize c.parents[k] = p at f0 hHs hsn hany
        obtain ⟨bp, hbp⟩ : ∃ q, badP m p = q := ⟨_, rfl⟩
        rw [hbp] at hHs hsn hany
        have HS := Lib.hid hsn
        have HAny := Lib.hid hany
        have HHs := Lib.hid hHs
        clear hsn hany hHs hno hbp hkp
        go_wp2_with fail
        refine HHs.out.mono ?_
        rintro e w1' ⟨rfl, rfl⟩
        clear HHs
        cases bp with
        | true =>
          have hr7 := Lib.hid (HAny.out rfl)
          clear HAny HS
          go_wp2_with fail
          go_returns
          exact RefAddPost.same HH.out (by rw [HA.out, if_neg (by simp), if_pos hr7.out]) hxw1 rfl
        | false =>
          clear HAny
          go_wp2_with fail
          go_roundw
          case rel => exact ⟨k + 1, by omega, by go_num, HS.out, trivial⟩
          case measure => simp [intOf]; omega
      · have hd : decide ((k : Int) < (n : Int)) = false := decide_eq_false (by omega)
        rw [List.take_of_length_le (by have := HPN.out; omega)] at hno
        rw [hno] at HA
        have e1 := (HQb.out _ (Kp.refl _ _)).2.1
        have e2 := (HQb.out _ (Kp.refl _ _)).2.2
        clear hno HHas HBad
        go_wp2_with fail
        refine (HFd.out _ hxw1).mono ?_
        rintro e w2 ⟨rfl, hx2⟩
        have hxw2 := hxw1.trans hx2
        have HQ2 := Lib.hid (HQ1.out.ext hx2)
        obtain ⟨f, hf⟩ : ∃ f, findC cs c = f := ⟨_, rfl⟩
        rw [hf] at HA ⊢
        have r0 : w2.cell? ⟨rb, 0, none⟩ = some (.slice Al m cl) := (hxw2.cell (p := ⟨rb, 0, none⟩) hrb trivial).trans c0
        have r1 : w2.cell? ⟨rb, 1, none⟩ = some (.int .i64 room) := (hxw2.cell (p := ⟨rb, 1, none⟩) hrb trivial).trans c1
        clear hf HFd e0 e1 e2 hx2 HQb
        by_cases h0 : 0 < f
        · have hd0 : decide ((0 : Int) < (f : Int)) = true := decide_eq_true (by omega)
          go_wp2_with fail
          go_returns
          exact RefAddPost.same HH.out (by rw [HA.out, if_neg (by simp), if_neg (by simp), if_pos h0]) hxw2 rfl
        · have hd0 : decide ((0 : Int) < (f : Int)) = false := decide_eq_false (by omega)
          by_cases hr : room ≤ m
          · have hdr : decide ((room : Int) ≤ (m : Int)) = true := decide_eq_true (by omega)
            go_wp2_with fail
            go_quiet (fail)
            go_wp2_with fail
            go_returns
            exact RefAddPost.same HH.out (by rw [HA.out, if_neg (by simp), if_neg (by simp), if_neg h0, if_pos hr]) (hxw2.drewN _) rfl
          · have hdr : decide ((room : Int) ≤ (m : Int)) = false := decide_eq_false (by omega)
            have HA2 : Hid (addC cs room c = (cs ++ [c], m + 1, 0)) := Lib.hid (by rw [HA.out, if_neg (by simp), if_neg (by simp), if_neg h0, if_neg hr])
            clear HA
            go_wp2_with fail
            go_quiet (fail)
            have hQd := (HQ2.out.ext ((Kp.refl _ w2).drewN nq)).ext (Kp.refl _ (w2.drewN nq)).drew
            have hxd : Ext w (w2.drewN nq).drew := (hxw2.drewN nq).drew
            clear r0 r1 HQ2
            have HQ := Lib.hid hQd
            clear hQd
            go_wp2_with fail
            obtain ⟨w0, hw0⟩ : ∃ w0, (w2.drewN nq).drew = w0 := ⟨_, rfl⟩
            rw [hw0] at HQ hxd
            have HF : Hid (∀ W, Kp (fun k => k = w.heap.size) w0 W → W.cell? ⟨w.heap.size, 0, none⟩ = some (.slice A n a) ∧ W.cell? ⟨w.heap.size, 1, none⟩ = some (.slice B tn b) ∧ W.cell? ⟨w.heap.size, 2, none⟩ = some (.string nt)) := Lib.hid fun W hW => ⟨(HQ.out.kp hW rfl).cell 0, (HQ.out.kp hW rfl).cell 1, (HQ.out.kp hW rfl).cell 2⟩
            refine wp_region_held_drew (S := (fun W => W.cell? ⟨w.heap.size, 0, none⟩ = some (.slice A n a) ∧ W.cell? ⟨w.heap.size, 1, none⟩ = some (.slice B tn b) ∧ W.cell? ⟨w.heap.size, 2, none⟩ = some (.string nt))) (by kernel_rfl) ?_ (fun hHeld => ?_)
            · rw [hw0]; exact HF.out _ (Kp.refl _ _)
            rw [hw0]
            have hHeld2 : (fun W => W.cell? ⟨w.heap.size, 0, none⟩ = some (.slice A n a) ∧ W.cell? ⟨w.heap.size, 1, none⟩ = some (.slice B tn b) ∧ W.cell? ⟨w.heap.size, 2, none⟩ = some (.string nt)) w0 := HF.out _ (Kp.refl _ _)
            clear hw0 hHeld
            have r0 : w0.cell? ⟨rb, 0, none⟩ = some (.slice Al m cl) := (hxd.cell (p := ⟨rb, 0, none⟩) hrb trivial).trans c0
            have hzd : w.heap.size < w0.heap.size := HQ.out.lt
            refine wpAnyH_take (i := 0) (v := ?_) rfl (by kernel_rfl) (by kernel_rfl) (by kernel_rfl) (fun _ _ _ h => h) (Or.inl ⟨by rfl, ?_⟩) (by assumption) ?_
            rotate_left
            · intro w hSw; (try dsimp only at hSw); go_simp; (try with_reducible rfl)
            try simp only [Act.put, List.setIfInBounds_toArray, List.set_cons_zero, List.set_cons_succ]
            refine wpAnyH_take (i := 1) (v := ?_) rfl (by kernel_rfl) (by kernel_rfl) (by kernel_rfl) (fun _ _ _ h => h) (Or.inl ⟨by rfl, ?_⟩) (by assumption) ?_
            rotate_left
            · intro w hSw; (try dsimp only at hSw); go_simp; (try with_reducible rfl)
            try simp only [Act.put, List.setIfInBounds_toArray, List.set_cons_zero, List.set_cons_succ]
            refine wpAnyH_take (i := 2) (v := ?_) rfl (by kernel_rfl) (by kernel_rfl) (by kernel_rfl) (fun _ _ _ h => h) (Or.inl ⟨by rfl, ?_⟩) (by assumption) ?_
            rotate_left
            · intro w hSw; (try dsimp only at hSw); go_simp; (try with_reducible rfl)
            try simp only [Act.put, List.setIfInBounds_toArray, List.set_cons_zero, List.set_cons_succ]
            refine wpAnyH_take (i := 3) (v := ?_) rfl (by kernel_rfl) (by kernel_rfl) (by kernel_rfl) (fun _ _ _ h => h) (Or.inl ⟨by rfl, ?_⟩) (by assumption) ?_
            rotate_left
            · intro w hSw; (try dsimp only at hSw); go_simp; (try with_reducible rfl)
            try simp only [Act.put, List.setIfInBounds_toArray, List.set_cons_zero, List.set_cons_succ]
            refine wpAnyH_take (i := 6) (v := ?_) rfl (by kernel_rfl) (by kernel_rfl) (by kernel_rfl) (fun _ _ _ h => h) (Or.inl ⟨by rfl, ?_⟩) (by assumption) ?_
            rotate_left
            · intro w hSw; (try dsimp only at hSw); go_simp; (try with_reducible rfl)
            try simp only [Act.put, List.setIfInBounds_toArray, List.set_cons_zero, List.set_cons_succ]
            refine wpAnyH_ready (rs := [4, 7]) (by kernel_rfl) (by simp) ?_
            refine AllReadyH.cons rfl (fun K hK => ?_) ?_
            · skip
              go_simp
              refine hK.out _ _ ?_ (fun hHeld => ?_)
              · (try dsimp only); exact HF.out _ (Kp.refl _ _)
              clear hK K
              try simp only [Act.put, List.setIfInBounds_toArray, List.set_cons_zero, List.set_cons_succ]
              refine wpAnyH_ready (rs := [5, 7]) (by kernel_rfl) (by simp) ?_
              refine AllReadyH.cons rfl (fun K hK => ?_) ?_
              · skip
                refine step_appendK (E := EK) (v := .slice none 0 0) (u := .slice Al m cl) (xs := []) (ys := rows) tiK (by rfl) (by rfl) (Own.nil _ _) (HO.out.kp hxd fun _ _ => trivial).rd (by rfl) (by rfl) (by have h1 := HLN.out; have h2 := HLM.out; simp; omega) (by have h1 := HLN.out; have h2 := HLM.out; unfold maxLen; simp; omega) ?_
                intro v3 w3 hO3 hk3 hb3
                have hx3 : Ext w0 w3 := (hk3.mono fun k _ _ => by simp [Value.ownBlock])
                have hxc : Ext w0 w3 := hk3.mono fun k _ _ => by simp [Value.ownBlock]
                have hn3 : ∀ g, v3.ownBlock = some g → w0.heap.size ≤ g := fun g e => by rcases hb3 with h | h <;> rw [h] at e <;> simp [Value.ownBlock] at e <;> omega
                rw [List.nil_append] at hO3
                obtain ⟨A3, n3, c3, rfl⟩ := hO3.slice
                clear hk3 hb3
                refine hK.out _ _ ?_ (fun hHeld => ?_)
                · (try dsimp only); exact HF.out _ (hx3.mono fun _ _ _ => trivial)
                clear hK K
                try simp only [Act.put, List.setIfInBounds_toArray, List.set_cons_zero, List.set_cons_succ]
                refine wpAnyH_ready (rs := [7]) (by kernel_rfl) (by simp) ?_
                refine AllReadyH.cons rfl (fun K hK => ?_) ?_
                · skip
                  go_simp
                  refine hK.out _ _ ?_ (fun hHeld => ?_)
                  · (try dsimp only); exact HF.out _ (hx3.mono (fun _ _ _ => trivial) |>.alloc _)
                  clear hK K
                  try simp only [Act.put, List.setIfInBounds_toArray, List.set_cons_zero, List.set_cons_succ]
                  refine wpAnyH_ready (rs := [8]) (by kernel_rfl) (by simp) ?_
                  refine AllReadyH.cons rfl (fun K hK => ?_) ?_
                  · skip
                    refine step_appendK (E := EK) (v := .slice A3 n3 c3) (xs := rows) (ys := [⟨⟨A, n, a⟩, ⟨B, tn, b⟩, nt⟩]) tiK (by rfl) (by rfl) (hO3.kp ((Kp.refl All w3).alloc _) fun _ _ => trivial) (Own.made (E := EK) w3 42 [⟨⟨A, n, a⟩, ⟨B, tn, b⟩, nt⟩] (by simp [maxLen])).rd (by rfl) (by rfl) (by have h1 := HLN.out; have h2 := HLM.out; simp; omega) (by have h1 := HLN.out; have h2 := HLM.out; unfold maxLen; simp; omega) ?_
                    intro v4 w4 hO4 hk4 hb4
                    obtain ⟨A4, n4, c4, rfl⟩ := hO4.slice
                    have hzW := ((hx3.alloc _) : Ext w0 (w3.alloc (.cells #[.slice A n a, .slice B tn b, .string nt] 42))).size
                    have hkw4 : Kp (fun k => k < w0.heap.size) w0 w4 := ((hx3.alloc _) : Ext w0 (w3.alloc (.cells #[.slice A n a, .slice B tn b, .string nt] 42))).mono (T := fun k => k < w0.heap.size) (fun _ _ _ => trivial) |>.trans' hk4 fun k hk _ e => by have := hn3 k e; omega
                    have hn4' : ∀ g, (Value.slice A4 n4 c4).ownBlock = some g → w0.heap.size ≤ g := fun g e => by
                      rcases hb4 with h | h
                      · rw [h] at e; exact hn3 g e
                      · rw [h] at e; simp at e hzW; omega
                    have fr4 := (HB.out.kp ((hxd.mono (T := fun k => k < w.heap.size) fun _ _ _ => trivial).trans' hkw4 fun k hk _ => by omega) hrb).frozen 0
                    have r4 : w4.cell? ⟨rb, 0, none⟩ = some (.slice Al m cl) := (HB.out.kp ((hxd.mono (T := fun k => k < w.heap.size) fun _ _ _ => trivial).trans' hkw4 fun k hk _ => by omega) hrb).cell 0
                    have HO4 := Lib.hid hO4
                    have HK4 := Lib.hid hkw4
                    have HB4 := Lib.hid hn4'
                    clear hO4 hk4 hb4 hkw4 hn4'
                    refine hK.out _ _ ?_ (fun hHeld => ?_)
                    · (try dsimp only); exact HF.out _ (HK4.out.mono fun k _ e => by omega)
                    clear hK K
                    try simp only [Act.put, List.setIfInBounds_toArray, List.set_cons_zero, List.set_cons_succ]
                    refine wpAnyH_ready (rs := [9]) (by kernel_rfl) (by simp) ?_
                    refine AllReadyH.cons rfl (fun K hK => ?_) ?_
                    · skip
                      go_simp
                      refine hK.out _ _ ?_ (fun hHeld => ?_)
                      · (try dsimp only); exact HF.out _ (HK4.out.mono fun k _ e => by omega)
                      clear hK K
                      try simp only [Act.put, List.setIfInBounds_toArray, List.set_cons_zero, List.set_cons_succ]
                      refine wpAnyH_ready (rs := [10]) (by kernel_rfl) (by simp) ?_
                      refine AllReadyH.cons rfl (fun K hK => ?_) ?_
                      · skip
                        go_simp
                        refine hK.out _ _ ?_ (fun hHeld => ?_)
                        · (try dsimp only); exact HF.out _ (HK4.out.mono fun k _ e => by omega)
                        clear hK K
                        try simp only [Act.put, List.setIfInBounds_toArray, List.set_cons_zero, List.set_cons_succ]
                        refine wpAnyH_ready (rs := [11]) (by kernel_rfl) (by simp) ?_
                        refine AllReadyH.cons rfl (fun K hK => ?_) ?_
                        · skip
                          go_simp
                          refine hK.out _ _ ?_ (fun hHeld => ?_)
                          · (try dsimp only); exact HF.out _ ((HK4.out.mono fun k _ e => by omega).setCell (.inr fun e => hne1 e) _)
                          clear hK K
                          try simp only [Act.put, List.setIfInBounds_toArray, List.set_cons_zero, List.set_cons_succ]
                          refine wpAnyH_done (by kernel_rfl) ?_ _
                          have hn4 : n4 = m + 1 := by
                            obtain ⟨_, _, h, _⟩ := HO4.out.rd
                            injection h with _ h _
                            have h1 := HLN.out; have h2 := HLM.out
                            rw [List.length_append, List.length_singleton] at h
                            omega
                          subst hn4
                          clear hHeld fr4
                          go_wp2_with fail
                          go_returns
                          refine ⟨by rw [HA2.out]; rfl, ?_⟩
                          rw [HA2.out]
                          have hbase : Kp (fun k => k < w.heap.size) w w4 := (hxd.mono (T := fun k => k < w.heap.size) fun _ _ _ => trivial).trans' HK4.out fun k hk _ => by omega
                          exact HH.out.addN (lv := .slice Al m cl) HB.out HRp.out HD.out HRC.out hbase HO4.out fun g e => by have := HB4.out g e; omega
                        exact AllReadyH.nil
                      exact AllReadyH.nil
                    exact AllReadyH.nil
                  exact AllReadyH.nil
                exact AllReadyH.nil
              refine AllReadyH.cons rfl (fun K hK => ?_) ?_
              · skip
                go_simp
                refine hK.out _ _ ?_ (fun hHeld => ?_)
                · (try dsimp only); exact HF.out _ ((Kp.refl _ _).alloc _)
                clear hK K
                try simp only [Act.put, List.setIfInBounds_toArray, List.set_cons_zero, List.set_cons_succ]
                refine wpAnyH_ready (rs := [5]) (by kernel_rfl) (by simp) ?_
                refine AllReadyH.cons rfl (fun K hK => ?_) ?_
                · skip
                  refine step_appendK (E := EK) (v := .slice none 0 0) (u := .slice Al m cl) (xs := []) (ys := rows) tiK (by rfl) (by rfl) (Own.nil _ _) (HO.out.kp (hxd.alloc _) fun _ _ => trivial).rd (by rfl) (by rfl) (by have h1 := HLN.out; have h2 := HLM.out; simp; omega) (by have h1 := HLN.out; have h2 := HLM.out; unfold maxLen; simp; omega) ?_
                  intro v3 w3 hO3 hk3 hb3
                  have hx3 : Ext w0 w3 := ((Kp.refl _ w0).alloc _).trans (hk3.mono fun k _ _ => by simp [Value.ownBlock])
                  have hxc : Ext (w0.alloc (.cells #[.slice A n a, .slice B tn b, .string nt] 42)) w3 := hk3.mono fun k _ _ => by simp [Value.ownBlock]
                  have hn3 : ∀ g, v3.ownBlock = some g → w0.heap.size ≤ g := fun g e => by rcases hb3 with h | h <;> rw [h] at e <;> simp [Value.ownBlock] at e <;> omega
                  rw [List.nil_append] at hO3
                  obtain ⟨A3, n3, c3, rfl⟩ := hO3.slice
                  clear hk3 hb3
                  refine hK.out _ _ ?_ (fun hHeld => ?_)
                  · (try dsimp only); exact HF.out _ (hx3.mono fun _ _ _ => trivial)
                  clear hK K
                  try simp only [Act.put, List.setIfInBounds_toArray, List.set_cons_zero, List.set_cons_succ]
                  refine wpAnyH_ready (rs := [8]) (by kernel_rfl) (by simp) ?_
                  refine AllReadyH.cons rfl (fun K hK => ?_) ?_
                  · skip
                    refine step_appendK (E := EK) (v := .slice A3 n3 c3) (xs := rows) (ys := [⟨⟨A, n, a⟩, ⟨B, tn, b⟩, nt⟩]) tiK (by rfl) (by rfl) hO3 ((Own.made (E := EK) w0 42 [⟨⟨A, n, a⟩, ⟨B, tn, b⟩, nt⟩] (by simp [maxLen])).rd.kp (hxc.mono fun _ _ _ => trivial)) (by rfl) (by rfl) (by have h1 := HLN.out; have h2 := HLM.out; simp; omega) (by have h1 := HLN.out; have h2 := HLM.out; unfold maxLen; simp; omega) ?_
                    intro v4 w4 hO4 hk4 hb4
                    obtain ⟨A4, n4, c4, rfl⟩ := hO4.slice
                    have hzW := (hx3 : Ext w0 w3).size
                    have hkw4 : Kp (fun k => k < w0.heap.size) w0 w4 := (hx3 : Ext w0 w3).mono (T := fun k => k < w0.heap.size) (fun _ _ _ => trivial) |>.trans' hk4 fun k hk _ e => by have := hn3 k e; omega
                    have hn4' : ∀ g, (Value.slice A4 n4 c4).ownBlock = some g → w0.heap.size ≤ g := fun g e => by
                      rcases hb4 with h | h
                      · rw [h] at e; exact hn3 g e
                      · rw [h] at e; simp at e hzW; omega
                    have fr4 := (HB.out.kp ((hxd.mono (T := fun k => k < w.heap.size) fun _ _ _ => trivial).trans' hkw4 fun k hk _ => by omega) hrb).frozen 0
                    have r4 : w4.cell? ⟨rb, 0, none⟩ = some (.slice Al m cl) := (HB.out.kp ((hxd.mono (T := fun k => k < w.heap.size) fun _ _ _ => trivial).trans' hkw4 fun k hk _ => by omega) hrb).cell 0
                    have HO4 := Lib.hid hO4
                    have HK4 := Lib.hid hkw4
                    have HB4 := Lib.hid hn4'
                    clear hO4 hk4 hb4 hkw4 hn4'
                    refine hK.out _ _ ?_ (fun hHeld => ?_)
                    · (try dsimp only); exact HF.out _ (HK4.out.mono fun k _ e => by omega)
                    clear hK K
                    try simp only [Act.put, List.setIfInBounds_toArray, List.set_cons_zero, List.set_cons_succ]
                    refine wpAnyH_ready (rs := [9]) (by kernel_rfl) (by simp) ?_
                    refine AllReadyH.cons rfl (fun K hK => ?_) ?_
                    · skip
                      go_simp
                      refine hK.out _ _ ?_ (fun hHeld => ?_)
                      · (try dsimp only); exact HF.out _ (HK4.out.mono fun k _ e => by omega)
                      clear hK K
                      try simp only [Act.put, List.setIfInBounds_toArray, List.set_cons_zero, List.set_cons_succ]
                      refine wpAnyH_ready (rs := [10]) (by kernel_rfl) (by simp) ?_
                      refine AllReadyH.cons rfl (fun K hK => ?_) ?_
                      · skip
                        go_simp
                        refine hK.out _ _ ?_ (fun hHeld => ?_)
                        · (try dsimp only); exact HF.out _ (HK4.out.mono fun k _ e => by omega)
                        clear hK K
                        try simp only [Act.put, List.setIfInBounds_toArray, List.set_cons_zero, List.set_cons_succ]
                        refine wpAnyH_ready (rs := [11]) (by kernel_rfl) (by simp) ?_
                        refine AllReadyH.cons rfl (fun K hK => ?_) ?_
                        · skip
                          go_simp
                          refine hK.out _ _ ?_ (fun hHeld => ?_)
                          · (try dsimp only); exact HF.out _ ((HK4.out.mono fun k _ e => by omega).setCell (.inr fun e => hne1 e) _)
                          clear hK K
                          try simp only [Act.put, List.setIfInBounds_toArray, List.set_cons_zero, List.set_cons_succ]
                          refine wpAnyH_done (by kernel_rfl) ?_ _
                          have hn4 : n4 = m + 1 := by
                            obtain ⟨_, _, h, _⟩ := HO4.out.rd
                            injection h with _ h _
                            have h1 := HLN.out; have h2 := HLM.out
                            rw [List.length_append, List.length_singleton] at h
                            omega
                          subst hn4
                          clear hHeld fr4
                          go_wp2_with fail
                          go_returns
                          refine ⟨by rw [HA2.out]; rfl, ?_⟩
                          rw [HA2.out]
                          have hbase : Kp (fun k => k < w.heap.size) w w4 := (hxd.mono (T := fun k => k < w.heap.size) fun _ _ _ => trivial).trans' HK4.out fun k hk _ => by omega
                          exact HH.out.addN (lv := .slice Al m cl) HB.out HRp.out HD.out HRC.out hbase HO4.out fun g e => by have := HB4.out g e; omega
                        exact AllReadyH.nil
                      exact AllReadyH.nil
                    exact AllReadyH.nil
                  exact AllReadyH.nil
                exact AllReadyH.nil
              exact AllReadyH.nil
            refine AllReadyH.cons rfl (fun K hK => ?_) ?_
            · skip
              go_simp
              refine hK.out _ _ ?_ (fun hHeld => ?_)
              · (try dsimp only); exact HF.out _ ((Kp.refl _ _).alloc _)
              clear hK K
              try simp only [Act.put, List.setIfInBounds_toArray, List.set_cons_zero, List.set_cons_succ]
              refine wpAnyH_ready (rs := [4]) (by kernel_rfl) (by simp) ?_
              refine AllReadyH.cons rfl (fun K hK => ?_) ?_
              · skip
                have r0' : (w0.alloc (.cells #[.slice A n a, .slice B tn b, .string nt] 42)).cell? ⟨rb, 0, none⟩ = some (.slice Al m cl) := (((Kp.refl All w0).alloc _).cell (p := ⟨rb, 0, none⟩) (by show rb < _; omega) trivial).trans r0
                go_simp
                refine hK.out _ _ ?_ (fun hHeld => ?_)
                · (try dsimp only); exact HF.out _ ((Kp.refl _ _).alloc _)
                clear hK K
                try simp only [Act.put, List.setIfInBounds_toArray, List.set_cons_zero, List.set_cons_succ]
                refine wpAnyH_ready (rs := [5]) (by kernel_rfl) (by simp) ?_
                refine AllReadyH.cons rfl (fun K hK => ?_) ?_
                · skip
                  refine step_appendK (E := EK) (v := .slice none 0 0) (u := .slice Al m cl) (xs := []) (ys := rows) tiK (by rfl) (by rfl) (Own.nil _ _) (HO.out.kp (hxd.alloc _) fun _ _ => trivial).rd (by rfl) (by rfl) (by have h1 := HLN.out; have h2 := HLM.out; simp; omega) (by have h1 := HLN.out; have h2 := HLM.out; unfold maxLen; simp; omega) ?_
                  intro v3 w3 hO3 hk3 hb3
                  have hx3 : Ext w0 w3 := ((Kp.refl _ w0).alloc _).trans (hk3.mono fun k _ _ => by simp [Value.ownBlock])
                  have hxc : Ext (w0.alloc (.cells #[.slice A n a, .slice B tn b, .string nt] 42)) w3 := hk3.mono fun k _ _ => by simp [Value.ownBlock]
                  have hn3 : ∀ g, v3.ownBlock = some g → w0.heap.size ≤ g := fun g e => by rcases hb3 with h | h <;> rw [h] at e <;> simp [Value.ownBlock] at e <;> omega
                  rw [List.nil_append] at hO3
                  obtain ⟨A3, n3, c3, rfl⟩ := hO3.slice
                  clear hk3 hb3
                  refine hK.out _ _ ?_ (fun hHeld => ?_)
                  · (try dsimp only); exact HF.out _ (hx3.mono fun _ _ _ => trivial)
                  clear hK K
                  try simp only [Act.put, List.setIfInBounds_toArray, List.set_cons_zero, List.set_cons_succ]
                  refine wpAnyH_ready (rs := [8]) (by kernel_rfl) (by simp) ?_
                  refine AllReadyH.cons rfl (fun K hK => ?_) ?_
                  · skip
                    refine step_appendK (E := EK) (v := .slice A3 n3 c3) (xs := rows) (ys := [⟨⟨A, n, a⟩, ⟨B, tn, b⟩, nt⟩]) tiK (by rfl) (by rfl) hO3 ((Own.made (E := EK) w0 42 [⟨⟨A, n, a⟩, ⟨B, tn, b⟩, nt⟩] (by simp [maxLen])).rd.kp (hxc.mono fun _ _ _ => trivial)) (by rfl) (by rfl) (by have h1 := HLN.out; have h2 := HLM.out; simp; omega) (by have h1 := HLN.out; have h2 := HLM.out; unfold maxLen; simp; omega) ?_
                    intro v4 w4 hO4 hk4 hb4
                    obtain ⟨A4, n4, c4, rfl⟩ := hO4.slice
                    have hzW := (hx3 : Ext w0 w3).size
                    have hkw4 : Kp (fun k => k < w0.heap.size) w0 w4 := (hx3 : Ext w0 w3).mono (T := fun k => k < w0.heap.size) (fun _ _ _ => trivial) |>.trans' hk4 fun k hk _ e => by have := hn3 k e; omega
                    have hn4' : ∀ g, (Value.slice A4 n4 c4).ownBlock = some g → w0.heap.size ≤ g := fun g e => by
                      rcases hb4 with h | h
                      · rw [h] at e; exact hn3 g e
                      · rw [h] at e; simp at e hzW; omega
                    have fr4 := (HB.out.kp ((hxd.mono (T := fun k => k < w.heap.size) fun _ _ _ => trivial).trans' hkw4 fun k hk _ => by omega) hrb).frozen 0
                    have r4 : w4.cell? ⟨rb, 0, none⟩ = some (.slice Al m cl) := (HB.out.kp ((hxd.mono (T := fun k => k < w.heap.size) fun _ _ _ => trivial).trans' hkw4 fun k hk _ => by omega) hrb).cell 0
                    have HO4 := Lib.hid hO4
                    have HK4 := Lib.hid hkw4
                    have HB4 := Lib.hid hn4'
                    clear hO4 hk4 hb4 hkw4 hn4'
                    refine hK.out _ _ ?_ (fun hHeld => ?_)
                    · (try dsimp only); exact HF.out _ (HK4.out.mono fun k _ e => by omega)
                    clear hK K
                    try simp only [Act.put, List.setIfInBounds_toArray, List.set_cons_zero, List.set_cons_succ]
                    refine wpAnyH_ready (rs := [9]) (by kernel_rfl) (by simp) ?_
                    refine AllReadyH.cons rfl (fun K hK => ?_) ?_
                    · skip
                      go_simp
                      refine hK.out _ _ ?_ (fun hHeld => ?_)
                      · (try dsimp only); exact HF.out _ (HK4.out.mono fun k _ e => by omega)
                      clear hK K
                      try simp only [Act.put, List.setIfInBounds_toArray, List.set_cons_zero, List.set_cons_succ]
                      refine wpAnyH_ready (rs := [10]) (by kernel_rfl) (by simp) ?_
                      refine AllReadyH.cons rfl (fun K hK => ?_) ?_
                      · skip
                        go_simp
                        refine hK.out _ _ ?_ (fun hHeld => ?_)
                        · (try dsimp only); exact HF.out _ (HK4.out.mono fun k _ e => by omega)
                        clear hK K
                        try simp only [Act.put, List.setIfInBounds_toArray, List.set_cons_zero, List.set_cons_succ]
                        refine wpAnyH_ready (rs := [11]) (by kernel_rfl) (by simp) ?_
                        refine AllReadyH.cons rfl (fun K hK => ?_) ?_
                        · skip
                          go_simp
                          refine hK.out _ _ ?_ (fun hHeld => ?_)
                          · (try dsimp only); exact HF.out _ ((HK4.out.mono fun k _ e => by omega).setCell (.inr fun e => hne1 e) _)
                          clear hK K
                          try simp only [Act.put, List.setIfInBounds_toArray, List.set_cons_zero, List.set_cons_succ]
                          refine wpAnyH_done (by kernel_rfl) ?_ _
                          have hn4 : n4 = m + 1 := by
                            obtain ⟨_, _, h, _⟩ := HO4.out.rd
                            injection h with _ h _
                            have h1 := HLN.out; have h2 := HLM.out
                            rw [List.length_append, List.length_singleton] at h
                            omega
                          subst hn4
                          clear hHeld fr4
                          go_wp2_with fail
                          go_returns
                          refine ⟨by rw [HA2.out]; rfl, ?_⟩
                          rw [HA2.out]
                          have hbase : Kp (fun k => k < w.heap.size) w w4 := (hxd.mono (T := fun k => k < w.heap.size) fun _ _ _ => trivial).trans' HK4.out fun k hk _ => by omega
                          exact HH.out.addN (lv := .slice Al m cl) HB.out HRp.out HD.out HRC.out hbase HO4.out fun g e => by have := HB4.out g e; omega
                        exact AllReadyH.nil
                      exact AllReadyH.nil
                    exact AllReadyH.nil
                  exact AllReadyH.nil
                exact AllReadyH.nil
              exact AllReadyH.nil
            exact AllReadyH.nil
end

end Go.Proofs.YtgjbfkaepalkiaaGreatDoor
