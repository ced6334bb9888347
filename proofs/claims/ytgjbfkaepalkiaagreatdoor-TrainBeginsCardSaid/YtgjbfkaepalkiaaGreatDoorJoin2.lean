/-
  join.gathered, at the closures of join.Of and join.Virtual.
-/
import Derived.Test.YtgjbfkaepalkiaaGreatDoorJoin1
import Derived.Test.YtgjbfkaepalkiaaGreatDoorJoinP
import Derived.Deep.RegionHeld3
import Derived.Deep.CutRange
import Derived.Deep.DrawnRows
namespace Go.Proofs.YtgjbfkaepalkiaaGreatDoor
open Go.RowKit
set_option linter.unusedVariables false
set_option linter.unusedSimpArgs false
attribute [local go_sem] Oper.semAt_some
attribute [local go_sem ↓] Go.wp_at_zero Go.wp_at_succ

/-- Two rows made since the heap had n blocks, in blocks of their own. -/
structure Two {α β : Type} (E : El α) (t : TypeId) (F : El β) (u : TypeId) (n : Nat) (w : World) (o : Value) (xs : List α) (q : Value) (ys : List β) : Prop where
  a : New E t n w o xs
  b : New F u n w q ys
  ap : ∀ g, o.ownBlock = some g → q.ownBlock ≠ some g
section
variable {α β : Type} {E : El α} {t : TypeId} {F : El β} {u : TypeId} {n : Nat} {w w' : World} {o q : Value} {xs : List α} {ys : List β}
theorem Two.ext (h : Two E t F u n w o xs q ys) (hx : Ext w w') : Two E t F u n w' o xs q ys := ⟨h.a.ext hx, h.b.ext hx, h.ap⟩
theorem Two.kp (h : Two E t F u n w o xs q ys) {S : Fp} (hx : Kp S w w') (h1 : ∀ g, o.ownBlock = some g → S g) (h2 : ∀ g, q.ownBlock = some g → S g) : Two E t F u n w' o xs q ys := ⟨h.a.kp hx h1, h.b.kp hx h2, h.ap⟩
theorem Two.fst (h : Two E t F u n w o xs q ys) {o' : Value} {xs' : List α} (hn : New E t n w' o' xs') (hk : Kp (fun k => o.ownBlock ≠ some k) w w') (hg : ∀ g, o'.ownBlock = some g → o.ownBlock = some g ∨ w.heap.size ≤ g) : Two E t F u n w' o' xs' q ys :=
  ⟨hn, h.b.kp hk fun g hq ho => h.ap g ho hq, fun g ho hq => by
    rcases hg g ho with h1 | h1
    · exact h.ap g h1 hq
    · have := h.b.1.lt hq; omega⟩
theorem Two.snd (h : Two E t F u n w o xs q ys) {q' : Value} {ys' : List β} (hn : New F u n w' q' ys') (hk : Kp (fun k => q.ownBlock ≠ some k) w w') (hg : ∀ g, q'.ownBlock = some g → q.ownBlock = some g ∨ w.heap.size ≤ g) : Two E t F u n w' o xs q' ys' :=
  ⟨h.a.kp hk fun g ho hq => h.ap g ho hq, hn, fun g ho hq => by
    rcases hg g hq with h1 | h1
    · exact h.ap g ho h1
    · have := h.a.1.lt ho; omega⟩
end
/-- A variable that holds what stands at a path, made since w. -/
def FlAt (w : World) (t : TypeId) (i : Bool) (d : ByteArray) (f : Value) (w' : World) : Prop := ∃ b, f = .pointer (some ⟨b, 0, none⟩) ∧ w.heap.size ≤ b ∧ Blk w' b t #[.bool i, .string d] ∧ Ext w w'

/-- Three slices that were built just now. -/
theorem built3 (W : World) (t : TypeId) (s1 s2 s3 : SliceV) : Rd ESL (fun k => W.heap.size ≤ k) (W.alloc (.cells #[s1.val, s2.val, s3.val] t)) (.slice (some ⟨W.heap.size, 0, none⟩) 3 3) [s1, s2, s3] :=
  (New.made (E := ESL) W t [s1, s2, s3] (by simp [maxLen])).rd
theorem if_one {α : Type} (c : Prop) [Decidable c] (x : α) : (if c then [x] else []).length ≤ 1 := by split <;> simp
theorem if_other {α : Type} (c : Prop) [Decidable c] (x : α) : (if c then [] else [x]).length ≤ 1 := by split <;> simp
theorem gathL_len (m : Mrg) (oth : Fl → Fl) (o a b : List File) (ps : List ByteArray) : (gathL m oth o a b ps).1.length ≤ ps.length ∧ (gathL m oth o a b ps).2.length ≤ ps.length := by
  refine snocInd (p := fun ps => (gathL m oth o a b ps).1.length ≤ ps.length ∧ (gathL m oth o a b ps).2.length ≤ ps.length) ⟨Nat.le_refl _, Nat.le_refl _⟩ (fun l x ih => ?_) ps
  rw [gathL_snoc]
  unfold stepG
  simp only [List.length_append, List.length_singleton]
  exact ⟨Nat.add_le_add ih.1 (if_one _ _), Nat.add_le_add ih.2 (if_other _ _)⟩
theorem noFl_calls (x : Fl) (W : World) : Calls Tryz.prog 117 #[.agg #[.bool x.is, .string x.data]] W fun e W' => e = .returned (.agg #[.bool noFl.is, .string noFl.data]) ∧ Ext W W' := by
  go_enter Tryz.func117, Tryz.ntmps117
  go_wp2_with fail
  go_returns
  exact ⟨rfl, by first | exact (Kp.refl _ W).alloc _ | exact ((Kp.refl _ W).alloc _).alloc _ | exact Kp.refl _ W⟩
theorem idFl_calls (x : Fl) (W : World) : Calls Tryz.prog 89 #[.agg #[.bool x.is, .string x.data]] W fun e W' => e = .returned (.agg #[.bool x.is, .string x.data]) ∧ Ext W W' := by
  go_enter Tryz.func89, Tryz.ntmps89
  go_wp2_with fail
  go_returns
  exact ⟨rfl, by first | exact (Kp.refl _ W).alloc _ | exact ((Kp.refl _ W).alloc _).alloc _ | exact Kp.refl _ W⟩

set_option maxHeartbeats 2000000 in
set_option maxRecDepth 100000 in
theorem gathOf_calls (m : Mrg) (v1 v2 v3 : Value) (xs ys zs : List File) (S : Fp) (w : World) (hA : Rd EF S w v1 xs) (hB : Rd EF S w v2 ys) (hC : Rd EF S w v3 zs) (h1 : xs.length ≤ 1000) (h2 : ys.length ≤ 1000) (h3 : zs.length ≤ 1000) (HM : ∀ p, reachB (atF xs p) (atF ys p) (atF zs p) = true → MrgAt m (atF xs p).data (atF ys p).data (atF zs p).data) :
    Calls Tryz.prog 88 #[v1, v2, v3, .func (.func 117) #[] #[]] w fun e w' => ∃ r s, e = .returned (.tuple #[r, s]) ∧ New EF 39 w.heap.size w' r (gathF m (fun _ => noFl) xs ys zs).1 ∧ New ES 9 w.heap.size w' s (gathF m (fun _ => noFl) xs ys zs).2 ∧ (∀ g, r.ownBlock = some g → s.ownBlock ≠ some g) ∧ Ext w w' := by
  obtain ⟨A1, c1, rfl, _⟩ := hA.open_
  obtain ⟨A2, c2, rfl, _⟩ := hB.open_
  obtain ⟨A3, c3, rfl, _⟩ := hC.open_
  obtain ⟨n1, hn1⟩ : ∃ n, xs.length = n := ⟨_, rfl⟩
  obtain ⟨n2, hn2⟩ : ∃ n, ys.length = n := ⟨_, rfl⟩
  obtain ⟨n3, hn3⟩ : ∃ n, zs.length = n := ⟨_, rfl⟩
  rw [hn1] at hA h1 ⊢
  rw [hn2] at hB h2 ⊢
  rw [hn3] at hC h3 ⊢
  have H1 := Lib.hid hn1
  have H2 := Lib.hid hn2
  have H3 := Lib.hid hn3
  have HA := Lib.hid fun W (hW : Ext w W) => hA.kp (hW.mono fun _ _ _ => trivial)
  have HB := Lib.hid fun W (hW : Ext w W) => hB.kp (hW.mono fun _ _ _ => trivial)
  have HC := Lib.hid fun W (hW : Ext w W) => hC.kp (hW.mono fun _ _ _ => trivial)
  have HMM := Lib.hid HM
  clear hn1 hn2 hn3 hA hB hC HM
  have hx0 := fun x => (Kp.refl All w).alloc x
  have hall : RdAll (fun _ => True) (w.alloc (.cells #[.slice A1 n1 c1, .slice A2 n2 c2, .slice A3 n3 c3] 30)) [⟨A1, n1, c1⟩, ⟨A2, n2, c2⟩, ⟨A3, n3, c3⟩] [xs, ys, zs] :=
    .cons ((HA.out _ (hx0 _)).wide fun _ _ => trivial) (.cons ((HB.out _ (hx0 _)).wide fun _ _ => trivial) (.cons ((HC.out _ (hx0 _)).wide fun _ _ => trivial) .nil))
  have hsum : sumL [xs, ys, zs] ≤ 100000 := by simp only [sumL, List.flatten_cons, List.flatten_nil, List.append_nil, List.length_append]; rw [H1.out, H2.out, H3.out]; omega
  have hP := paths_calls _ _ _ _ _ ((built3 w 30 ⟨A1, n1, c1⟩ ⟨A2, n2, c2⟩ ⟨A3, n3, c3⟩).wide fun _ _ => trivial) hall hsum
  have hflen : (flatP [xs, ys, zs]).length ≤ 3000 := by
    unfold flatP
    simp only [List.length_map, List.flatten_cons, List.flatten_nil, List.append_nil, List.length_append]; rw [H1.out, H2.out, H3.out]; omega
  have hpl : (riseT (flatP [xs, ys, zs])).length ≤ 3000 := Nat.le_trans (riseT_length _) hflen
  have HP := Lib.hid hP
  clear hall hsum hx0 hP hflen
  go_enter Tryz.func88, Tryz.ntmps88
  go_wp2_with (go_at_call 128; refine stop ?_)
  refine HP.out.mono ?_
  clear HP
  rintro e w1 ⟨r1, rfl, hN1, hx1'⟩
  have hx1 : Ext w w1 := ((Kp.refl _ w).alloc _).trans hx1'
  rw [pathsF_rise] at hN1
  obtain ⟨ps, hps⟩ : ∃ ps, riseT (flatP [xs, ys, zs]) = ps := ⟨_, rfl⟩
  rw [hps] at hN1 hpl
  have HPS : Hid (gathF m (fun _ => noFl) xs ys zs = gathL m (fun _ => noFl) xs ys zs ps) := Lib.hid (by unfold gathF; rw [hps])
  obtain ⟨A, c, hr1, hO⟩ := hN1.rd.open_
  subst hr1
  obtain ⟨n, hn⟩ : ∃ n, ps.length = n := ⟨_, rfl⟩
  rw [hn] at hpl hN1 ⊢
  have HN := Lib.hid hn
  have HO := Lib.hid fun W (hW : Ext w1 W) => hO.kp (hW.mono fun _ _ _ => trivial)
  clear hps hx1' hn hN1 hO
  go_wp2_with fail
  go_loopw [10, 11, 23] (fun o q i wr => ∃ k : Nat, k ≤ n ∧ i = .int .i64 k ∧ New EF 39 w1.heap.size wr o (gathL m (fun _ => noFl) xs ys zs (ps.take k)).1 ∧ New ES 9 w1.heap.size wr q (gathL m (fun _ => noFl) xs ys zs (ps.take k)).2 ∧ (∀ g, o.ownBlock = some g → q.ownBlock ≠ some g) ∧ Ext w1 wr) (fun _ _ i _ => n - (intOf i).toNat)
  case atStart => exact ⟨0, Nat.zero_le _, rfl, New.nil _ _ _, New.nil _ _ _, (fun g h => by cases h), Kp.refl _ _⟩
  case round =>
    obtain ⟨k, hk, rfl, hNo, hNq, hoq, hx⟩ := hrel
    rename World => wo
    by_cases hlt : k < n
    · have hd : decide ((k : Int) < (n : Int)) = true := decide_eq_true (by omega)
      have hkp : k < ps.length := by have := HN.out; omega
      obtain ⟨b, off, rfl, _, hb, c0⟩ := (HO.out wo hx).rd.text hkp
      obtain ⟨p, hp⟩ : ∃ p, ps[k] = p := ⟨_, rfl⟩
      rw [hp] at c0
      have hsn : gathL m (fun _ => noFl) xs ys zs (ps.take (k + 1)) = stepG m (fun _ => noFl) xs ys zs (gathL m (fun _ => noFl) xs ys zs (ps.take k)) p := by rw [take_snoc ps hkp, gathL_snoc, hp]
      have hgl := gathL_len m (fun _ => noFl) xs ys zs (ps.take k)
      have htk : (ps.take k).length ≤ 3000 := by rw [List.length_take]; omega
      obtain ⟨gs, hgs⟩ : ∃ gs, gathL m (fun _ => noFl) xs ys zs (ps.take k) = gs := ⟨_, rfl⟩
      rw [hgs] at hNo hNq hsn hgl
      have HGL : Hid (gs.1.length ≤ 3000 ∧ gs.2.length ≤ 3000) := Lib.hid ⟨by omega, by omega⟩
      have HSN := Lib.hid hsn
      obtain ⟨Ao, no, co, hvo⟩ := hNo.1.slice
      obtain ⟨Aq, nq, cq, hvq⟩ := hNq.1.slice
      subst hvo hvq
      have hlt' : (k : Int) < (n : Int) := by omega
      have h0 : (0 : Int) ≤ (k : Int) := by omega
      have hw : IntKind.i64.wrap ((k : Int) + 1) = (k : Int) + 1 := IntWalk.i64_in _ (by omega)
      clear hkp hp hsn hgl htk hgs
      go_wp2_with fail
      refine (at_calls _ p xs _ wo (HA.out wo (hx1.trans hx)) (by rw [H1.out]; omega)).mono ?_
      rintro e w2 ⟨rfl, hx2⟩
      have hM := HMM.out p
      have HST : Hid (stepG m (fun _ => noFl) xs ys zs gs p = (gs.1 ++ (if ((if (joinF m (atF xs p) (atF ys p) (atF zs p)).2 = true then (joinF m (atF xs p) (atF ys p) (atF zs p)).1 else (fun _ => noFl) (atF xs p)) : Fl).is = true then [⟨p, ((if (joinF m (atF xs p) (atF ys p) (atF zs p)).2 = true then (joinF m (atF xs p) (atF ys p) (atF zs p)).1 else (fun _ => noFl) (atF xs p)) : Fl).data⟩] else []), gs.2 ++ (if (joinF m (atF xs p) (atF ys p) (atF zs p)).2 = true then [] else [p]))) := Lib.hid rfl
      have hAt2 := fun W (hW : Ext w W) => at_calls _ p ys _ W (HB.out W hW) (by rw [H2.out]; omega)
      have hAt3 := fun W (hW : Ext w W) => at_calls _ p zs _ W (HC.out W hW) (by rw [H3.out]; omega)
      have hJ := fun W => joined_calls m (atF xs p) (atF ys p) (atF zs p) W hM
      obtain ⟨fo, hfo⟩ : ∃ f, atF xs p = f := ⟨_, rfl⟩
      obtain ⟨fa, hfa⟩ : ∃ f, atF ys p = f := ⟨_, rfl⟩
      obtain ⟨fb, hfb⟩ : ∃ f, atF zs p = f := ⟨_, rfl⟩
      rw [hfo, hfa, hfb] at HST hJ
      rw [hfa] at hAt2
      rw [hfb] at hAt3
      rw [hfo]
      obtain ⟨jr, hjr⟩ : ∃ jr, joinF m fo fa fb = jr := ⟨_, rfl⟩
      rw [hjr] at HST hJ
      have HA2' := Lib.hid hAt2
      have HA3' := Lib.hid hAt3
      have HJ' := Lib.hid hJ
      have hx12 := hx.trans hx2
      have hNo2 := hNo.ext hx2
      have hNq2 := hNq.ext hx2
      clear hM hAt2 hAt3 hJ hfo hfa hfb hjr hNo hNq hx2 c0
      obtain ⟨oi, od⟩ := fo
      obtain ⟨ai, ad⟩ := fa
      obtain ⟨bi, bd⟩ := fb
      obtain ⟨⟨ji, jd⟩, jo⟩ := jr
      dsimp only at HA2' HA3' HJ' HST ⊢
      go_wp2_with fail
      have hBw := Blk.new w2 124 #[.bool oi, .string od]
      have hxa : Ext w2 (w2.alloc (.cells #[.bool oi, .string od] 124)) := (Kp.refl _ w2).alloc _
      have hx13 := hx12.trans hxa
      have hNo3 := hNo2.ext hxa
      have hNq3 := hNq2.ext hxa
      clear hxa hx12 hNo2 hNq2 hx
      generalize (w2.alloc (.cells #[.bool oi, .string od] 124)) = wa at hBw hx13 hNo3 hNq3 ⊢
      have HKb := Lib.hid hBw
      have HKe : Hid (∀ W, Ext wa W → W.cell? ⟨w2.heap.size, 0, none⟩ = some (.bool oi) ∧ W.cell? ⟨w2.heap.size, 1, none⟩ = some (.string od)) := Lib.hid fun W hW => ⟨(hBw.ext hW).cell 0, (hBw.ext hW).cell 1⟩
      have hxwa := hx1.trans hx13
      have HA2 := Lib.hid fun W (hW : Ext wa W) => (HA2'.out W (hxwa.trans hW)).mono fun e W' h => show e = _ ∧ Ext wa W' ∧ Ext W W' from ⟨h.1, hW.trans h.2, h.2⟩
      have HA3 := Lib.hid fun W (hW : Ext wa W) => (HA3'.out W (hxwa.trans hW)).mono fun e W' h => show e = _ ∧ Ext wa W' ∧ Ext W W' from ⟨h.1, hW.trans h.2, h.2⟩
      have HJ := Lib.hid fun W (hW : Ext wa W) => (HJ'.out W).mono fun e W' h => show e = _ ∧ Ext wa W' ∧ Ext W W' from ⟨h.1, hW.trans h.2, h.2⟩
      clear HA2' HA3' HJ' hBw
      have hTw : Two EF 39 ES 9 w1.heap.size wa (.slice Ao no co) gs.1 (.slice Aq nq cq) gs.2 := ⟨hNo3, hNq3, hoq⟩
      clear hNo3 hNq3 hoq
      have hja : Hid (w2.heap.size < wa.heap.size) := Lib.hid (by have := HKb.out.lt; exact this)
      go_cut [15, 16, 23] from 23 to 59 (fun f q i wx => i = .int .i64 k ∧ q = .bool jo ∧ FlAt wa 124 ji jd f wx)
      case first =>
        clear HKb HST HSN HGL hTw HMM HA HB HC HPS HO H1 H2 H3 HN hx1 hx13 hxwa hja hlt' h0 hw hd hpl hk h1 h2 h3
        go_region_held3 (fun w' => w'.cell? ⟨w2.heap.size, 0, none⟩ = some (.bool oi) ∧ w'.cell? ⟨w2.heap.size, 1, none⟩ = some (.string od))
          (first | exact HKe.out _ hxJ | exact HKe.out _ (hxJ.alloc _) | exact HKe.out _ ((hxJ.setCell (.inl hxB.size) _).setCell (.inl hxB.size) _) | exact HKe.out _ ((hxJ.setCell (.inl hxA.size) _).setCell (.inl hxA.size) _) | exact HKe.out _ ((hxJ.setCell (.inl (Nat.le_refl _)) _).setCell (.inl (Nat.le_refl _)) _) | exact HKe.out _ hxB | exact HKe.out _ (hxB.alloc _) | exact HKe.out _ hxA | exact HKe.out _ (hxA.alloc _) | exact HKe.out _ ((Kp.refl _ wa).drew) | exact HKe.out _ (((Kp.refl _ wa).drew).alloc _) | fail)
          (first
            | (go_at_call 129; ((with_reducible refine Calls.mono (HA2.out _ ?_) ?_)); (first | exact (Kp.refl _ wa).drew | exact ((Kp.refl _ wa).drew).alloc _); rintro e wA ⟨rfl, hxA, hyA⟩; first | (with_reducible have hF := (Blk.new _ _ _).ext hyA) | (with_reducible have hF := (Blk.new _ _ _).ext (((Kp.refl All _).drew).trans hyA)) | skip)
            | (go_at_call 129; ((with_reducible refine Calls.mono (HA3.out _ ?_) ?_)); (first | exact hxA | exact hxA.alloc _); rintro e wB ⟨rfl, hxB, hyB⟩; first | (with_reducible have hF := hF.ext hyB) | (with_reducible have hF := (Blk.new _ _ _).ext hyB) | skip)
            | (go_at_call 130; ((with_reducible refine Calls.mono (HJ.out _ ?_) ?_)); (first | exact hxB | exact hxB.alloc _); rintro e wJ ⟨rfl, hxJ, hyJ⟩; (first | (with_reducible have hF := hF.ext hyJ) | (with_reducible have hF := (Blk.new _ _ _).ext hyJ) | skip); try (have q0 := hF.cell 0; have q1 := hF.cell 1; have r0 := hF.frozen 0; have r1 := hF.frozen 1))
            | fail)
        all_goals (go_wp2_with fail; go_meet)
        case rel => exact ⟨rfl, rfl, _, rfl, hxJ.size, Blk.new _ _ _, hxJ.alloc _⟩
        all_goals first
          | exact ⟨rfl, rfl, _, rfl, hxB.size, (hF.set_ 0 _).set_ 1 _, (hxJ.setCell (.inl hxB.size) _).setCell (.inl hxB.size) _⟩
          | exact ⟨rfl, rfl, _, rfl, hxA.size, (hF.set_ 0 _).set_ 1 _, (hxJ.setCell (.inl hxA.size) _).setCell (.inl hxA.size) _⟩
          | exact ⟨rfl, rfl, _, rfl, Nat.le_refl _, (hF.set_ 0 _).set_ 1 _, (hxJ.setCell (.inl (Nat.le_refl _)) _).setCell (.inl (Nat.le_refl _)) _⟩
      case rest =>
        obtain ⟨hi, hq, hf⟩ := hcut
        subst hi hq
        unfold FlAt at hf
        obtain ⟨bb, rfl, hbb, hBf, hxc⟩ := hf
        have hT4 := hTw.ext hxc
        have hx4 := hx13.trans hxc
        have hob : Hid ((∀ g, Value.ownBlock (.slice Ao no co) = some g → g ≠ bb) ∧ (∀ g, Value.ownBlock (.slice Aq nq cq) = some g → g ≠ bb)) := Lib.hid ⟨fun g hg e => by have := hTw.a.1.lt hg; omega, fun g hg e => by have := hTw.b.1.lt hg; omega⟩
        have hwb : Hid (w1.heap.size ≤ bb) := Lib.hid (Nat.le_trans hx13.size hbb)
        obtain ⟨e0, e1⟩ := HKe.out _ hxc
        have hbl := hBf.lt
        clear HA2 HA3 HJ hTw hxwa hja HKb HKe hx13 hxc hbb HMM HA HB HC HO
        cases jo with
        | true =>
          have HST' : Hid (stepG m (fun _ => noFl) xs ys zs gs p = (gs.1 ++ (if ji = true then [⟨p, jd⟩] else []), gs.2 ++ [])) := Lib.hid HST.out
          clear HST
          have d0 : wc.cell? ⟨bb, 0, none⟩ = some (.bool ji) := hBf.cell 0
          have d1 : wc.cell? ⟨bb, 1, none⟩ = some (.string jd) := hBf.cell 1
          clear hBf e0 e1
          cases ji with
          | true =>
            go_wp2_with (at_builtin; refine stop ?_)
            refine list_append1k (u := .slice (some ⟨wc.heap.size, 0, none⟩) 1 1) tiF ⟨p, jd⟩ rfl rfl rfl hT4.a hx4 rfl rfl rfl (by have := HGL.out; omega) (by have := HGL.out; unfold maxLen; omega) ?_
            intro v' w' hN' hx' hk' hg'
            have hT5 := hT4.fst hN' hk' hg'
            obtain ⟨A2, n2, c2, hv2⟩ := hN'.1.slice
            subst hv2
            clear hT4 hx4 hN' hk' hg' d0 d1 hbl
            go_wp2_with fail
            go_roundw
            case rel => exact ⟨k + 1, by omega, by go_num, by rw [HSN.out, HST'.out]; exact hT5.a, by rw [HSN.out, HST'.out]; simpa using hT5.b, hT5.ap, hx'⟩
            case measure => simp [intOf]; omega
          | false =>
            go_wp2_with fail
            go_roundw
            case rel => exact ⟨k + 1, by omega, by go_num, by rw [HSN.out, HST'.out]; simpa using hT4.a, by rw [HSN.out, HST'.out]; simpa using hT4.b, hT4.ap, hx4⟩
            case measure => simp [intOf]; omega
        | false =>
          obtain ⟨⟨yi, yd⟩, hy⟩ : ∃ y : Fl, ((fun _ => noFl) : Fl → Fl) (⟨oi, od⟩ : Fl) = y := ⟨_, rfl⟩
          have hcall : ∀ W, Calls Tryz.prog 117 #[.agg #[.bool oi, .string od]] W fun e W' => e = .returned (.agg #[.bool yi, .string yd]) ∧ Ext W W' := by
            intro W
            have h : Calls Tryz.prog 117 #[.agg #[.bool oi, .string od]] W fun e W' => e = .returned (.agg #[.bool (((fun _ => noFl) : Fl → Fl) (⟨oi, od⟩ : Fl)).is, .string (((fun _ => noFl) : Fl → Fl) (⟨oi, od⟩ : Fl)).data]) ∧ Ext W W' := noFl_calls ⟨oi, od⟩ W
            rw [hy] at h
            exact h
          have HST' : Hid (stepG m (fun _ => noFl) xs ys zs gs p = (gs.1 ++ (if yi = true then [⟨p, yd⟩] else []), gs.2 ++ [p])) := Lib.hid (by cases hy; exact HST.out)
          have HCL := Lib.hid hcall
          clear HST hy hcall
          go_wp2_with fail
          refine (HCL.out _).mono ?_
          rintro e w5 ⟨rfl, hx5⟩
          have hT5 := hT4.ext hx5
          have hB5 := hBf.ext hx5
          have hx6 := hx4.trans hx5
          have hbl5 := hx5.lt hbl
          clear hT4 hBf hx5 hx4 hbl e0 e1 HCL
          go_wp2_with (at_builtin; refine stop ?_)
          refine list_append1k (u := .slice (some ⟨w5.heap.size, 0, none⟩) 1 1) tiS p rfl rfl rfl hT5.b hx6 rfl rfl rfl (by have := HGL.out; omega) (by have := HGL.out; unfold maxLen; omega) ?_
          intro v' w' hN' hx' hk' hg'
          have hT6 := hT5.snd hN' hk' hg'
          have hB6 : Blk w' bb 124 #[.bool ji, .string jd] := hB5.kp hk' fun h => hob.out.2 _ h rfl
          have hob6 : Hid (∀ g, v'.ownBlock = some g → g ≠ bb) := Lib.hid fun g hg e => by
            rcases hg' g hg with h | h
            · exact hob.out.2 g h e
            · omega
          obtain ⟨A2, n2, c2, hv2⟩ := hN'.1.slice
          subst hv2
          have f0 := hB6.frozen 0
          have f1 := hB6.frozen 1
          have d0 : w'.cell? ⟨bb, 0, none⟩ = some (.bool ji) := hB6.cell 0
          have d1 : w'.cell? ⟨bb, 1, none⟩ = some (.string jd) := hB6.cell 1
          have hT7 := (hT6.kp (w' := (w'.setCell ⟨bb, 0, none⟩ (.bool yi)).setCell ⟨bb, 1, none⟩ (.string yd)) (S := fun k => k ≠ bb) (((Kp.refl _ w').setCell (.inr (by simp)) _).setCell (.inr (by simp)) _) hob.out.1 hob6.out)
          have hx7 : Ext w1 ((w'.setCell ⟨bb, 0, none⟩ (.bool yi)).setCell ⟨bb, 1, none⟩ (.string yd)) := (hx'.setCell (.inl hwb.out) _).setCell (.inl hwb.out) _
          have hB7 := (hB6.set_ 0 (.bool yi)).set_ 1 (.string yd)
          clear hT5 hx6 hN' hk' hg' hbl5 hB5 hB6 hT6 hx' hob hob6
          cases yi with
          | true =>
            go_wp2_with (at_builtin; refine stop ?_)
            refine list_append1k (w := (w'.setCell ⟨bb, 0, none⟩ (.bool true)).setCell ⟨bb, 1, none⟩ (.string yd)) (u := .slice (some ⟨w'.heap.size, 0, none⟩) 1 1) tiF ⟨p, yd⟩ rfl rfl rfl hT7.a hx7 (by simp) rfl rfl (by have := HGL.out; omega) (by have := HGL.out; unfold maxLen; omega) ?_
            intro v3 w3 hN3 hx3 hk3 hg3
            have hT8 := hT7.fst hN3 hk3 hg3
            obtain ⟨A3, n3, c3, hv3⟩ := hN3.1.slice
            subst hv3
            clear hT7 hx7 hN3 hk3 hg3 d0 d1 f0 f1 hB7
            go_wp2_with fail
            go_roundw
            case rel => exact ⟨k + 1, by omega, by go_num, by rw [HSN.out, HST'.out]; exact hT8.a, by rw [HSN.out, HST'.out]; exact hT8.b, hT8.ap, hx3⟩
            case measure => simp [intOf]; omega
          | false =>
            go_wp2_with fail
            go_roundw
            case rel => exact ⟨k + 1, by omega, by go_num, by rw [HSN.out, HST'.out]; simpa using hT7.a, by rw [HSN.out, HST'.out]; exact hT7.b, hT7.ap, hx7⟩
            case measure => simp [intOf]; omega
    · have hd : decide ((k : Int) < (n : Int)) = false := decide_eq_false (by omega)
      have hall : ps.take k = ps := List.take_of_length_le (by have := HN.out; omega)
      rw [hall, ← HPS.out] at hNo hNq
      clear hall
      go_wp2_with fail
      go_returns
      exact ⟨_, _, rfl, hNo.less hx1.size, hNq.less hx1.size, hoq, hx1.trans hx⟩

set_option maxHeartbeats 2000000 in
set_option maxRecDepth 100000 in
theorem gathVirt_calls (m : Mrg) (v1 v2 v3 : Value) (xs ys zs : List File) (S : Fp) (w : World) (hA : Rd EF S w v1 xs) (hB : Rd EF S w v2 ys) (hC : Rd EF S w v3 zs) (h1 : xs.length ≤ 1000) (h2 : ys.length ≤ 1000) (h3 : zs.length ≤ 1000) (HM : ∀ p, reachB (atF xs p) (atF ys p) (atF zs p) = true → MrgAt m (atF xs p).data (atF ys p).data (atF zs p).data) :
    Calls Tryz.prog 88 #[v1, v2, v3, .func (.func 89) #[] #[]] w fun e w' => ∃ r s, e = .returned (.tuple #[r, s]) ∧ New EF 39 w.heap.size w' r (gathF m id xs ys zs).1 ∧ New ES 9 w.heap.size w' s (gathF m id xs ys zs).2 ∧ (∀ g, r.ownBlock = some g → s.ownBlock ≠ some g) ∧ Ext w w' := by
  obtain ⟨A1, c1, rfl, _⟩ := hA.open_
  obtain ⟨A2, c2, rfl, _⟩ := hB.open_
  obtain ⟨A3, c3, rfl, _⟩ := hC.open_
  obtain ⟨n1, hn1⟩ : ∃ n, xs.length = n := ⟨_, rfl⟩
  obtain ⟨n2, hn2⟩ : ∃ n, ys.length = n := ⟨_, rfl⟩
  obtain ⟨n3, hn3⟩ : ∃ n, zs.length = n := ⟨_, rfl⟩
  rw [hn1] at hA h1 ⊢
  rw [hn2] at hB h2 ⊢
  rw [hn3] at hC h3 ⊢
  have H1 := Lib.hid hn1
  have H2 := Lib.hid hn2
  have H3 := Lib.hid hn3
  have HA := Lib.hid fun W (hW : Ext w W) => hA.kp (hW.mono fun _ _ _ => trivial)
  have HB := Lib.hid fun W (hW : Ext w W) => hB.kp (hW.mono fun _ _ _ => trivial)
  have HC := Lib.hid fun W (hW : Ext w W) => hC.kp (hW.mono fun _ _ _ => trivial)
  have HMM := Lib.hid HM
  clear hn1 hn2 hn3 hA hB hC HM
  have hx0 := fun x => (Kp.refl All w).alloc x
  have hall : RdAll (fun _ => True) (w.alloc (.cells #[.slice A1 n1 c1, .slice A2 n2 c2, .slice A3 n3 c3] 30)) [⟨A1, n1, c1⟩, ⟨A2, n2, c2⟩, ⟨A3, n3, c3⟩] [xs, ys, zs] :=
    .cons ((HA.out _ (hx0 _)).wide fun _ _ => trivial) (.cons ((HB.out _ (hx0 _)).wide fun _ _ => trivial) (.cons ((HC.out _ (hx0 _)).wide fun _ _ => trivial) .nil))
  have hsum : sumL [xs, ys, zs] ≤ 100000 := by simp only [sumL, List.flatten_cons, List.flatten_nil, List.append_nil, List.length_append]; rw [H1.out, H2.out, H3.out]; omega
  have hP := paths_calls _ _ _ _ _ ((built3 w 30 ⟨A1, n1, c1⟩ ⟨A2, n2, c2⟩ ⟨A3, n3, c3⟩).wide fun _ _ => trivial) hall hsum
  have hflen : (flatP [xs, ys, zs]).length ≤ 3000 := by
    unfold flatP
    simp only [List.length_map, List.flatten_cons, List.flatten_nil, List.append_nil, List.length_append]; rw [H1.out, H2.out, H3.out]; omega
  have hpl : (riseT (flatP [xs, ys, zs])).length ≤ 3000 := Nat.le_trans (riseT_length _) hflen
  have HP := Lib.hid hP
  clear hall hsum hx0 hP hflen
  go_enter Tryz.func88, Tryz.ntmps88
  go_wp2_with (go_at_call 128; refine stop ?_)
  refine HP.out.mono ?_
  clear HP
  rintro e w1 ⟨r1, rfl, hN1, hx1'⟩
  have hx1 : Ext w w1 := ((Kp.refl _ w).alloc _).trans hx1'
  rw [pathsF_rise] at hN1
  obtain ⟨ps, hps⟩ : ∃ ps, riseT (flatP [xs, ys, zs]) = ps := ⟨_, rfl⟩
  rw [hps] at hN1 hpl
  have HPS : Hid (gathF m id xs ys zs = gathL m id xs ys zs ps) := Lib.hid (by unfold gathF; rw [hps])
  obtain ⟨A, c, hr1, hO⟩ := hN1.rd.open_
  subst hr1
  obtain ⟨n, hn⟩ : ∃ n, ps.length = n := ⟨_, rfl⟩
  rw [hn] at hpl hN1 ⊢
  have HN := Lib.hid hn
  have HO := Lib.hid fun W (hW : Ext w1 W) => hO.kp (hW.mono fun _ _ _ => trivial)
  clear hps hx1' hn hN1 hO
  go_wp2_with fail
  go_loopw [10, 11, 23] (fun o q i wr => ∃ k : Nat, k ≤ n ∧ i = .int .i64 k ∧ New EF 39 w1.heap.size wr o (gathL m id xs ys zs (ps.take k)).1 ∧ New ES 9 w1.heap.size wr q (gathL m id xs ys zs (ps.take k)).2 ∧ (∀ g, o.ownBlock = some g → q.ownBlock ≠ some g) ∧ Ext w1 wr) (fun _ _ i _ => n - (intOf i).toNat)
  case atStart => exact ⟨0, Nat.zero_le _, rfl, New.nil _ _ _, New.nil _ _ _, (fun g h => by cases h), Kp.refl _ _⟩
  case round =>
    obtain ⟨k, hk, rfl, hNo, hNq, hoq, hx⟩ := hrel
    rename World => wo
    by_cases hlt : k < n
    · have hd : decide ((k : Int) < (n : Int)) = true := decide_eq_true (by omega)
      have hkp : k < ps.length := by have := HN.out; omega
      obtain ⟨b, off, rfl, _, hb, c0⟩ := (HO.out wo hx).rd.text hkp
      obtain ⟨p, hp⟩ : ∃ p, ps[k] = p := ⟨_, rfl⟩
      rw [hp] at c0
      have hsn : gathL m id xs ys zs (ps.take (k + 1)) = stepG m id xs ys zs (gathL m id xs ys zs (ps.take k)) p := by rw [take_snoc ps hkp, gathL_snoc, hp]
      have hgl := gathL_len m id xs ys zs (ps.take k)
      have htk : (ps.take k).length ≤ 3000 := by rw [List.length_take]; omega
      obtain ⟨gs, hgs⟩ : ∃ gs, gathL m id xs ys zs (ps.take k) = gs := ⟨_, rfl⟩
      rw [hgs] at hNo hNq hsn hgl
      have HGL : Hid (gs.1.length ≤ 3000 ∧ gs.2.length ≤ 3000) := Lib.hid ⟨by omega, by omega⟩
      have HSN := Lib.hid hsn
      obtain ⟨Ao, no, co, hvo⟩ := hNo.1.slice
      obtain ⟨Aq, nq, cq, hvq⟩ := hNq.1.slice
      subst hvo hvq
      have hlt' : (k : Int) < (n : Int) := by omega
      have h0 : (0 : Int) ≤ (k : Int) := by omega
      have hw : IntKind.i64.wrap ((k : Int) + 1) = (k : Int) + 1 := IntWalk.i64_in _ (by omega)
      clear hkp hp hsn hgl htk hgs
      go_wp2_with fail
      refine (at_calls _ p xs _ wo (HA.out wo (hx1.trans hx)) (by rw [H1.out]; omega)).mono ?_
      rintro e w2 ⟨rfl, hx2⟩
      have hM := HMM.out p
      have HST : Hid (stepG m id xs ys zs gs p = (gs.1 ++ (if ((if (joinF m (atF xs p) (atF ys p) (atF zs p)).2 = true then (joinF m (atF xs p) (atF ys p) (atF zs p)).1 else id (atF xs p)) : Fl).is = true then [⟨p, ((if (joinF m (atF xs p) (atF ys p) (atF zs p)).2 = true then (joinF m (atF xs p) (atF ys p) (atF zs p)).1 else id (atF xs p)) : Fl).data⟩] else []), gs.2 ++ (if (joinF m (atF xs p) (atF ys p) (atF zs p)).2 = true then [] else [p]))) := Lib.hid rfl
      have hAt2 := fun W (hW : Ext w W) => at_calls _ p ys _ W (HB.out W hW) (by rw [H2.out]; omega)
      have hAt3 := fun W (hW : Ext w W) => at_calls _ p zs _ W (HC.out W hW) (by rw [H3.out]; omega)
      have hJ := fun W => joined_calls m (atF xs p) (atF ys p) (atF zs p) W hM
      obtain ⟨fo, hfo⟩ : ∃ f, atF xs p = f := ⟨_, rfl⟩
      obtain ⟨fa, hfa⟩ : ∃ f, atF ys p = f := ⟨_, rfl⟩
      obtain ⟨fb, hfb⟩ : ∃ f, atF zs p = f := ⟨_, rfl⟩
      rw [hfo, hfa, hfb] at HST hJ
      rw [hfa] at hAt2
      rw [hfb] at hAt3
      rw [hfo]
      obtain ⟨jr, hjr⟩ : ∃ jr, joinF m fo fa fb = jr := ⟨_, rfl⟩
      rw [hjr] at HST hJ
      have HA2' := Lib.hid hAt2
      have HA3' := Lib.hid hAt3
      have HJ' := Lib.hid hJ
      have hx12 := hx.trans hx2
      have hNo2 := hNo.ext hx2
      have hNq2 := hNq.ext hx2
      clear hM hAt2 hAt3 hJ hfo hfa hfb hjr hNo hNq hx2 c0
      obtain ⟨oi, od⟩ := fo
      obtain ⟨ai, ad⟩ := fa
      obtain ⟨bi, bd⟩ := fb
      obtain ⟨⟨ji, jd⟩, jo⟩ := jr
      dsimp only at HA2' HA3' HJ' HST ⊢
      go_wp2_with fail
      have hBw := Blk.new w2 124 #[.bool oi, .string od]
      have hxa : Ext w2 (w2.alloc (.cells #[.bool oi, .string od] 124)) := (Kp.refl _ w2).alloc _
      have hx13 := hx12.trans hxa
      have hNo3 := hNo2.ext hxa
      have hNq3 := hNq2.ext hxa
      clear hxa hx12 hNo2 hNq2 hx
      generalize (w2.alloc (.cells #[.bool oi, .string od] 124)) = wa at hBw hx13 hNo3 hNq3 ⊢
      have HKb := Lib.hid hBw
      have HKe : Hid (∀ W, Ext wa W → W.cell? ⟨w2.heap.size, 0, none⟩ = some (.bool oi) ∧ W.cell? ⟨w2.heap.size, 1, none⟩ = some (.string od)) := Lib.hid fun W hW => ⟨(hBw.ext hW).cell 0, (hBw.ext hW).cell 1⟩
      have hxwa := hx1.trans hx13
      have HA2 := Lib.hid fun W (hW : Ext wa W) => (HA2'.out W (hxwa.trans hW)).mono fun e W' h => show e = _ ∧ Ext wa W' ∧ Ext W W' from ⟨h.1, hW.trans h.2, h.2⟩
      have HA3 := Lib.hid fun W (hW : Ext wa W) => (HA3'.out W (hxwa.trans hW)).mono fun e W' h => show e = _ ∧ Ext wa W' ∧ Ext W W' from ⟨h.1, hW.trans h.2, h.2⟩
      have HJ := Lib.hid fun W (hW : Ext wa W) => (HJ'.out W).mono fun e W' h => show e = _ ∧ Ext wa W' ∧ Ext W W' from ⟨h.1, hW.trans h.2, h.2⟩
      clear HA2' HA3' HJ' hBw
      have hTw : Two EF 39 ES 9 w1.heap.size wa (.slice Ao no co) gs.1 (.slice Aq nq cq) gs.2 := ⟨hNo3, hNq3, hoq⟩
      clear hNo3 hNq3 hoq
      have hja : Hid (w2.heap.size < wa.heap.size) := Lib.hid (by have := HKb.out.lt; exact this)
      go_cut [15, 16, 23] from 23 to 59 (fun f q i wx => i = .int .i64 k ∧ q = .bool jo ∧ FlAt wa 124 ji jd f wx)
      case first =>
        clear HKb HST HSN HGL hTw HMM HA HB HC HPS HO H1 H2 H3 HN hx1 hx13 hxwa hja hlt' h0 hw hd hpl hk h1 h2 h3
        go_region_held3 (fun w' => w'.cell? ⟨w2.heap.size, 0, none⟩ = some (.bool oi) ∧ w'.cell? ⟨w2.heap.size, 1, none⟩ = some (.string od))
          (first | exact HKe.out _ hxJ | exact HKe.out _ (hxJ.alloc _) | exact HKe.out _ ((hxJ.setCell (.inl hxB.size) _).setCell (.inl hxB.size) _) | exact HKe.out _ ((hxJ.setCell (.inl hxA.size) _).setCell (.inl hxA.size) _) | exact HKe.out _ ((hxJ.setCell (.inl (Nat.le_refl _)) _).setCell (.inl (Nat.le_refl _)) _) | exact HKe.out _ hxB | exact HKe.out _ (hxB.alloc _) | exact HKe.out _ hxA | exact HKe.out _ (hxA.alloc _) | exact HKe.out _ ((Kp.refl _ wa).drew) | exact HKe.out _ (((Kp.refl _ wa).drew).alloc _) | fail)
          (first
            | (go_at_call 129; ((with_reducible refine Calls.mono (HA2.out _ ?_) ?_)); (first | exact (Kp.refl _ wa).drew | exact ((Kp.refl _ wa).drew).alloc _); rintro e wA ⟨rfl, hxA, hyA⟩; first | (with_reducible have hF := (Blk.new _ _ _).ext hyA) | (with_reducible have hF := (Blk.new _ _ _).ext (((Kp.refl All _).drew).trans hyA)) | skip)
            | (go_at_call 129; ((with_reducible refine Calls.mono (HA3.out _ ?_) ?_)); (first | exact hxA | exact hxA.alloc _); rintro e wB ⟨rfl, hxB, hyB⟩; first | (with_reducible have hF := hF.ext hyB) | (with_reducible have hF := (Blk.new _ _ _).ext hyB) | skip)
            | (go_at_call 130; ((with_reducible refine Calls.mono (HJ.out _ ?_) ?_)); (first | exact hxB | exact hxB.alloc _); rintro e wJ ⟨rfl, hxJ, hyJ⟩; (first | (with_reducible have hF := hF.ext hyJ) | (with_reducible have hF := (Blk.new _ _ _).ext hyJ) | skip); try (have q0 := hF.cell 0; have q1 := hF.cell 1; have r0 := hF.frozen 0; have r1 := hF.frozen 1))
            | fail)
        all_goals (go_wp2_with fail; go_meet)
        case rel => exact ⟨rfl, rfl, _, rfl, hxJ.size, Blk.new _ _ _, hxJ.alloc _⟩
        all_goals first
          | exact ⟨rfl, rfl, _, rfl, hxB.size, (hF.set_ 0 _).set_ 1 _, (hxJ.setCell (.inl hxB.size) _).setCell (.inl hxB.size) _⟩
          | exact ⟨rfl, rfl, _, rfl, hxA.size, (hF.set_ 0 _).set_ 1 _, (hxJ.setCell (.inl hxA.size) _).setCell (.inl hxA.size) _⟩
          | exact ⟨rfl, rfl, _, rfl, Nat.le_refl _, (hF.set_ 0 _).set_ 1 _, (hxJ.setCell (.inl (Nat.le_refl _)) _).setCell (.inl (Nat.le_refl _)) _⟩
      case rest =>
        obtain ⟨hi, hq, hf⟩ := hcut
        subst hi hq
        unfold FlAt at hf
        obtain ⟨bb, rfl, hbb, hBf, hxc⟩ := hf
        have hT4 := hTw.ext hxc
        have hx4 := hx13.trans hxc
        have hob : Hid ((∀ g, Value.ownBlock (.slice Ao no co) = some g → g ≠ bb) ∧ (∀ g, Value.ownBlock (.slice Aq nq cq) = some g → g ≠ bb)) := Lib.hid ⟨fun g hg e => by have := hTw.a.1.lt hg; omega, fun g hg e => by have := hTw.b.1.lt hg; omega⟩
        have hwb : Hid (w1.heap.size ≤ bb) := Lib.hid (Nat.le_trans hx13.size hbb)
        obtain ⟨e0, e1⟩ := HKe.out _ hxc
        have hbl := hBf.lt
        clear HA2 HA3 HJ hTw hxwa hja HKb HKe hx13 hxc hbb HMM HA HB HC HO
        cases jo with
        | true =>
          have HST' : Hid (stepG m id xs ys zs gs p = (gs.1 ++ (if ji = true then [⟨p, jd⟩] else []), gs.2 ++ [])) := Lib.hid HST.out
          clear HST
          have d0 : wc.cell? ⟨bb, 0, none⟩ = some (.bool ji) := hBf.cell 0
          have d1 : wc.cell? ⟨bb, 1, none⟩ = some (.string jd) := hBf.cell 1
          clear hBf e0 e1
          cases ji with
          | true =>
            go_wp2_with (at_builtin; refine stop ?_)
            refine list_append1k (u := .slice (some ⟨wc.heap.size, 0, none⟩) 1 1) tiF ⟨p, jd⟩ rfl rfl rfl hT4.a hx4 rfl rfl rfl (by have := HGL.out; omega) (by have := HGL.out; unfold maxLen; omega) ?_
            intro v' w' hN' hx' hk' hg'
            have hT5 := hT4.fst hN' hk' hg'
            obtain ⟨A2, n2, c2, hv2⟩ := hN'.1.slice
            subst hv2
            clear hT4 hx4 hN' hk' hg' d0 d1 hbl
            go_wp2_with fail
            go_roundw
            case rel => exact ⟨k + 1, by omega, by go_num, by rw [HSN.out, HST'.out]; exact hT5.a, by rw [HSN.out, HST'.out]; simpa using hT5.b, hT5.ap, hx'⟩
            case measure => simp [intOf]; omega
          | false =>
            go_wp2_with fail
            go_roundw
            case rel => exact ⟨k + 1, by omega, by go_num, by rw [HSN.out, HST'.out]; simpa using hT4.a, by rw [HSN.out, HST'.out]; simpa using hT4.b, hT4.ap, hx4⟩
            case measure => simp [intOf]; omega
        | false =>
          obtain ⟨⟨yi, yd⟩, hy⟩ : ∃ y : Fl, (id : Fl → Fl) (⟨oi, od⟩ : Fl) = y := ⟨_, rfl⟩
          have hcall : ∀ W, Calls Tryz.prog 89 #[.agg #[.bool oi, .string od]] W fun e W' => e = .returned (.agg #[.bool yi, .string yd]) ∧ Ext W W' := by
            intro W
            have h : Calls Tryz.prog 89 #[.agg #[.bool oi, .string od]] W fun e W' => e = .returned (.agg #[.bool ((id : Fl → Fl) (⟨oi, od⟩ : Fl)).is, .string ((id : Fl → Fl) (⟨oi, od⟩ : Fl)).data]) ∧ Ext W W' := idFl_calls ⟨oi, od⟩ W
            rw [hy] at h
            exact h
          have HST' : Hid (stepG m id xs ys zs gs p = (gs.1 ++ (if yi = true then [⟨p, yd⟩] else []), gs.2 ++ [p])) := Lib.hid (by cases hy; exact HST.out)
          have HCL := Lib.hid hcall
          clear HST hy hcall
          go_wp2_with fail
          refine (HCL.out _).mono ?_
          rintro e w5 ⟨rfl, hx5⟩
          have hT5 := hT4.ext hx5
          have hB5 := hBf.ext hx5
          have hx6 := hx4.trans hx5
          have hbl5 := hx5.lt hbl
          clear hT4 hBf hx5 hx4 hbl e0 e1 HCL
          go_wp2_with (at_builtin; refine stop ?_)
          refine list_append1k (u := .slice (some ⟨w5.heap.size, 0, none⟩) 1 1) tiS p rfl rfl rfl hT5.b hx6 rfl rfl rfl (by have := HGL.out; omega) (by have := HGL.out; unfold maxLen; omega) ?_
          intro v' w' hN' hx' hk' hg'
          have hT6 := hT5.snd hN' hk' hg'
          have hB6 : Blk w' bb 124 #[.bool ji, .string jd] := hB5.kp hk' fun h => hob.out.2 _ h rfl
          have hob6 : Hid (∀ g, v'.ownBlock = some g → g ≠ bb) := Lib.hid fun g hg e => by
            rcases hg' g hg with h | h
            · exact hob.out.2 g h e
            · omega
          obtain ⟨A2, n2, c2, hv2⟩ := hN'.1.slice
          subst hv2
          have f0 := hB6.frozen 0
          have f1 := hB6.frozen 1
          have d0 : w'.cell? ⟨bb, 0, none⟩ = some (.bool ji) := hB6.cell 0
          have d1 : w'.cell? ⟨bb, 1, none⟩ = some (.string jd) := hB6.cell 1
          have hT7 := (hT6.kp (w' := (w'.setCell ⟨bb, 0, none⟩ (.bool yi)).setCell ⟨bb, 1, none⟩ (.string yd)) (S := fun k => k ≠ bb) (((Kp.refl _ w').setCell (.inr (by simp)) _).setCell (.inr (by simp)) _) hob.out.1 hob6.out)
          have hx7 : Ext w1 ((w'.setCell ⟨bb, 0, none⟩ (.bool yi)).setCell ⟨bb, 1, none⟩ (.string yd)) := (hx'.setCell (.inl hwb.out) _).setCell (.inl hwb.out) _
          have hB7 := (hB6.set_ 0 (.bool yi)).set_ 1 (.string yd)
          clear hT5 hx6 hN' hk' hg' hbl5 hB5 hB6 hT6 hx' hob hob6
          cases yi with
          | true =>
            go_wp2_with (at_builtin; refine stop ?_)
            refine list_append1k (w := (w'.setCell ⟨bb, 0, none⟩ (.bool true)).setCell ⟨bb, 1, none⟩ (.string yd)) (u := .slice (some ⟨w'.heap.size, 0, none⟩) 1 1) tiF ⟨p, yd⟩ rfl rfl rfl hT7.a hx7 (by simp) rfl rfl (by have := HGL.out; omega) (by have := HGL.out; unfold maxLen; omega) ?_
            intro v3 w3 hN3 hx3 hk3 hg3
            have hT8 := hT7.fst hN3 hk3 hg3
            obtain ⟨A3, n3, c3, hv3⟩ := hN3.1.slice
            subst hv3
            clear hT7 hx7 hN3 hk3 hg3 d0 d1 f0 f1 hB7
            go_wp2_with fail
            go_roundw
            case rel => exact ⟨k + 1, by omega, by go_num, by rw [HSN.out, HST'.out]; exact hT8.a, by rw [HSN.out, HST'.out]; exact hT8.b, hT8.ap, hx3⟩
            case measure => simp [intOf]; omega
          | false =>
            go_wp2_with fail
            go_roundw
            case rel => exact ⟨k + 1, by omega, by go_num, by rw [HSN.out, HST'.out]; simpa using hT7.a, by rw [HSN.out, HST'.out]; exact hT7.b, hT7.ap, hx7⟩
            case measure => simp [intOf]; omega
    · have hd : decide ((k : Int) < (n : Int)) = false := decide_eq_false (by omega)
      have hall : ps.take k = ps := List.take_of_length_le (by have := HN.out; omega)
      rw [hall, ← HPS.out] at hNo hNq
      clear hall
      go_wp2_with fail
      go_returns
      exact ⟨_, _, rfl, hNo.less hx1.size, hNq.less hx1.size, hoq, hx1.trans hx⟩


end Go.Proofs.YtgjbfkaepalkiaaGreatDoor
