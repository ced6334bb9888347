/-
  slices.Backward at numbers; base.Best.
-/
import Derived.Test.YtgjbfkaepalkiaaGreatDoorBaseW
namespace Go.Proofs.YtgjbfkaepalkiaaGreatDoor
open Go.RowKit
set_option linter.unusedVariables false
set_option linter.unusedSimpArgs false
attribute [local go_sem] Oper.semAt_some

/-! ### Backward -/
/-- What is told of a row from behind: places and elements. -/
def bwd (xs : List Int) : List (Int × Int) := xs.zipIdx.reverse.map fun p => ((p.2 : Int), p.1)
abbrev encP (p : Int × Int) : Array Value := #[.int .i64 p.1, .int .i64 p.2]
theorem bwd_length (xs : List Int) : (bwd xs).length = xs.length := by simp [bwd]
theorem bwd_get (xs : List Int) {j : Nat} (h : j < (bwd xs).length) : (bwd xs)[j] = (((xs.length - 1 - j : Nat) : Int), xs[xs.length - 1 - j]'(by rw [bwd_length] at h; omega)) := by
  have h' : j < xs.length := by rw [bwd_length] at h; exact h
  simp [bwd, List.getElem_reverse]
theorem bwd_snd (xs : List Int) : (bwd xs).map Prod.snd = xs.reverse := by
  unfold bwd
  rw [List.map_map]
  have : (Prod.snd ∘ fun p : Int × Nat => ((p.2 : Int), p.1)) = Prod.fst := rfl
  rw [this, List.map_reverse]
  congr 1
  exact List.zipIdx_map_fst 0 xs

theorem backward1_calls (b : Nat) (v : Value) (xs : List Int) (S : Fp) (W : World) (y : Value) (hyf : ∃ f a b, y = .func f a b) (hb : W.cell? ⟨b, 0, none⟩ = some v) (hSb : S b) (hR : Rd EI S W v xs) (hn : xs.length ≤ 1000000)
    (J Jx : List (Int × Int) → Fp → World → Prop) (D₀ : Fp) (hJ : Frames J) (hJx : Frames Jx) (h0 : J [] D₀ W) (hD : ∀ k, D₀ k → k < W.heap.size ∧ ¬ S k)
    (hy : ∀ pre x D W1, J pre D W1 → (∀ k, D k → k < W1.heap.size) → (pre ++ [x]) <+: bwd xs → Sub D₀ D W W1 → Kp (fun k => ¬ D₀ k) W W1 → CallV Tryz.prog y (encP x) W1 fun e W2 =>
      ∃ D', Sub D D' W1 W2 ∧ Kp (fun k => ¬ D k) W1 W2 ∧ (∀ k, D' k → k < W2.heap.size) ∧ ((e = .returned (.bool true) ∧ J (pre ++ [x]) D' W2) ∨ (e = .returned (.bool false) ∧ Jx (pre ++ [x]) D' W2))) :
    Calls Tryz.prog 98 #[y, .pointer (some ⟨b, 0, none⟩)] W fun e W' => (∃ v, e = .returned v) ∧ ∃ D', Sub D₀ D' W W' ∧ Kp (fun k => ¬ D₀ k) W W' ∧ (∀ k, D' k → k < W'.heap.size) ∧ (J (bwd xs) D' W' ∨ ∃ pre, pre <+: bwd xs ∧ Jx pre D' W') := by
  obtain ⟨yf, ya, yb, rfl⟩ := hyf
  obtain ⟨A, c, rfl, hO⟩ := hR.open_
  have hlen := hO.len
  have hb1 := cell_lt hb
  dsimp only at hb1
  obtain ⟨n, hln⟩ : ∃ n, xs.length = n := ⟨_, rfl⟩
  have HN := Lib.hid hln
  rw [hln] at hlen hb hn
  have HO := Lib.hid fun W' (hk : Kp S W W') => hO.kp hk
  have HKS := Lib.hid (show ∀ W', Kp (fun k => ¬ D₀ k) W W' → Kp S W W' from fun W' h => h.mono fun k _ hs hd => (hD k hd).2 hs)
  have HB := Lib.hid (show ∀ W', Kp (fun k => ¬ D₀ k) W W' → W'.cell? ⟨b, 0, none⟩ = some (.slice A n c) from fun W' hk => (hk.cell (p := ⟨b, 0, none⟩) hb1 fun h => (hD _ h).2 hSb).trans hb)
  have HY := Lib.hid hy
  have HJ0 := Lib.hid h0
  have HDD := Lib.hid hD
  clear hO hy h0 hD hR hln
  have hwn : IntKind.i64.wrap ((n : Int) - 1) = (n : Int) - 1 := IntWalk.i64_in _ (by omega)
  refine calls_of_body Tryz.func98 rfl ?_
  simp only [Tryz.ntmps98, List.size_toArray, List.length_cons, List.length_nil, Nat.reduceAdd, Nat.reduceSub, Array.replicate_succ, Array.replicate_zero, List.push_toArray, List.append_toArray, List.nil_append, List.cons_append]
  gi_wp2_with fail
  clear hwn hb
  gi_loopw [3] (fun i wr => ∃ (m j : Nat) (D : Fp), m + j = n ∧ i = .int .i64 ((m : Int) - 1) ∧ J ((bwd xs).take j) D wr ∧ (∀ k, D k → k < wr.heap.size) ∧ Sub D₀ D W wr ∧ Kp (fun k => ¬ D₀ k) W wr) (fun i _ => (intOf i + 1).toNat)
  case atStart => exact ⟨n, 0, D₀, rfl, rfl, HJ0.out, fun j hj => (HDD.out j hj).1, Sub.refl _ _, Kp.refl _ _⟩
  case round =>
    obtain ⟨m, j, D, hmj, rfl, hIk, hDk, hSub, hKp⟩ := hrel
    cases m with
    | succ m =>
      have hm0 : ((m + 1 : Nat) : Int) - 1 = (m : Int) := by omega
      rw [hm0]
      have hkj : j < (bwd xs).length := by rw [bwd_length]; have := HN.out; omega
      have hkm : m < xs.length := by have := HN.out; omega
      have hbg : (bwd xs)[j] = ((m : Int), xs[m]) := by
        rw [bwd_get]
        have : xs.length - 1 - j = m := by have := HN.out; omega
        simp only [this]
      have HT : Hid ((bwd xs).take (j + 1) = (bwd xs).take j ++ [((m : Int), xs[m])]) := Lib.hid (by rw [List.take_succ_eq_append_getElem hkj, hbg])
      have hpf : (bwd xs).take j ++ [((m : Int), xs[m])] <+: bwd xs := by rw [← HT.out]; exact List.take_prefix _ _
      obtain ⟨b2', off, rfl, hS2, hb2', hc0⟩ := (HO.out _ (HKS.out _ hKp)).rd.num hkm
      have hbc := HB.out _ hKp
      have hd : decide ((0 : Int) ≤ (m : Int)) = true := decide_eq_true (by omega)
      have hw : IntKind.i64.wrap ((m : Int) - 1) = (m : Int) - 1 := IntWalk.i64_in _ (by omega)
      have h0 : (0 : Int) ≤ (m : Int) := by omega
      have h1' : (m : Int) < (n : Int) := by omega
      have hcall := HY.out ((bwd xs).take j) ((m : Int), xs[m]) D wr hIk hDk hpf hSub hKp
      rw [← HT.out] at hcall
      generalize xs[m] = x at hc0 hcall HT hbg hpf
      have HC := Lib.hid hcall
      clear HY hcall hpf hIk hkj hkm hbg HT
      gi_wp2_with (refine listIn_callV rfl rfl (.func yf ya yb) rfl _ rfl ?_)
      refine HC.out.mono ?_
      rintro e W2 ⟨D', hs', hk', hd', h'⟩
      have hs2 : Sub D₀ D' W W2 := hSub.trans hs' hKp.size hk'.size
      have hk2 : Kp (fun j => ¬ D₀ j) W W2 := hKp.trans' hk' fun j hj hn hd => by
        rcases hSub j hd with h | h
        · exact hn h
        · omega
      clear hc0 HC hbc
      rcases h' with ⟨rfl, hI2⟩ | ⟨rfl, hIx2⟩
      · refine ⟨_, rfl, ?_⟩
        gi_wp2_with fail
        go_roundw
        case rel => exact ⟨m, j + 1, D', by omega, rfl, hI2, hd', hs2, hk2⟩
        case measure => simp [intOf]
      · refine ⟨_, rfl, ?_⟩
        gi_wp2_with fail
        exact leaves0 (results_none rfl _ _ _) ⟨⟨_, rfl⟩, D', hs2, hk2, hd', .inr ⟨_, List.take_prefix _ _, hIx2⟩⟩
    | zero =>
      rw [List.take_of_length_le (by rw [bwd_length]; have := HN.out; omega)] at hIk
      clear HY
      gi_wp2_with fail
      exact leaves0 (results_none rfl _ _ _) ⟨⟨_, rfl⟩, D, hSub, hKp, hDk, .inl hIk⟩

theorem backward_calls (v : Value) (xs : List Int) (S : Fp) (w : World) (hR : Rd EI S w v xs) (hn : xs.length ≤ 1000000) (hS : ∀ k, S k → k < w.heap.size) :
    Calls Tryz.prog 62 #[v] w fun e w' => ∃ s, e = .returned s ∧ SeqV Tryz.prog (fun k => S k ∨ (w.heap.size ≤ k ∧ k < w'.heap.size)) w' s encP (bwd xs) ∧ Ext w w' := by
  obtain ⟨A, c, rfl, hO⟩ := hR.open_
  go_enter Tryz.func62, Tryz.ntmps62
  go_wp2_with fail
  go_ret
  have hx : Ext w (w.alloc (.cells #[.slice A xs.length c] 40)) := (Kp.refl _ w).alloc _
  refine ⟨.func (.func 98) #[] #[.pointer (some ⟨w.heap.size, 0, none⟩)], rfl, ⟨⟨_, _, _, rfl⟩, ?_⟩, hx⟩
  intro W hW y J Jx D₀ hyf hJ hJx h0 hD hy
  have hz := hW.size
  simp only [World.size_alloc] at hz
  have hb1 := (Blk.new w 40 #[.slice A xs.length c]).kp hW (.inr ⟨Nat.le_refl _, by simp⟩)
  exact callF_fn (enters_of Tryz.func98 (by kernel_rfl) rfl) (backward1_calls w.heap.size _ xs _ W y hyf hb1.cell0 (.inr ⟨Nat.le_refl _, by simp⟩) (((hR.kp (hx.mono fun _ _ _ => trivial)).wide fun k hk => .inl hk).kp hW) hn J Jx D₀ hJ hJx h0 hD hy)

/-- The walk's step at a store into a map of one's own, within a fence. -/
theorem listIn_mapPut {β : Type} {F : Fence} {n : Nat} {P : Program} {k e t : TypeId} {ev : β → Value} {ed : β → DataW Unit} {z : β} {okE : β → Prop} {b m : Nat} {f : Int → Option β} {ops : Array Oper} {rest : List Oper} {o : Oper} {a : Act} {w : World} {Q : Exit → Act → World → Prop} {mm x v : Operand} (hgd : o.guard = none)
    (ho : o.op = Op.mapUpdate t mm x v) (h : GMap P k e ed z w b m f) (hP : P.underlying k = some (.int .i64)) (ht : P.underlying t = some (.map k e)) (M : ME P e ev ed z okE) (hn : m < maxLen) {xx : Int} (hx : IsI xx) {y : β} (hy : okE y)
    (e1 : a.eval mm = .map (some b)) (e2 : a.eval x = .int .i64 xx) (e3 : a.eval v = ev y)
    (hK : ∀ w', GMap P k e ed z w' b (m + 1) (fun x' => if x' = xx then some y else f x') → Kp (fun k => k ≠ b) w w' → wpListIn F n P ops Q rest (a.put o.dst undef) w') : wpListIn F n P ops Q (o :: rest) a w := by
  refine wpListIn_plain hgd fun K' hK' => ?_
  obtain ⟨w', hrun, r1, r2⟩ := h.put hP ht M hn hx hy
  unfold Oper.wpIn
  refine ⟨by simp [Oper.about, ho], ?_⟩
  rw [Oper.semAt_plain F _ _ (by rw [ho]; intro c hc'; cases hc')]
  unfold execOp
  simp only [ho, e1, e2, e3, Sem.run_bind, Sem.run_pure, hrun, Result.andThen_ok]
  exact hK' _ _ (hK w' r1 r2)

/-! ### Best -/
/-- What is told of pre of c's elements from behind: l, of which came cov; rest is to come. -/
structure BestP (cs : List Cm) (c : List Int) (pre : List (Int × Int)) (cov l rest : List Int) : Prop where
  told : c.reverse = pre.map Prod.snd ++ rest
  go : bestGo cs c.reverse [] = l ++ bestGo cs rest cov
  covn : cov.length ≤ pre.length * 300
  ln : l.length ≤ pre.length
theorem BestP.start (cs : List Cm) (c : List Int) : BestP cs c [] [] [] c.reverse := ⟨rfl, rfl, by simp, Nat.le_refl _⟩
section
variable {cs : List Cm} {c cov l rest : List Int} {pre : List (Int × Int)} {x : Int × Int}
theorem BestP.next (h : BestP cs c pre cov l rest) (hp : (pre ++ [x]) <+: bwd c) : ∃ t, rest = x.2 :: t := by
  obtain ⟨s, hs⟩ := hp
  have h1 := congrArg (List.map Prod.snd) hs
  rw [bwd_snd, h.told, List.map_append, List.map_append, List.append_assoc] at h1
  have := List.append_cancel_left h1
  exact ⟨_, this.symm⟩
theorem BestP.skip {t : List Int} (h : BestP cs c pre cov l (x.2 :: t)) (hc : cov.contains x.2 = true) : BestP cs c (pre ++ [x]) cov l t := by
  refine ⟨by rw [h.told, List.map_append, List.append_assoc]; rfl, ?_, Nat.le_trans h.covn (Nat.mul_le_mul_right _ (by rw [List.length_append]; exact Nat.le_add_right _ _)), by have := h.ln; rw [List.length_append, List.length_singleton]; omega⟩
  rw [h.go]
  congr 1
  rw [bestGo, if_pos hc]
theorem BestP.take {t : List Int} (h : BestP cs c pre cov l (x.2 :: t)) (hc : cov.contains x.2 = false) (hn : cs.length ≤ 300) : BestP cs c (pre ++ [x]) (cov ++ aheadF cs x.2) (l ++ [x.2]) t := by
  refine ⟨by rw [h.told, List.map_append, List.append_assoc]; rfl, ?_, ?_, by have := h.ln; rw [List.length_append, List.length_append, List.length_singleton, List.length_singleton]; omega⟩
  · rw [h.go, bestGo, if_neg (by rw [hc]; simp)]
    simp
  · have h1 := h.covn
    have h2 := aheadF_len cs x.2
    rw [List.length_append, List.length_append, List.length_singleton, Nat.add_mul, Nat.one_mul]
    exact Nat.add_le_add h1 (Nat.le_trans h2 hn)
theorem BestP.done (h : BestP cs c (bwd c) cov l rest) : l = bestGo cs c.reverse [] := by
  have h1 := h.told
  rw [bwd_snd] at h1
  have : rest = [] := by
    have := congrArg List.length h1
    rw [List.length_append] at this
    exact List.eq_nil_of_length_eq_zero (by omega)
  rw [h.go, this]
  simp [bestGo]
end

/-- The memory of Best: its boxes at n0, n0 + 2, n0 + 3, the map at n0 + 1. -/
structure BestM (rb n0 : Nat) (cov l : List Int) (E : Fp) (W : World) : Prop where
  box : Blk W n0 25 #[.pointer (some ⟨rb, 0, none⟩)]
  cbx : Blk W (n0 + 1 + 1) 100 #[.map (some (n0 + 1))]
  e0 : E n0
  e1 : E (n0 + 1)
  e2 : E (n0 + 1 + 1)
  set : BSet W (n0 + 1) cov
  row : Coll EI 40 3 (n0 + 1 + 1 + 1) l E W
theorem BestM.frame {rb n0 : Nat} {cov l : List Int} {E : Fp} {W W' : World} (h : BestM rb n0 cov l E W) (hk : Kp E W W') : BestM rb n0 cov l E W' :=
  ⟨h.box.kp hk h.e0, h.cbx.kp hk h.e2, h.e0, h.e1, h.e2, h.set.kp hk h.e1, h.row.frame hk⟩
theorem BestM.put {rb n0 : Nat} {cov l : List Int} {E : Fp} {W W' : World} {y : Int} (h : BestM rb n0 cov l E W) (hS : BMap W' (n0 + 1) (cov.length + 1) (inS (cov ++ [y]))) (hk : Kp (fun k => k ≠ n0 + 1) W W') : BestM rb n0 (cov ++ [y]) l E W' := by
  obtain ⟨v, h1, h2, h3, h4⟩ := h.row
  refine ⟨h.box.kp hk (by omega), h.cbx.kp hk (by omega), h.e0, h.e1, h.e2, ?_, v, h1.kp hk (by omega), h2.kp hk (fun g hg => by have := (h4 g hg).2; omega), h3, h4⟩
  show GMap _ _ _ _ _ _ _ (cov ++ [y]).length _
  rw [List.length_append]
  exact hS

section
variable {I D : Fp} {rb : Nat} {cs : List Cm} {room : Nat} {w : World}
set_option maxHeartbeats 2000000 in
set_option maxRecDepth 100000 in
theorem best_calls (h : RepoX repoT I D w rb cs room) (hG : GoodR cs) (hn : cs.length ≤ 300) (a b : Int) : Calls Tryz.prog 27 #[.pointer (some ⟨rb, 0, none⟩), .int .i64 a, .int .i64 b] w (IntsPost w (bestF cs a b)) := by
  have HC := Lib.hid fun W (hW : Ext w W) => common_calls (h.ext hW) hG hn a b
  have hDI : ∀ k, (D k ∨ I k) → k < w.heap.size := fun k hk => hk.elim (h.ld k) (h.li k)
  have HDI := Lib.hid hDI
  have HA := Lib.hid fun W (hW : Kp (fun k => k < w.heap.size) w W) n => ahead_calls (h.kp hW (fun k hk => hDI k (.inl hk)) fun k hk => hDI k (.inr hk)) hG hn n
  have HCL := Lib.hid (commonF_len cs a b)
  have HIS := Lib.hid (show ∀ x ∈ commonF cs a b, IsI x from fun x hx => by
    unfold commonF at hx
    rw [List.mem_reverse, List.mem_filter] at hx
    have := aheadF_le x hx.1
    unfold IsI; omega)
  have HBF := Lib.hid (show bestF cs a b = (bestGo cs (commonF cs a b).reverse []).reverse from rfl)
  have hmm := fun W => run_makeMap (P := Tryz.prog) 100 W
  clear h hG hDI
  generalize commonF cs a b = c at HC HCL HBF HIS
  generalize bestF cs a b = bf at HBF
  refine calls_of_body Tryz.func27 rfl ?_
  simp only [Tryz.ntmps27, List.size_toArray, List.length_cons, List.length_nil, Nat.reduceAdd, Nat.reduceSub, Array.replicate_succ, Array.replicate_zero, List.push_toArray, List.append_toArray, List.nil_append, List.cons_append]
  gi_wp2_with fail
  obtain ⟨n0, hn0⟩ : ∃ n0, w.heap.size = n0 := ⟨_, rfl⟩
  have hM0 : BestM rb n0 [] [] (fun k => k = n0 ∨ k = n0 + 1 ∨ k = n0 + 1 + 1 ∨ k = n0 + 1 + 1 + 1) ((((w.alloc (.cells #[.pointer (some ⟨rb, 0, none⟩)] 25)).alloc (.map #[] 0)).alloc (.cells #[.map (some (w.heap.size + 1))] 100)).alloc (.cells #[.slice none 0 0] 40)) := by
    subst hn0
    refine ⟨(((Blk.new w _ _).ext ((Kp.refl _ _).alloc _)).ext ((Kp.refl _ _).alloc _)).ext ((Kp.refl _ _).alloc _), ?_, .inl rfl, .inr (.inl rfl), .inr (.inr (.inl rfl)), ?_, ?_⟩
    · have := (Blk.new ((w.alloc (.cells #[.pointer (some ⟨rb, 0, none⟩)] 25)).alloc (.map #[] 0)) 100 #[.map (some (w.heap.size + 1))]).ext ((Kp.refl _ _).alloc (.cells #[.slice none 0 0] 40))
      simpa only [World.size_alloc] using this
    · have := ((GMap.made (P := Tryz.prog) (k := 3) (e := 4) (ed := edB) (z := false) (w.alloc (.cells #[.pointer (some ⟨rb, 0, none⟩)] 25))).ext ((Kp.refl _ _).alloc (.cells #[.map (some (w.heap.size + 1))] 100))).ext ((Kp.refl _ _).alloc (.cells #[.slice none 0 0] 40))
      rw [inS_nil, World.size_alloc] at this
      exact this
    · have := Blk.new (((w.alloc (.cells #[.pointer (some ⟨rb, 0, none⟩)] 25)).alloc (.map #[] 0)).alloc (.cells #[.map (some (w.heap.size + 1))] 100)) 40 #[.slice none 0 0]
      simp only [World.size_alloc] at this
      exact ⟨_, this, Own.nil _ _, .inr (.inr (.inr rfl)), fun g hg => by simp [Value.ownBlock] at hg⟩
  have hx0 : Ext w ((((w.alloc (.cells #[.pointer (some ⟨rb, 0, none⟩)] 25)).alloc (.map #[] 0)).alloc (.cells #[.map (some (w.heap.size + 1))] 100)).alloc (.cells #[.slice none 0 0] 40)) := ((((Kp.refl _ w).alloc _).alloc _).alloc _).alloc _
  have hz0 : ((((w.alloc (.cells #[.pointer (some ⟨rb, 0, none⟩)] 25)).alloc (.map #[] 0)).alloc (.cells #[.map (some (w.heap.size + 1))] 100)).alloc (.cells #[.slice none 0 0] 40)).heap.size = n0 + 4 := by simp; omega
  clear hmm
  generalize ((((w.alloc (.cells #[.pointer (some ⟨rb, 0, none⟩)] 25)).alloc (.map #[] 0)).alloc (.cells #[.map (some (w.heap.size + 1))] 100)).alloc (.cells #[.slice none 0 0] 40)) = w0 at hM0 hx0 hz0 ⊢
  rw [hn0]
  refine wide_call ((HC.out _ hx0).mono ?_)
  rintro e w1 ⟨u, rfl, hN1, hx1⟩
  have hsz1 := hx1.size
  have hBk := backward_calls u c (fun k => w0.heap.size ≤ k ∧ k < w1.heap.size) w1 (hN1.1.rd.wide fun k hk => ⟨hN1.2 k hk, hN1.1.lt hk⟩) (by have := HCL.out; omega) fun k hk => hk.2
  obtain ⟨A1, m1, c1, rfl⟩ := hN1.1.slice
  have HBk := Lib.hid hBk
  clear hBk hN1 HC
  gi_wp2_with fail
  refine wide_call (HBk.out.mono ?_)
  rintro e w2 ⟨s, rfl, hs2, hx2⟩
  have hsz2 := hx2.size
  have hM2 := hM0.frame (Kp.of_ext (hx1.trans hx2))
  have hxw2 : Ext w w2 := hx0.trans (hx1.trans hx2)
  obtain ⟨sf, sa, sb, rfl⟩ := hs2.isf
  clear HBk hM0 hx0 hx1 hx2
  gi_wp2_with fail
  refine range_wp (fv := .func sf sa sb) rfl hs2 (fun k hk => by omega) (fun _ => rfl)
    (fun pre E W => ∃ cov l rest, BestM rb n0 cov l E W ∧ BestP cs c pre cov l rest) (fun _ _ _ _ => False)
    (fun pre E W W' ⟨cov, l, rest, h1, h2⟩ _ hk => ⟨cov, l, rest, h1.frame hk, h2⟩) (fun _ _ _ _ _ h _ _ => h)
    (fun k => k = n0 ∨ k = n0 + 1 ∨ k = n0 + 1 + 1 ∨ k = n0 + 1 + 1 + 1) ⟨[], [], _, hM2, BestP.start cs c⟩ (fun k hk => ⟨by omega, by omega⟩) ?round ?done ?stop
  case stop => exact fun _ _ _ _ _ _ h => h.elim
  case done =>
    intro q E W' hI hsub hkp hlt hq hnq hblk
    obtain ⟨cov, l, rest, hM, hP⟩ := hI
    have hdn := hP.done
    obtain ⟨v, hv, hown, hB, hg⟩ := hM.row
    have hv0 := hv.cell0
    have hln := hP.ln
    rw [bwd_length] at hln
    have hRv := Lib.hid (revI_calls v l W' hown (by have := HCL.out; omega))
    have hHO := Lib.hid hown
    have hgv := Lib.hid hg
    have hvB := Lib.hid hv
    obtain ⟨A3, n3, c3, rfl⟩ := hown.slice
    clear hM hP hv hown hg
    gi_wp2_with fail
    refine wide_call (hRv.out.mono ?_)
    rintro e w3 ⟨⟨r, rfl⟩, hO3, hk3⟩
    have hv3 : Blk w3 (n0 + 1 + 1 + 1) 40 #[.slice A3 n3 c3] := hvB.out.kp hk3 fun e => by have := (hgv.out _ e).2; omega
    have c30 := hv3.cell0
    have HO3 := Lib.hid hO3
    have hb3 : w3.heap[q]? = some (.deferred (some [])) := hk3.heap (by intro e; exact hnq (hgv.out _ e).1) hblk
    clear hRv hO3 hv0 hv3
    gi_wp2_with fail
    refine leaves1 hb3 fun W3 hk _ => ⟨_, results_tmp rfl _ _ _, _, rfl, ⟨?_, fun g e => by have := (hgv.out g e).2; omega⟩, ?_⟩
    · rw [HBF.out, ← hdn]
      exact HO3.out.kp hk fun g e => by intro e'; subst e'; exact hnq (hgv.out _ e).1
    · refine ((hxw2.trans' hkp fun k hk _ h => by omega).trans' hk3 fun k hk _ e => by have := (hgv.out k e).2; omega).trans' hk fun k hk _ => by omega
  case round =>
    intro l pre x E W hI hE hpre hsub hkp hl hlt hnl K hK
    obtain ⟨cov, ll, rest, hM, hP⟩ := hI
    gi_wp2_with fail
    refine hK _ _ (Kp.refl _ W) ?_
    intro W₂ hk2 hsz hrec
    obtain ⟨t, rfl⟩ := hP.next hpre
    have hM2 := hM.frame (hk2.mono fun k _ hk => by rintro rfl; exact hnl hk)
    have hxI := HIS.out x.2 (by rw [← List.mem_reverse, hP.told]; simp)
    have hE2 : ∀ k, E k → k < W₂.heap.size := fun k hk => hk2.lt (hE k hk)
    have hEn : ∀ k, E k → n0 ≤ k := fun k hk => by
      rcases hsub k hk with h | h
      · omega
      · omega
    have hKW : Kp (fun k => k < w.heap.size) w W₂ := ((Kp.of_ext (T := fun k => k < w.heap.size) hxw2).trans' hkp fun k hk _ h => by omega).trans' hk2 fun k hk _ => by omega
    have hcovn := hP.covn
    have hpl : pre.length ≤ 300 := by
      have := hpre.length_le
      rw [List.length_append, bwd_length] at this
      have := HCL.out
      omega
    have hcb : cov.length ≤ 90000 := Nat.le_trans hcovn (Nat.mul_le_mul_right _ hpl)
    have hll := hP.ln
    obtain ⟨x1, x2⟩ := x
    have HP := Lib.hid hP
    have HM := Lib.hid hM2
    have HE2 := Lib.hid hE2
    have HEn := Lib.hid hEn
    have HKW := Lib.hid hKW
    have HK2 := Lib.hid hk2
    have hlk := hM2.set.look hxI
    have hsz2 := hk2.size
    dsimp only at hlk hxI
    have HXI := Lib.hid hxI
    have c7 := hM2.cbx.cell0
    have c3 := hM2.box.cell0
    clear hK hM hP hM2 hE2 hEn hKW hk2 hcovn hs2 hE hsub hkp hxI
    cases hcv : cov.contains x2 with
    | true =>
      rw [hcv] at hlk
      have HCV := Lib.hid hcv
      clear hcv
      gi_wp2_with fail
      refine ⟨E, fun k hk => .inl (.inl hk), Kp.refl _ _, HE2.out, cov, ll, HM.out, t, HP.out.skip HCV.out⟩
    | false =>
      rw [hcv] at hlk
      have HCV := Lib.hid hcv
      obtain ⟨v, hv, hown, hB, hg⟩ := HM.out.row
      have hv0 := hv.cell0
      have HV := Lib.hid hv
      have HO := Lib.hid hown
      have HB := Lib.hid hB
      have HGv := Lib.hid hg
      clear hcv hv hown hB hg
      gi_wp2_with (gi_at_builtin; refine stop ?_)
      refine listIn_append (v := v) (u := .slice (some ⟨W₂.heap.size, 0, none⟩) 1 1) tiI rfl rfl rfl rfl (HO.out.kp ((Kp.refl _ _).alloc _) (fun _ _ => trivial)) (Own.made W₂ 3 [x2] (by simp [maxLen])).rd (by simp; omega) (by simp [maxLen]; omega) ?_
      intro v' w' hown' hkp' hblk'
      obtain ⟨A', n', c', rfl⟩ := hown'.slice
      have hvB : v.ownBlock ≠ some (n0 + 1 + 1 + 1) := fun h => by have := (HGv.out _ h).2; omega
      have hvn : ∀ k, k ≤ n0 + 1 + 1 + 1 → v.ownBlock ≠ some k := fun k hk h => by have := (HGv.out _ h).2; omega
      have hv' : Blk w' (n0 + 1 + 1 + 1) 40 #[v] := (HV.out.ext ((Kp.refl _ W₂).alloc _)).kp hkp' hvB
      have hv0' := hv'.cell0
      have hf0' := hv'.frozen 0
      have hb' : Blk w' n0 25 #[.pointer (some ⟨rb, 0, none⟩)] := (HM.out.box.ext ((Kp.refl _ W₂).alloc _)).kp hkp' (hvn _ (by omega))
      have hc3' := hb'.cell0
      have hk5 : Kp (fun k => v.ownBlock ≠ some k ∧ k ≠ n0 + 1 + 1 + 1) W₂ (w'.setCell ⟨n0 + 1 + 1 + 1, 0, none⟩ (.slice A' n' c')) := (((Kp.refl _ W₂).alloc _).trans' hkp' fun k _ h => h.1).setCell (.inr fun h => h.2 rfl) _
      have hColl := Coll.stored HV.out HB.out HGv.out (Kp.of_ext ((Kp.refl _ W₂).alloc (.cells #[.int .i64 x2] 3))) (by simp) hown' hkp' hblk'
      have hz5 : (w'.setCell ⟨n0 + 1 + 1 + 1, 0, none⟩ (.slice A' n' c')).heap.size = w'.heap.size := by simp
      have hkE : Kp (fun k => ¬ E k) W₂ (w'.setCell ⟨n0 + 1 + 1 + 1, 0, none⟩ (.slice A' n' c')) := hk5.mono fun k _ h => ⟨fun e => h (HGv.out k e).1, fun e => h (e ▸ HB.out)⟩
      have hM5 : BestM rb n0 cov (ll ++ [x2]) (fun k => E k ∨ (W₂.heap.size ≤ k ∧ k < w'.heap.size)) (w'.setCell ⟨n0 + 1 + 1 + 1, 0, none⟩ (.slice A' n' c')) :=
        ⟨HM.out.box.kp hk5 ⟨hvn _ (by omega), by omega⟩, HM.out.cbx.kp hk5 ⟨hvn _ (by omega), by omega⟩, .inl HM.out.e0, .inl HM.out.e1, .inl HM.out.e2, HM.out.set.kp hk5 ⟨hvn _ (by omega), by omega⟩, hColl⟩
      have HM5 := Lib.hid hM5
      have HKE := Lib.hid hkE
      have hw2' : W₂.heap.size ≤ w'.heap.size := by have := hkE.size; omega
      have hKW5 : Kp (fun k => k < w.heap.size) w (w'.setCell ⟨n0 + 1 + 1 + 1, 0, none⟩ (.slice A' n' c')) := HKW.out.trans' hkE fun k hk _ h => by have := HEn.out k h; omega
      have hA5 := Lib.hid (HA.out _ hKW5 x2)
      have hne : n0 ≠ n0 + 1 + 1 + 1 := by omega
      have hlk5 : ∃ r', (w'.setCell ⟨n0 + 1 + 1 + 1, 0, none⟩ (.slice A' n' c')).heap[l]? = some (.loop r') := by
        obtain ⟨r', hr'⟩ := hrec
        exact ⟨r', hkE.heap hnl hr'⟩
      have HLK := Lib.hid hlk5
      clear hv0 c7 c3 hlk hvB hvn hv' hb' hk5 hColl hkE hM5 hKW5 hown' hkp' hblk' hrec hlk5
      gi_wp2_with fail
      generalize w'.setCell ⟨n0 + 1 + 1 + 1, 0, none⟩ (.slice A' n' c') = W5 at HM5 HKE hA5 HLK hz5 ⊢
      refine wideR_call (hA5.out.mono ?_)
      rintro e w6 ⟨u, rfl, hs6, hx6⟩
      obtain ⟨uf, ua, ub, rfl⟩ := hs6.isf
      have hsz6 := hx6.size
      obtain ⟨r', hr5⟩ := HLK.out
      have hr6 : w6.heap[l]? = some (.loop r') := hx6.heap trivial hr5
      clear hc3' hf0' hv0' hA5 HLK hr5
      gi_wp2_with fail
      refine range_in_wp hr6 (fv := .func uf ua ub) rfl hs6 (fun k hk => by
        rcases hk with hk | hk
        · have := HDI.out k hk; omega
        · omega) (fun _ => rfl)
        (fun told F W => BestM rb n0 (cov ++ told) (ll ++ [x2]) F W) (fun _ _ _ _ => False)
        (fun told F W W' h _ hk => h.frame hk) (fun _ _ _ _ _ h _ _ => h)
        (fun k => E k ∨ (W₂.heap.size ≤ k ∧ k < w'.heap.size)) (by rw [List.append_nil]; exact HM5.out.frame (Kp.of_ext hx6)) (fun k hk => ⟨by
          rcases hk with hk | hk
          · have := HE2.out k hk; omega
          · omega, fun hs => by
          have h1 : n0 ≤ k ∧ k < w'.heap.size := by
            rcases hk with hk | hk
            · have := HEn.out k hk; have := HE2.out k hk; omega
            · omega
          rcases hs with hs | hs
          · have := HDI.out k hs; omega
          · omega⟩) ?rnd ?dn ?stp
      case stp => exact fun _ _ _ _ _ h => h.elim
      case dn =>
        intro F W9 hI9 hsub9 hkp9 hlt9
        have HI9 := Lib.hid hI9
        clear hI9
        gi_wp2_with fail
        refine ⟨F, fun k hk => ?_, ?_, hlt9, cov ++ aheadF cs x2, ll ++ [x2], t, HI9.out, HP.out.take HCV.out hn⟩
        · have := hkp9.size
          rcases hsub9 k hk with (h | h) | h
          · exact .inl (.inl h)
          · exact .inr ⟨h.1, by omega⟩
          · exact .inr ⟨by omega, h.2⟩
        · refine ((HKE.out.mono fun k _ h e => h (.inl e)).trans (Kp.of_ext hx6)).trans' hkp9 fun k hk hn h => ?_
          rcases h with h | h
          · exact hn (.inl h)
          · omega
      case rnd =>
        intro l2 pre2 y F W7 hI7 hF hpre2 hsub2 hkp2 hl2 hlt2 hnl2 K2 hK2
        gi_wp2_with fail
        refine hK2 _ _ (Kp.refl _ W7) ?_
        intro W8 hk8 hsz8 hrec8
        have hM8 := hI7.frame (hk8.mono fun k _ hk => by rintro rfl; exact hnl2 hk)
        have c7 := hM8.cbx.cell0
        have hym : y ∈ aheadF cs x2 := hpre2.subset (by simp)
        have hyI : IsI y := by have := aheadF_le y hym; unfold IsI; omega
        have hp2 : pre2.length ≤ 300 := by
          have := hpre2.length_le
          rw [List.length_append] at this
          have := aheadF_len cs x2
          omega
        have HM8 := Lib.hid hM8
        have HF8 := Lib.hid (show ∀ k, F k → k < W8.heap.size from fun k hk => hk8.lt (hF k hk))
        have HYI := Lib.hid hyI
        clear hK2 hI7 hF hpre2 hsub2 hkp2 hl2 hlt2 hrec8 hM8 hym hyI hs6
        gi_wp2_with (refine listIn_mapPut rfl rfl HM8.out.set Tryz.underlying3 Tryz.underlying100 meB (by rw [List.length_append]; unfold maxLen; omega) (xx := y) HYI.out (y := true) trivial rfl rfl rfl ?_)
        intro w9 hM9 hk9
        rw [inS_snoc] at hM9
        have HM9 := Lib.hid hM9
        clear hM9 c7
        gi_wp2_with fail
        refine ⟨F, fun k hk => .inl (.inl hk), hk9.mono fun k _ h e => h (.inl (e ▸ HM8.out.e1)), fun k hk => hk9.lt (HF8.out k hk), ?_⟩
        have hfin := HM8.out.put (y := y) (by rw [List.length_append]; exact HM9.out) hk9
        rw [List.append_assoc] at hfin
        exact hfin
end


end Go.Proofs.YtgjbfkaepalkiaaGreatDoor
