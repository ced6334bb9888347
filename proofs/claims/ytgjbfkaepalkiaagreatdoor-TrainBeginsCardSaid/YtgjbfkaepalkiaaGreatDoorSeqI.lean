/-
  Sequences of numbers: slices.AppendSeq, Collect, seq.List, seq.Filter.
-/
import Derived.Test.YtgjbfkaepalkiaaGreatDoorInts
import Derived.Test.YtgjbfkaepalkiaaGreatDoorSeq
namespace Go.Proofs.YtgjbfkaepalkiaaGreatDoor
open Go.RowKit
set_option linter.unusedVariables false
set_option linter.unusedSimpArgs false
attribute [local go_sem] Oper.semAt_some

/-- slices.AppendSeq at numbers, of no elements ahead. -/
theorem appendSeqI_calls (s : Value) (xs : List Int) (S : Fp) (w : World) (hs : SeqV Tryz.prog S w s encI' xs) (hS : ∀ k, S k → k < w.heap.size) (hb : xs.length ≤ 1000000) :
    Calls Tryz.prog 166 #[.slice none 0 0, s] w fun e w' => ∃ u, e = .returned u ∧ New EI 3 w.heap.size w' u xs ∧ Ext w w' := by
  refine calls_of_body Tryz.func166 rfl ?_
  simp only [Tryz.ntmps166, List.size_toArray, List.length_cons, List.length_nil, Nat.reduceAdd, Nat.reduceSub, Array.replicate_succ, Array.replicate_zero, List.push_toArray, List.append_toArray, List.nil_append, List.cons_append]
  gi_wp2_with fail
  refine range_wp (fv := s) rfl (hs.later (Kp.of_ext ((Kp.refl _ w).alloc _))) (fun k hk => Nat.lt_of_lt_of_le (hS k hk) (by simp)) (fun _ => rfl) (fun pre D W => Coll EI 40 3 w.heap.size pre D W) (fun _ _ _ _ => False)
    (fun pre D W W' h _ hk => h.frame hk) (fun _ _ _ _ _ h _ _ => h) (fun k => k = w.heap.size) ⟨_, Blk.new w _ _, Own.nil _ _, rfl, fun g hg => by simp [Value.ownBlock] at hg⟩ (fun k hk => ⟨by simp; omega, fun h => by have := hS k h; omega⟩) ?round ?done ?stop
  case stop => exact fun _ _ _ _ _ _ h => h.elim
  case round =>
    intro l pre x D W hI hD hpre hsub hkp hl hlt hnl K hK
    gi_wp2_with fail
    refine hK _ _ (Kp.refl _ W) ?_
    intro W₂ hk2 hsz hrec
    obtain ⟨v, hv, hown, hB, hg⟩ := hI.frame (hk2.mono fun k _ hk => by rintro rfl; exact hnl hk)
    have hv0 := hv.cell0
    have hpl : (pre ++ [x]).length ≤ xs.length := hpre.length_le
    simp only [List.length_append, List.length_singleton] at hpl
    clear hsub hkp hl hrec hK hs hS
    gi_wp2_with (gi_at_builtin; refine stop ?_)
    refine listIn_append (v := v) (u := .slice (some ⟨W₂.heap.size, 0, none⟩) 1 1) tiI rfl rfl rfl rfl (hown.kp ((Kp.refl _ _).alloc _) (fun _ _ => trivial)) (Own.made W₂ 3 [x] (by simp [maxLen])).rd (by simp; omega) (by simp [maxLen]; omega) ?_
    intro v' w' hown' hkp' hblk'
    obtain ⟨A', n', c', rfl⟩ := hown'.slice
    have hvB : v.ownBlock ≠ some w.heap.size := fun h => by have := (hg _ h).2; omega
    have hv' : Blk w' w.heap.size 40 #[v] := (hv.ext ((Kp.refl _ W₂).alloc _)).kp hkp' hvB
    have hv0' := hv'.cell0
    have hf0' := hv'.frozen 0
    clear hv0
    gi_wp2_with fail
    exact coll_step (fun k hk => .inl hk) (fun k hk => by have := hk2.size; rcases hk with hk | hk; exact hk2.lt (hD k hk); omega) hv hB hg ((Kp.refl _ _).alloc _) hown' hkp' hblk'
  case done =>
    intro q D' W' hI hsub hkp hlt hq hnq hblk
    obtain ⟨v, hv, hown, hB, hg⟩ := hI
    have hv0 := hv.cell0
    have hq' : q ≠ w.heap.size := by simp at hq; omega
    simp only [World.size_alloc] at hq
    have hgq : ∀ g, v.ownBlock = some g → g ≠ q := fun g h e => hnq (e ▸ (hg g h).1)
    clear hs hS
    gi_wp2_with fail
    refine leaves1 hblk fun W3 hk3 _ => ⟨_, results_tmp rfl _ _ _, v, rfl, ⟨hown.kp hk3 hgq, fun g h => by have := (hg g h).2; omega⟩, ?_⟩
    exact (((Kp.refl _ w).alloc _).trans' hkp fun k hk _ => Nat.ne_of_lt hk).trans' hk3 fun k hk _ => by omega

theorem listI_calls (s : Value) (xs : List Int) (S : Fp) (w : World) (hs : SeqV Tryz.prog S w s encI' xs) (hS : ∀ k, S k → k < w.heap.size) (hb : xs.length ≤ 1000000) :
    Calls Tryz.prog 100 #[s] w fun e w' => ∃ u, e = .returned u ∧ New EI 3 w.heap.size w' u xs ∧ Ext w w' := by
  obtain ⟨f, a, b, rfl⟩ := hs.isf
  have hnil := run_eql_func_nil (P := Tryz.prog) 105 ⟨_, _, _, Tryz.underlying105⟩
  go_enter Tryz.func100, Tryz.ntmps100
  have hc : Calls Tryz.prog 142 #[.func f a b] w fun e w' => ∃ u, e = .returned u ∧ New EI 3 w.heap.size w' u xs ∧ Ext w w' := by
    clear hnil
    go_enter Tryz.func142, Tryz.ntmps142
    go_wp2_with fail
    refine (appendSeqI_calls _ xs S w hs hS hb).mono ?_
    rintro e w1 ⟨u, rfl, hN, hx⟩
    go_wp2_with fail
    go_ret
    exact ⟨u, rfl, hN, hx⟩
  have HC := Lib.hid hc
  clear hc hs hS
  go_wp2_with fail
  refine HC.out.mono ?_
  rintro e w1 ⟨u, rfl, hN, hx⟩
  clear hnil
  go_wp2_with fail
  go_ret
  exact ⟨u, rfl, hN, hx⟩

/-- A function's value that answers so at some elements. -/
structure FnOn {α : Type} (P : Program) (S : Fp) (w : World) (fv : Value) (args : α → Array Value) (res : α → Value) (ok : α → Prop) : Prop where
  isf : ∃ f a b, fv = .func f a b
  does : ∀ W, Kp S w W → ∀ x, ok x → CallV P fv (args x) W fun e W' => e = .returned (res x) ∧ Ext W W'
theorem FnOn.later {α : Type} {P : Program} {S : Fp} {w w' : World} {fv : Value} {args : α → Array Value} {res : α → Value} {ok : α → Prop} (h : FnOn P S w fv args res ok) (hk : Kp S w w') : FnOn P S w' fv args res ok :=
  ⟨h.isf, fun W hW => h.does W (hk.trans hW)⟩
theorem FnOn.wide {α : Type} {P : Program} {S T : Fp} {w : World} {fv : Value} {args : α → Array Value} {res : α → Value} {ok : α → Prop} (h : FnOn P S w fv args res ok) (hs : ∀ k, S k → T k) : FnOn P T w fv args res ok :=
  ⟨h.isf, fun W hW => h.does W (hW.mono fun k _ hk => hs k hk)⟩

set_option maxHeartbeats 800000 in
/-- seq.Filter's function. -/
theorem filterI1_calls (b1 b2 : Nat) (s f : Value) (xs : List Int) (p : Int → Bool) (S : Fp) (W : World) (y : Value) (hyf : ∃ f a b, y = .func f a b) (h1 : W.cell? ⟨b1, 0, none⟩ = some s) (h2 : W.cell? ⟨b2, 0, none⟩ = some f) (hS1 : S b1) (hS2 : S b2) (hSW : ∀ k, S k → k < W.heap.size)
    (hs : SeqV Tryz.prog S W s encI' xs) (hf : FnOn Tryz.prog S W f encI' (fun x => .bool (p x)) (fun x => x ∈ xs))
    (I Ix : List Int → Fp → World → Prop) (D₀ : Fp) (hI : Frames I) (hIx : Frames Ix) (h0 : I [] D₀ W) (hD : ∀ k, D₀ k → k < W.heap.size ∧ ¬ S k)
    (hy : ∀ pre x D W1, I pre D W1 → (∀ k, D k → k < W1.heap.size) → (pre ++ [x]) <+: xs.filter p → Sub D₀ D W W1 → Kp (fun k => ¬ D₀ k) W W1 → CallV Tryz.prog y (encI' x) W1 fun e W2 =>
      ∃ D', Sub D D' W1 W2 ∧ Kp (fun k => ¬ D k) W1 W2 ∧ (∀ k, D' k → k < W2.heap.size) ∧ ((e = .returned (.bool true) ∧ I (pre ++ [x]) D' W2) ∨ (e = .returned (.bool false) ∧ Ix (pre ++ [x]) D' W2))) :
    Calls Tryz.prog 143 #[y, .pointer (some ⟨b1, 0, none⟩), .pointer (some ⟨b2, 0, none⟩)] W fun e W' => (∃ v, e = .returned v) ∧ ∃ D', Sub D₀ D' W W' ∧ Kp (fun k => ¬ D₀ k) W W' ∧ (∀ k, D' k → k < W'.heap.size) ∧ (I (xs.filter p) D' W' ∨ ∃ pre, pre <+: xs.filter p ∧ Ix pre D' W') := by
  obtain ⟨sf, sa, sb, rfl⟩ := hs.isf
  obtain ⟨ff, fa, fb, rfl⟩ := hf.isf
  obtain ⟨yf, ya, yb, rfl⟩ := hyf
  have hb1 := cell_lt h1
  have hb2 := cell_lt h2
  dsimp only at hb1 hb2
  have hnil := run_eql_func_nil (P := Tryz.prog) 105 ⟨_, _, _, Tryz.underlying105⟩
  have hnil2 := run_eql_func_nil (P := Tryz.prog) 115 ⟨_, _, _, Tryz.underlying115⟩
  refine calls_of_body Tryz.func143 rfl ?_
  simp only [Tryz.ntmps143, List.size_toArray, List.length_cons, List.length_nil, Nat.reduceAdd, Nat.reduceSub, Array.replicate_succ, Array.replicate_zero, List.push_toArray, List.append_toArray, List.nil_append, List.cons_append]
  gi_wp2_with fail
  clear hnil hnil2
  have hbox := Blk.new W 115 #[Value.func yf ya yb]
  have hx0 : Ext W (W.alloc (.cells #[Value.func yf ya yb] 115)) := (Kp.refl _ W).alloc _
  have hz0 : (W.alloc (.cells #[Value.func yf ya yb] 115)).heap.size = W.heap.size + 1 := by simp
  generalize hW0 : W.alloc (.cells #[Value.func yf ya yb] 115) = W0 at hbox hx0 hz0
  refine range_wp (fv := .func sf sa sb) rfl (hs.later (Kp.of_ext hx0)) (fun k hk => by have := hSW k hk; omega) (fun _ => rfl) (fun pre D W' => I (pre.filter p) D W') (fun c _ D W' => c = .ret ∧ ∃ pre, pre <+: xs.filter p ∧ Ix pre D W')
    (fun pre D W1 W2 h hd hk => hI _ _ _ _ h hd hk) (fun c pre D W1 W2 ⟨hc, q, hq, h⟩ hd hk => ⟨hc, q, hq, hIx _ _ _ _ h hd hk⟩) D₀ (hI _ _ _ _ h0 (fun k hk => (hD k hk).1) (Kp.of_ext hx0)) (fun k hk => ⟨hx0.lt (hD k hk).1, (hD k hk).2⟩) ?round ?done ?stop
  case round =>
    intro l pre x D Wr hIr hDr hpre hsub hkp hl hlt hnl K hK
    gi_wp2_with fail
    refine hK _ _ (Kp.refl _ Wr) ?_
    intro W₂ hk2 hsz hrec
    clear hK hrec
    have hWW : Kp (fun k => k ≠ l) Wr W₂ := hk2
    have hy2 := ((hbox.kp hkp fun h => by have := (hD _ h).1; omega).kp hWW (by omega))
    have hold : Kp (fun k => ¬ D₀ k) W W₂ := ((hx0.mono fun _ _ _ => trivial).trans hkp).trans' hWW fun k hk _ => by omega
    have hSW2 : Kp S W W₂ := hold.mono fun k _ hs hd => (hD k hd).2 hs
    have hc2 : W₂.cell? ⟨b2, 0, none⟩ = some (.func ff fa fb) := (hSW2.cell (p := ⟨b2, 0, none⟩) hb2 hS2).trans h2
    have hfl : (pre ++ [x]).filter p = pre.filter p ++ if p x then [x] else [] := by rw [List.filter_append]; cases h : p x <;> simp [h]
    have hpf : (pre ++ [x]).filter p <+: xs.filter p := hpre.filter p
    have hmem : x ∈ xs := hpre.subset (by simp)
    have hD2 : ∀ k, D k → k < W₂.heap.size := fun k hk => hWW.lt (hDr k hk)
    have hI2 : I (pre.filter p) D W₂ := hI _ _ _ _ hIr hDr (hWW.mono fun k _ hk => by rintro rfl; exact hnl hk)
    have hsubW : Sub D₀ D W W₂ := fun k hk => by
      have := hWW.size
      rcases hsub k hk with h | h
      · exact .inl h
      · exact .inr ⟨by omega, by omega⟩
    clear hsub hkp hWW hIr hDr hk2
    gi_wp2_with (refine listInR_callV rfl rfl (.func ff fa fb) rfl _ rfl ?_)
    refine (hf.does W₂ hSW2 x hmem).mono ?_
    rintro e W3 ⟨rfl, hx3⟩
    have hold3 : Kp (fun k => ¬ D₀ k) W W3 := hold.trans (Kp.of_ext hx3)
    have hI3 : I (pre.filter p) D W3 := hI _ _ _ _ hI2 hD2 (Kp.of_ext hx3)
    have hD3 : ∀ k, D k → k < W3.heap.size := fun k hk => hx3.lt (hD2 k hk)
    have hsub3 : Sub D₀ D W W3 := fun k hk => (hsubW k hk).imp id fun h => ⟨h.1, hx3.lt h.2⟩
    refine ⟨_, rfl, ?_⟩
    cases hp : p x with
    | false =>
      rw [hp] at hfl
      gi_wp2_with (refine listInR_skip rfl undef rfl ?_ ?_)
      refine ⟨D, fun k hk => .inl (.inl hk), Kp.of_ext hx3, hD3, ?_⟩
      show I ((pre ++ [x]).filter p) D W3
      rw [hfl]; simpa using hI3
    | true =>
      rw [hp] at hfl
      simp only [if_true] at hfl
      have hy3 := (hy2.ext hx3).cell0
      clear hc2
      gi_wp2_with (refine listInR_callV_g rfl (.func yf ya yb) rfl _ rfl ?_ ?_)
      rw [hfl] at hpf
      refine (hy (pre.filter p) x D W3 hI3 hD3 hpf hsub3 hold3).mono ?_
      rintro e W4 ⟨D', hs4, hk4, hl4, h4⟩
      have hs4' : Sub (fun k => D k ∨ (Wr.heap.size ≤ k ∧ k < Wr.heap.size)) D' W₂ W4 := fun k hk => by
        have := hx3.size
        rcases hs4 k hk with h | h
        · exact .inl (.inl h)
        · exact .inr ⟨by omega, h.2⟩
      have hk4' : Kp (fun k => ¬ (D k ∨ (Wr.heap.size ≤ k ∧ k < Wr.heap.size))) W₂ W4 := (Kp.of_ext hx3).trans' hk4 fun k _ hk h => hk (.inl h)
      rw [← hfl] at h4 hpf
      rcases h4 with ⟨rfl, h4⟩ | ⟨rfl, h4⟩
      · refine ⟨_, rfl, ?_⟩
        gi_wp2_with fail
        exact ⟨D', hs4', hk4', hl4, h4⟩
      · refine ⟨_, rfl, ?_⟩
        gi_wp2_with fail
        exact ⟨D', hs4', hk4', hl4, rfl, _, hpf, h4⟩
  case done =>
    intro q D' W' hId hsub hkp hlt hq hnq hblk
    gi_wp2_with fail
    refine leaves1 hblk fun W3 hk3 hz3 => ⟨_, results_none rfl _ _ _, ⟨_, rfl⟩, D', fun k hk => ?_, ((hx0.mono fun _ _ _ => trivial).trans hkp).trans' hk3 (fun k hk _ => by omega), fun k hk => by have := hlt k hk; omega, .inl (hI _ _ _ _ hId hlt (hk3.mono fun k _ hk => by rintro rfl; exact hnq hk))⟩
    rcases hsub k hk with h | h
    · exact .inl h
    · exact .inr ⟨by omega, by omega⟩
  case stop =>
    rintro q c pre D' W' hpre ⟨rfl, r, hr, hIr⟩ hsub hkp hlt hq hnq hblk
    gi_wp2_with fail
    refine leaves1 hblk fun W3 hk3 hz3 => ⟨_, results_none rfl _ _ _, ⟨_, rfl⟩, D', fun k hk => ?_, ((hx0.mono fun _ _ _ => trivial).trans hkp).trans' hk3 (fun k hk _ => by omega), fun k hk => by have := hlt k hk; omega, .inr ⟨r, hr, hIx _ _ _ _ hIr hlt (hk3.mono fun k _ hk => by rintro rfl; exact hnq hk)⟩⟩
    rcases hsub k hk with h | h
    · exact .inl h
    · exact .inr ⟨by omega, by omega⟩

theorem filterI_calls (s f : Value) (xs : List Int) (p : Int → Bool) (S : Fp) (w : World) (hs : SeqV Tryz.prog S w s encI' xs) (hf : FnOn Tryz.prog S w f encI' (fun x => .bool (p x)) (fun x => x ∈ xs)) (hS : ∀ k, S k → k < w.heap.size) :
    Calls Tryz.prog 101 #[s, f] w fun e w' => ∃ u, e = .returned u ∧ SeqV Tryz.prog (fun k => S k ∨ (w.heap.size ≤ k ∧ k < w'.heap.size)) w' u encI' (xs.filter p) ∧ Ext w w' := by
  obtain ⟨sf, sa, sb, rfl⟩ := hs.isf
  obtain ⟨ff, fa, fb, rfl⟩ := hf.isf
  go_enter Tryz.func101, Tryz.ntmps101
  go_wp2_with fail
  go_ret
  have hx : Ext w ((w.alloc (.cells #[.func sf sa sb] 105)).alloc (.cells #[.func ff fa fb] 115)) := ((Kp.refl _ w).alloc _).alloc _
  refine ⟨.func (.func 143) #[] #[.pointer (some ⟨w.heap.size, 0, none⟩), .pointer (some ⟨w.heap.size + 1, 0, none⟩)], rfl, ⟨⟨_, _, _, rfl⟩, ?_⟩, hx⟩
  intro W hW y I Ix D₀ hyf hI hIx h0 hD hy
  have hz := hW.size
  simp only [World.size_alloc] at hz
  have hb1 := ((Blk.new w 105 #[.func sf sa sb]).ext ((Kp.refl _ _).alloc (.cells #[.func ff fa fb] 115))).kp hW (.inr ⟨Nat.le_refl _, by simp; omega⟩)
  have hb2 := (Blk.new (w.alloc (.cells #[.func sf sa sb] 105)) 115 #[.func ff fa fb]).kp hW (.inr ⟨by simp, by simp⟩)
  simp only [World.size_alloc] at hb2
  have hk : Kp S w W := (Kp.of_ext hx).trans' hW fun k _ h => .inl h
  refine callF_fn (enters_of Tryz.func143 (by kernel_rfl) rfl) (filterI1_calls w.heap.size (w.heap.size + 1) (.func sf sa sb) (.func ff fa fb) xs p (fun k => S k ∨ (w.heap.size ≤ k ∧ k < w.heap.size + 1 + 1)) W y hyf hb1.cell0 hb2.cell0 (.inr ⟨by omega, by omega⟩) (.inr ⟨by omega, by omega⟩) ?_ ((hs.later hk).wide fun k h => .inl h) ((hf.later hk).wide fun k h => .inl h) I Ix D₀ hI hIx h0 ?_ hy)
  · rintro k (h | h)
    · have := hS k h; omega
    · omega
  · intro k hk
    have := hD k hk
    simpa using this

end Go.Proofs.YtgjbfkaepalkiaaGreatDoor
