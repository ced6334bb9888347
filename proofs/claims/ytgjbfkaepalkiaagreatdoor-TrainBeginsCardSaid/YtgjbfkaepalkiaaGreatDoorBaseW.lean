/-
  base: set, Common, Best.
-/
import Derived.Test.YtgjbfkaepalkiaaGreatDoorDag
import Derived.Test.YtgjbfkaepalkiaaGreatDoorStanding
namespace Go.Proofs.YtgjbfkaepalkiaaGreatDoor
open Go.RowKit Go.Maps
open Go.ChangeMaps Go.MapKept
set_option linter.unusedVariables false
set_option linter.unusedSimpArgs false

def edB (x : Bool) : DataW Unit := .lit (.bool x)
set_option maxRecDepth 100000 in
theorem meB : ME Tryz.prog 4 (fun x => .bool x) edB false (fun _ => True) := by
  refine ⟨fun w => Tryz.zeroValue4 w, trivial, fun y hy => ?_, fun v ps y h => ?_⟩
  · exact plainElem_bool Tryz.underlying4 y
  · unfold plainElem at h
    rw [Tryz.underlying4] at h
    cases v <;> simp [edB] at h
    rw [h.1]
abbrev BMap (w : World) (b n : Nat) (f : Int → Option Bool) : Prop := GMap Tryz.prog 3 4 edB false w b n f
/-- A set of numbers, as a map. -/
def inS (l : List Int) : Int → Option Bool := fun x => if l.contains x = true then some true else none
theorem inS_nil : (fun _ => none : Int → Option Bool) = inS [] := rfl
theorem inS_snoc (l : List Int) (x : Int) : (fun x' => if x' = x then some true else inS l x') = inS (l ++ [x]) := by
  funext y
  unfold inS
  simp only [List.contains_eq_mem, List.mem_append, List.mem_singleton, decide_eq_true_eq]
  by_cases h : y = x
  · simp [h]
  · simp [h]
theorem inS_at (l : List Int) (x : Int) : (inS l x).getD false = l.contains x := by
  unfold inS
  cases h : l.contains x <;> simp

abbrev BSet (w : World) (b : Nat) (l : List Int) : Prop := BMap w b l.length (inS l)
def IsI (x : Int) : Prop := -9223372036854775808 ≤ x ∧ x ≤ 9223372036854775807
end Go.Proofs.YtgjbfkaepalkiaaGreatDoor

namespace Go.Proofs.YtgjbfkaepalkiaaGreatDoor
open Go.RowKit
set_option linter.unusedVariables false
set_option linter.unusedSimpArgs false
attribute [local go_sem] Oper.semAt_some

theorem BSet.look {w : World} {b : Nat} {l : List Int} (h : BSet w b l) {x : Int} (hx : IsI x) : (Instr.lookup 100 (.map (some b)) (.int .i64 x) false).run Tryz.prog w = .ok (.bool (l.contains x)) w := by
  have := h.look1 (t := 100) Tryz.underlying3 Tryz.underlying100 meB hx
  rwa [inS_at] at this

theorem set1_calls (b : Nat) (l : List Int) (x : Int) (w : World) (h : BSet w b l) (hl : l.length ≤ 1000000) (hx : IsI x) :
    Calls Tryz.prog 141 #[.map (some b), .int .i64 x] w fun e w' => e = .returned (.map (some b)) ∧ BSet w' b (l ++ [x]) ∧ Kp (fun k => k ≠ b) w w' := by
  have H := Lib.hid h
  clear h
  go_enter Tryz.func141, Tryz.ntmps141
  go_wp2_with (refine list_mapPut rfl rfl H.out Tryz.underlying3 Tryz.underlying100 meB (by unfold maxLen; omega) (xx := x) hx (y := true) trivial rfl rfl rfl ?_)
  intro w3 hM3 hk3
  rw [inS_snoc] at hM3
  have HM3 := Lib.hid hM3
  clear hM3
  go_wp2_with fail
  go_ret
  refine ⟨rfl, ?_, hk3⟩
  show GMap _ _ _ _ _ _ _ (l ++ [x]).length _
  rw [List.length_append]
  exact HM3.out

set_option maxRecDepth 100000 in
/-- seq.Fold with set's function. -/
theorem foldSet_calls (s : Value) (xs : List Int) (S : Fp) (w : World) (b : Nat) (hs : SeqV Tryz.prog S w s encI' xs) (hS : ∀ k, S k → k < w.heap.size) (hb : ¬ S b) (hM : BSet w b []) (hn : xs.length ≤ 1000000) (hx : ∀ x ∈ xs, IsI x) :
    Calls Tryz.prog 140 #[s, .map (some b), .func (.func 141) #[] #[]] w fun e w' => e = .returned (.map (some b)) ∧ BSet w' b xs ∧ Kp (fun k => k ≠ b) w w' := by
  obtain ⟨sf, sa, sb, rfl⟩ := hs.isf
  have hbl := hM.lt
  have hnil := run_eql_func_nil (P := Tryz.prog) 105 ⟨_, _, _, Tryz.underlying105⟩
  have hnil2 := run_eql_func_nil (P := Tryz.prog) 164 ⟨_, _, _, Tryz.underlying164⟩
  have HMM := Lib.hid hM
  clear hM
  refine calls_of_body Tryz.func140 rfl ?_
  simp only [Tryz.ntmps140, List.size_toArray, List.length_cons, List.length_nil, Nat.reduceAdd, Nat.reduceSub, Array.replicate_succ, Array.replicate_zero, List.push_toArray, List.append_toArray, List.nil_append, List.cons_append]
  gi_wp2_with fail
  clear hnil hnil2
  have hB1 := (Blk.new w 100 #[.map (some b)]).ext ((Kp.refl _ _).alloc (.cells #[.func (.func 141) #[] #[]] 164))
  have hB2 := Blk.new (w.alloc (.cells #[.map (some b)] 100)) 164 #[.func (.func 141) #[] #[]]
  rw [World.size_alloc] at hB2
  have hx0 : Ext w ((w.alloc (.cells #[.map (some b)] 100)).alloc (.cells #[.func (.func 141) #[] #[]] 164)) := ((Kp.refl _ w).alloc _).alloc _
  have hz0 : ((w.alloc (.cells #[.map (some b)] 100)).alloc (.cells #[.func (.func 141) #[] #[]] 164)).heap.size = w.heap.size + 2 := by simp
  generalize ((w.alloc (.cells #[.map (some b)] 100)).alloc (.cells #[.func (.func 141) #[] #[]] 164)) = W0 at hB1 hB2 hx0 hz0
  refine range_wp (fv := .func sf sa sb) rfl (hs.later (Kp.of_ext hx0)) (fun k hk => by have := hS k hk; omega) (fun _ => rfl)
    (fun pre D W => Blk W w.heap.size 100 #[.map (some b)] ∧ Blk W (w.heap.size + 1) 164 #[.func (.func 141) #[] #[]] ∧ BSet W b pre ∧ D w.heap.size ∧ D (w.heap.size + 1) ∧ D b) (fun _ _ _ _ => False)
    (fun pre D W W' ⟨h1, h2, h3, h4, h5, h6⟩ _ hk => ⟨h1.kp hk h4, h2.kp hk h5, h3.kp hk h6, h4, h5, h6⟩) (fun _ _ _ _ _ h _ _ => h)
    (fun k => k = w.heap.size ∨ k = w.heap.size + 1 ∨ k = b) ⟨hB1, hB2, HMM.out.ext hx0, .inl rfl, .inr (.inl rfl), .inr (.inr rfl)⟩ (fun k hk => ⟨by omega, fun h => by have := hS k h; rcases hk with hk | hk | hk; omega; omega; exact hb (hk ▸ h)⟩) ?round ?done ?stop
  case stop => exact fun _ _ _ _ _ _ h => h.elim
  case round =>
    intro l pre x D W hI hD hpre hsub hkp hl hlt hnl K hK
    gi_wp2_with fail
    refine hK _ _ (Kp.refl _ W) ?_
    intro W₂ hk2 hsz hrec
    obtain ⟨h1, h2, h3, h4, h5, h6⟩ := hI
    have hne : ∀ k, D k → k ≠ l := fun k hk e => hnl (e ▸ hk)
    have g1 := h1.kp hk2 (hne _ h4)
    have g2 := h2.kp hk2 (hne _ h5)
    have g3 := Lib.hid (h3.kp hk2 (hne _ h6))
    have c1 := g1.cell0
    have c2 := g2.cell0
    have hpl : (pre ++ [x]).length ≤ xs.length := hpre.length_le
    have hxx := hx x (hpre.subset (by simp))
    simp only [List.length_append, List.length_singleton] at hpl
    have HD := Lib.hid hD
    have HX := Lib.hid hxx
    clear hsub hkp hl hrec hK hs hS hx hpre h1 h2 h3 hD hxx
    gi_wp2_with fail
    refine wideR_call ((set1_calls b pre x W₂ g3.out (by omega) HX.out).mono ?_)
    rintro e W3 ⟨rfl, hS3, hk3⟩
    have hnb1 : w.heap.size ≠ b := by omega
    have hnb2 : w.heap.size + 1 ≠ b := by omega
    have d1 := g1.kp hk3 hnb1
    have d2 := g2.kp hk3 hnb2
    have f1 := d1.frozen 0
    have e1 := d1.cell0
    have HS3 := Lib.hid hS3
    clear c1 c2 hS3
    gi_wp2_with fail
    refine ⟨D, fun k hk => .inl (.inl hk), ?_, fun k hk => by have := hk3.size; have := HD.out k hk; simp; omega, (d1.set_ 0 _), d2.kp (S := fun k => k ≠ w.heap.size) ((Kp.refl _ _).setCell (.inr (by simp)) _) (by omega), HS3.out.kp (S := fun k => k ≠ w.heap.size) ((Kp.refl _ _).setCell (.inr (by simp)) _) (Ne.symm hnb1), h4, h5, h6⟩
    exact (hk3.mono fun k _ hk e => hk (.inl (e ▸ h6))).setCell (.inr fun h => h (.inl h4)) _
  case done =>
    intro q D' W' hI hsub hkp hlt hq hnq hblk
    obtain ⟨h1, h2, h3, h4, h5, h6⟩ := hI
    have c1 := h1.cell0
    have H3 := Lib.hid h3
    clear hs hS hx h3
    gi_wp2_with fail
    refine leaves1 hblk fun W3 hk3 _ => ⟨_, results_tmp rfl _ _ _, rfl, H3.out.kp hk3 (by omega), ?_⟩
    exact ((hx0.mono (T := fun k => k ≠ b) fun _ _ _ => trivial).trans' hkp fun k hk hn h => by
      rcases h with h | h | h
      · omega
      · omega
      · exact hn h).trans' hk3 fun k hk _ => by omega

section
variable {I D : Fp} {rb : Nat} {cs : List Cm} {room : Nat} {w : World}

theorem setR_calls (h : RepoX repoT I D w rb cs room) (hG : GoodR cs) (hn : cs.length ≤ 300) (n : Int) : Calls Tryz.prog 99 #[.pointer (some ⟨rb, 0, none⟩), .int .i64 n] w fun e w' => ∃ g, e = .returned (.map (some g)) ∧ w.heap.size ≤ g ∧ BSet w' g (aheadF cs n) ∧ Ext w w' := by
  have hA := ahead_calls h hG hn n
  have HA := Lib.hid hA
  have hmm := fun W => run_makeMap (P := Tryz.prog) 100 W
  have HR := Lib.hid (show ∀ k, (D k ∨ I k) → k < w.heap.size from fun k hk => hk.elim (h.ld k) (h.li k))
  have HL := Lib.hid (aheadF_len cs n)
  have HX := Lib.hid (show ∀ x ∈ aheadF cs n, IsI x from fun x hx => by have := aheadF_le x hx; unfold IsI; omega)
  clear hA h hG
  go_enter Tryz.func99, Tryz.ntmps99
  go_wp2_with fail
  refine HA.out.mono ?_
  rintro e w1 ⟨u, rfl, hs, hx1⟩
  have hsz := hx1.size
  go_wp2_with fail
  have hF := foldSet_calls u (aheadF cs n) _ (w1.alloc (.map #[] 0)) w1.heap.size (hs.later (Kp.of_ext ((Kp.refl _ w1).alloc _))) (fun k hk => by
    simp
    rcases hk with hk | hk
    · have := HR.out k hk; omega
    · omega) (fun hk => by
    rcases hk with hk | hk
    · have := HR.out _ hk; omega
    · omega) (by have := GMap.made (P := Tryz.prog) (k := 3) (e := 4) (ed := edB) (z := false) w1; rw [inS_nil] at this; exact this) (by have := HL.out; omega) HX.out
  obtain ⟨sf, sa, sb, rfl⟩ := hs.isf
  have HF := Lib.hid hF
  clear hF hs hmm
  refine HF.out.mono ?_
  rintro e w2 ⟨rfl, hB, hk⟩
  have HB := Lib.hid hB
  clear hB
  go_wp2_with fail
  go_ret
  exact ⟨_, rfl, hsz, HB.out, (hx1.alloc _).trans' hk fun k hk _ => by omega⟩

theorem common1_calls (b g : Nat) (l : List Int) (x : Int) (w : World) (hc : w.cell? ⟨b, 0, none⟩ = some (.map (some g))) (hM : BSet w g l) (hx : IsI x) :
    Calls Tryz.prog 102 #[.int .i64 x, .pointer (some ⟨b, 0, none⟩)] w fun e w' => e = .returned (.bool (l.contains x)) ∧ Ext w w' := by
  have hlk := hM.look hx
  clear hM
  go_enter Tryz.func102, Tryz.ntmps102
  go_wp2_with fail
  go_ret
  exact ⟨by show Ending.returned (.bool (decide (x ∈ l))) = _; simp, Kp.refl _ _⟩

def IntsPost (w : World) (xs : List Int) (e : Ending) (w' : World) : Prop := ∃ u, e = .returned u ∧ New EI 3 w.heap.size w' u xs ∧ Ext w w'

theorem common_calls (h : RepoX repoT I D w rb cs room) (hG : GoodR cs) (hn : cs.length ≤ 300) (a b : Int) : Calls Tryz.prog 63 #[.pointer (some ⟨rb, 0, none⟩), .int .i64 a, .int .i64 b] w (IntsPost w (commonF cs a b)) := by
  have HS := Lib.hid (setR_calls h hG hn b)
  have HA := Lib.hid fun W (hW : Ext w W) => ahead_calls (h.ext hW) hG hn a
  have HR := Lib.hid (show ∀ k, (D k ∨ I k) → k < w.heap.size from fun k hk => hk.elim (h.ld k) (h.li k))
  have HL := Lib.hid (aheadF_len cs a)
  have HCL := Lib.hid (commonF_len cs a b)
  have hcf : ((aheadF cs a).filter fun n => (aheadF cs b).contains n).reverse = commonF cs a b := rfl
  have HCF := Lib.hid hcf
  have HX := Lib.hid (show ∀ x ∈ aheadF cs a, IsI x from fun x hx => by have := aheadF_le x hx; unfold IsI; omega)
  clear h hG hcf
  go_enter Tryz.func63, Tryz.ntmps63
  go_wp2_with fail
  refine HS.out.mono ?_
  rintro e w1 ⟨g, rfl, hg, hM, hx1⟩
  have hsz1 := hx1.size
  have hgl := hM.lt
  have hB1 := Blk.new w1 100 #[.map (some g)]
  have hx1' : Ext w1 (w1.alloc (.cells #[.map (some g)] 100)) := (Kp.refl _ w1).alloc _
  have hM1 := Lib.hid (hM.ext hx1')
  have hz1 : (w1.alloc (.cells #[.map (some g)] 100)).heap.size = w1.heap.size + 1 := by simp
  clear hM HS
  go_wp2_with fail
  generalize (w1.alloc (.cells #[.map (some g)] 100)) = w2 at hB1 hx1' hM1 hz1 ⊢
  refine (HA.out _ (hx1.trans hx1')).mono ?_
  rintro e w3 ⟨u, rfl, hs, hx3⟩
  obtain ⟨sf, sa, sb, rfl⟩ := hs.isf
  have hsz3 := hx3.size
  have hM3 := Lib.hid (hM1.out.ext hx3)
  have hB3 := hB1.ext hx3
  have hf : FnOn Tryz.prog (fun k => k < w3.heap.size) w3 (.func (.func 102) #[] #[.pointer (some ⟨w1.heap.size, 0, none⟩)]) encI' (fun x => .bool ((aheadF cs b).contains x)) (fun x => x ∈ aheadF cs a) := ⟨⟨_, _, _, rfl⟩, fun W hW x hx => callV_fn (enters_of Tryz.func102 (by kernel_rfl) rfl) (common1_calls w1.heap.size g _ x W (hB3.kp hW (by omega)).cell0 (hM3.out.kp hW (by have := hx1'.size; omega)) (HX.out x hx))⟩
  have hFi := Lib.hid (filterI_calls (.func sf sa sb) _ (aheadF cs a) (fun x => (aheadF cs b).contains x) (fun k => k < w3.heap.size) w3 (hs.wide fun k hk => by
    rcases hk with hk | hk
    · have := HR.out k hk; have := hx1'.size; omega
    · omega) hf fun k hk => hk)
  clear hs hf HA hB1 hB3 hM1 hM3
  go_wp2_with fail
  refine hFi.out.mono ?_
  rintro e w4 ⟨v, rfl, hs4, hx4⟩
  obtain ⟨tf, ta, tb, rfl⟩ := hs4.isf
  have hsz4 := hx4.size
  have hLi := Lib.hid (listI_calls (.func tf ta tb) _ _ w4 hs4 (fun k hk => by omega) (by have := List.length_filter_le (fun x => (aheadF cs b).contains x) (aheadF cs a); have := HL.out; omega))
  clear hs4 hFi
  go_wp2_with fail
  refine hLi.out.mono ?_
  rintro e w5 ⟨lv, rfl, hN, hx5⟩
  obtain ⟨A5, n5, c5, rfl⟩ := hN.1.slice
  have hRv := Lib.hid (revI_calls _ _ w5 hN.1 (by have := List.length_filter_le (fun x => (aheadF cs b).contains x) (aheadF cs a); have := HL.out; omega))
  have HN := Lib.hid hN
  clear hLi hN
  go_wp2_with fail
  refine hRv.out.mono ?_
  rintro e w6 ⟨⟨r, rfl⟩, hO6, hk6⟩
  have HO6 := Lib.hid hO6
  clear hRv hO6
  go_wp2_with fail
  go_ret
  have hx6 : Ext w w5 := (hx1.trans hx1').trans (hx3.trans (hx4.trans hx5))
  have hsz5 := hx5.size
  have := hx1'.size
  refine ⟨_, rfl, ⟨by rw [← HCF.out]; exact HO6.out, fun k hk => by have := HN.out.2 k hk; omega⟩, hx6.trans' hk6 fun k hk _ e => by have := HN.out.2 k e; omega⟩
end

end Go.Proofs.YtgjbfkaepalkiaaGreatDoor
