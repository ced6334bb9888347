/-
  tree.Same. repo: own, same, May. What the statements share of commits: GreatCommit, GreatCommits.
-/
import Derived.Test.YtgjbfkaepalkiaaGreatDoorLaw0
import Derived.Test.YtgjbfkaepalkiaaGreatDoorInts
import Derived.Deep.RegionWith
import Derived.Deep.RegionLaw
namespace Go.Proofs.YtgjbfkaepalkiaaGreatDoor
open Go.RowKit
set_option linter.unusedVariables false
set_option linter.unusedSimpArgs false
attribute [local go_sem] Oper.semAt_some

set_option maxHeartbeats 400000 in
/-- slices.Equal at files. -/
theorem equal_calls (v u : Value) (xs ys : List File) (S T : Fp) (w : World) (hR : Rd EF S w v xs) (hR' : Rd EF T w u ys) :
    Calls Tryz.prog 182 #[v, u] w fun e w' => e = .returned (.bool (sameB xs ys)) ∧ Ext w w' := by
  obtain ⟨A, c, rfl, hO⟩ := hR.open_
  obtain ⟨A', c', rfl, hO'⟩ := hR'.open_
  have hlen := hO.len
  have hlen' := hO'.len
  clear hR hR'
  by_cases hn : xs.length = ys.length
  · have HO := Lib.hid hO
    have HO' := Lib.hid hO'
    have HN := Lib.hid hn
    obtain ⟨n, hxn⟩ : ∃ n, n = xs.length := ⟨_, rfl⟩
    have hyn : n = ys.length := hxn.trans hn
    have HX := Lib.hid hxn
    have HY := Lib.hid hyn
    rw [← hxn] at hlen ⊢
    rw [← hyn] at hlen' ⊢
    clear hO hO' hn hxn hyn
    go_enter Tryz.func182, Tryz.ntmps182
    go_wp2_with fail
    go_loopw [13] (fun i wr => ∃ k : Nat, k ≤ n ∧ i = .int .i64 k ∧ sameB xs ys = sameB (xs.drop k) (ys.drop k) ∧ Ext w wr) (fun i _ => n - (intOf i).toNat)
    case atStart => exact ⟨0, Nat.zero_le _, rfl, rfl, Kp.refl _ _⟩
    case round =>
      obtain ⟨k, hk, rfl, hs, hx⟩ := hrel
      rename_i wr
      by_cases hlt : k < n
      · have hd3 : decide ((k : Int) < (n : Int)) = true := decide_eq_true (by omega)
        have hkx : k < xs.length := by have := HX.out; omega
        have hky : k < ys.length := by have := HY.out; omega
        have hst := sameB_take HN.out hkx hky hs
        obtain ⟨f, hf⟩ : ∃ f, xs[k] = f := ⟨_, rfl⟩
        obtain ⟨g, hg⟩ : ∃ g, ys[k] = g := ⟨_, rfl⟩
        obtain ⟨b, off, rfl, _, hb, c0, c1⟩ := (HO.out.rd.kp (hx.mono fun _ _ _ => trivial)).file hkx
        obtain ⟨b', off', rfl, _, hb', d0, d1⟩ := (HO'.out.rd.kp (hx.mono fun _ _ _ => trivial)).file hky
        have hlt' : (k : Int) < (n : Int) := by omega
        have h0 : (0 : Int) ≤ (k : Int) := by omega
        have hw : IntKind.i64.wrap ((k : Int) + 1) = (k : Int) + 1 := IntWalk.i64_in _ (by omega)
        rw [hf] at c0 c1 hst
        rw [hg] at d0 d1 hst
        have heq := run_neq_file f g
        have hgd := fun (x y : Operand) (W : World) => run_eqGuard_agg (P := Tryz.prog) W .neq 39 x y #[.string f.path, .string f.data] #[.string g.path, .string g.data] (by kernel_rfl)
        have HS := Lib.hid hst
        have HK := Lib.hid hs
        clear hst hs hf hg hkx hky
        cases hfg : fileB f g with
        | true =>
          rw [hfg] at heq
          go_wp2_with fail
          go_quiet (fail)
          go_wp2_with fail
          go_roundw
          case rel => exact ⟨k + 1, by omega, by go_num, by rw [HS.out, hfg]; rfl, hx.drewN _⟩
          case measure => simp [intOf]; omega
        | false =>
          rw [hfg] at heq
          go_wp2_with fail
          go_quiet (fail)
          go_wp2_with fail
          go_ret
          exact ⟨by rw [HS.out, hfg]; rfl, hx.drewN _⟩
      · have hd3 : decide ((k : Int) < (n : Int)) = false := decide_eq_false (by omega)
        have hres : sameB xs ys = true := by
          rw [hs, List.drop_of_length_le (by have := HX.out; omega), List.drop_of_length_le (by have := HY.out; omega)]; rfl
        go_wp2_with fail
        go_ret
        exact ⟨by rw [hres]; rfl, hx⟩
  · have hd1 : ((xs.length : Int) == (ys.length : Int)) = false := by
      rw [beq_eq_false_iff_ne]; omega
    have hd2 : (xs.length == ys.length) = false := by rw [beq_eq_false_iff_ne]; exact hn
    have hd3 : ((xs.length : Int) != (ys.length : Int)) = true := by rw [bne, hd1]; rfl
    have hd4 : (xs.length != ys.length) = true := by rw [bne, hd2]; rfl
    have hres := sameB_len hn
    go_enter Tryz.func182, Tryz.ntmps182
    go_wp2_with fail
    go_ret
    exact ⟨by rw [hres]; rfl, Kp.refl _ _⟩


/-- tree.Same. -/
theorem same_calls (v u : Value) (xs ys : List File) (S T : Fp) (w : World) (hR : Rd EF S w v xs) (hR' : Rd EF T w u ys) :
    Calls Tryz.prog 155 #[v, u] w fun e w' => e = .returned (.bool (sameB xs ys)) ∧ Ext w w' := by
  go_enter Tryz.func155, Tryz.ntmps155
  go_wp2_with fail
  refine (equal_calls v u xs ys S T w hR hR').mono ?_
  rintro e w1 ⟨rfl, hx⟩
  go_wp2_with fail
  go_ret
  exact ⟨rfl, hx⟩

end Go.Proofs.YtgjbfkaepalkiaaGreatDoor

namespace Go.Proofs.YtgjbfkaepalkiaaGreatDoor
open Go.RowKit
set_option linter.unusedVariables false
set_option linter.unusedSimpArgs false
attribute [local go_sem] Oper.semAt_some

theorem RdC.open_ {S : Fp} {w : World} {s : KS} {c : Cm} (h : RdC S w s c) : ∃ A a B b, s = ⟨⟨A, c.parents.length, a⟩, ⟨B, c.tree.length, b⟩, c.note⟩ ∧ Opn EI S w A a c.parents ∧ Opn EF S w B b c.tree := by
  obtain ⟨⟨pa, pn, pc⟩, ⟨ta, tn, tc⟩, nt⟩ := s
  obtain ⟨A, a, h1, hA⟩ := h.p.open_
  obtain ⟨B, b, h2, hB⟩ := h.t.open_
  have h3 := h.note
  dsimp only [SliceV.val] at h1 h2 h3
  injection h1 with e1 e2 e3
  injection h2 with f1 f2 f3
  subst e1 e2 e3 f1 f2 f3 h3
  exact ⟨_, _, _, _, rfl, hA, hB⟩

def OwnPost (w : World) (c : Cm) (e : Ending) (w' : World) : Prop := ∃ s, e = .returned s.val ∧ NewC w.heap.size w' s c ∧ Ext w w'
theorem New.sv {α : Type} {E : El α} {t : TypeId} {n : Nat} {w : World} {v : Value} {xs : List α} (h : New E t n w v xs) : ∃ s : SliceV, v = s.val := by
  obtain ⟨A, m, c, hv⟩ := h.1.slice
  exact ⟨⟨A, m, c⟩, hv⟩

/-- In own: the commit's box, and the result's. -/
structure OwnQ (w W : World) (a b c d e f : Value) : Prop where
  x : Ext w W
  b1 : Blk W w.heap.size 42 #[a, b, c]
  b2 : Blk W (w.heap.size + 1) 42 #[d, e, f]
theorem OwnQ.ext {w W W' : World} {a b c d e f : Value} (h : OwnQ w W a b c d e f) (hx : Ext W W') : OwnQ w W' a b c d e f := ⟨h.x.trans hx, h.b1.ext hx, h.b2.ext hx⟩
theorem OwnQ.drew {w W : World} {a b c d e f : Value} (h : OwnQ w W a b c d e f) : OwnQ w W.drew a b c d e f := ⟨h.x.drew, h.b1, h.b2⟩
theorem OwnQ.new {w : World} {a b c d e f : Value} : OwnQ w ((w.alloc (.cells #[a, b, c] 42)).alloc (.cells #[d, e, f] 42)) a b c d e f := by
  refine ⟨((Kp.refl _ w).alloc _).alloc _, (Blk.new w 42 #[a, b, c]).ext ((Kp.refl _ _).alloc _), ?_⟩
  have h := Blk.new (w.alloc (.cells #[a, b, c] 42)) 42 #[d, e, f]
  rwa [World.size_alloc] at h

set_option maxHeartbeats 2000000 in
theorem own_calls (s : KS) (c : Cm) (S : Fp) (w : World) (hR : RdC S w s c) (hp : c.parents.length ≤ 1000000) (ht : c.tree.length ≤ 1000000) :
    Calls Tryz.prog 70 #[s.val] w (OwnPost w c) := by
  have hcI := fun W (hW : Ext w W) => cloneI_calls s.p.val c.parents S W (hR.ext hW).p hp
  have hcF := fun W (hW : Ext w W) => clone_calls s.t.val c.tree S W (hR.ext hW).t ht
  obtain ⟨A, a, B, b, rfl, hA, hB⟩ := hR.open_
  dsimp only [SliceV.val] at hcI hcF
  obtain ⟨n, hn⟩ : ∃ n, c.parents.length = n := ⟨_, rfl⟩
  obtain ⟨m, hm⟩ : ∃ m, c.tree.length = m := ⟨_, rfl⟩
  obtain ⟨nt, hnt⟩ : ∃ m, c.note = m := ⟨_, rfl⟩
  rw [hn] at hcI
  rw [hm] at hcF
  rw [hn, hm, hnt]
  have HI := Lib.hid fun W (hQ : OwnQ w W (.slice A n a) (.slice B m b) (.string nt) (.slice none 0 0) (.slice none 0 0) (.string ⟨#[]⟩)) => (hcI W hQ.x).mono (R' := fun e w' => ∃ x y z, e = .returned (.slice x y z) ∧ New EI 3 (w.heap.size + 2) w' (.slice x y z) c.parents ∧ Ext W w' ∧ OwnQ w w' (.slice A n a) (.slice B m b) (.string nt) (.slice none 0 0) (.slice none 0 0) (.string ⟨#[]⟩)) fun e w' ⟨u, h1, h2, h3⟩ => by
    obtain ⟨x, y, z, rfl⟩ := h2.1.slice
    exact ⟨x, y, z, h1, h2.less (by have := hQ.b2.lt; omega), h3, hQ.ext h3⟩
  have HF := Lib.hid fun W (hQ : OwnQ w W (.slice A n a) (.slice B m b) (.string nt) (.slice none 0 0) (.slice none 0 0) (.string ⟨#[]⟩)) => (hcF W hQ.x).mono (R' := fun e w' => ∃ x y z, e = .returned (.slice x y z) ∧ New EF 39 (w.heap.size + 2) w' (.slice x y z) c.tree ∧ Ext W w' ∧ OwnQ w w' (.slice A n a) (.slice B m b) (.string nt) (.slice none 0 0) (.slice none 0 0) (.string ⟨#[]⟩)) fun e w' ⟨u, h1, h2, h3⟩ => by
    obtain ⟨x, y, z, rfl⟩ := h2.1.slice
    exact ⟨x, y, z, h1, h2.less (by have := hQ.b2.lt; omega), h3, hQ.ext h3⟩
  have HNT := Lib.hid hnt
  clear hcI hcF hA hB hR hn hm hp ht hnt
  show Calls _ _ #[.agg #[.slice A n a, .slice B m b, .string nt]] w _
  go_enter Tryz.func70, Tryz.ntmps70
  go_wp2_with fail
  have hQ0 := OwnQ.new (w := w) (a := .slice A n a) (b := .slice B m b) (c := .string nt) (d := .slice none 0 0) (e := .slice none 0 0) (f := .string ⟨#[]⟩)
  go_region_with (first
    | (go_at_call 116; refine Calls.mono (HI.out _ (by first | exact hQ0 | exact hQ0.drew | assumption | exact OwnQ.drew (by assumption))) ?_; rintro e w1 ⟨x1, y1, z1, rfl, hN1, hx1, hq1⟩; have f10 := hq1.b1.cell 0; have f11 := hq1.b1.cell 1; have f12 := hq1.b1.cell 2; have f13 := hq1.b1.frozen 0; have f14 := hq1.b1.frozen 1)
    | (go_at_call 92; refine Calls.mono (HF.out _ (by first | assumption | exact OwnQ.drew (by assumption))) ?_; rintro e w2 ⟨x2, y2, z2, rfl, hN2, hx2, hq2⟩; have f20 : w2.cell? ⟨w.heap.size, 0, none⟩ = some (.slice A n a) := hq2.b1.cell 0; have f21 : w2.cell? ⟨w.heap.size, 1, none⟩ = some (.slice B m b) := hq2.b1.cell 1; have f22 : w2.cell? ⟨w.heap.size, 2, none⟩ = some (.string nt) := hq2.b1.cell 2; have f23 := hq2.b1.frozen 0; have f24 := hq2.b1.frozen 1; have g20 := hq2.b2.cell 0; have g21 := hq2.b2.cell 1; have g22 := hq2.b2.cell 2; have g23 := hq2.b2.frozen 0; have g24 := hq2.b2.frozen 1; have g25 := hq2.b2.frozen 2))
  all_goals
    have hlt1 := hq2.b1.lt
    have hN1' := hN1.ext hx2
    have HX := Lib.hid hq2.x
    have HN1 := Lib.hid hN1'
    have HN2 := Lib.hid hN2
    have hBf : ∀ W, Kp (fun k => k = w.heap.size + 1) w2 W → Blk (((W.setCell ⟨w.heap.size + 1, 0, none⟩ (.slice x1 y1 z1)).setCell ⟨w.heap.size + 1, 1, none⟩ (.slice x2 y2 z2)).setCell ⟨w.heap.size + 1, 2, none⟩ (.string nt)) (w.heap.size + 1) 42 #[.slice x1 y1 z1, .slice x2 y2 z2, .string nt] := fun W hW => (((hq2.b2.kp hW rfl).set_ 0 _).set_ 1 _).set_ 2 _
    have HBF := Lib.hid hBf
    clear HI HF hQ0 hN1 hx1 hq1 f10 f11 f12 f13 f14 hN2 hx2 hq2 hN1' hBf
    go_wp2_with fail
    refine bodyPost_ret (results_cell_row rfl _ _ (w.heap.size + 1) 42 #[.slice x1 y1 z1, .slice x2 y2 z2, .string nt] (0, 0) _ (by rfl) (HBF.out _ (((Kp.refl _ _).setCell (.inr (by simp)) _).setCell (.inr (by simp)) _)) Tryz.underlying42 (by rfl) (by kernel_rfl)) rfl ?_
    have hk : ∀ (S : Fp) (W : World) (v0 v1 : Value), Kp S w2 W → (∀ k, S k → k ≠ w.heap.size ∧ k ≠ w.heap.size + 1) → Kp S w2 ((W.setCell ⟨w.heap.size, 0, none⟩ v0).setCell ⟨w.heap.size, 1, none⟩ v1) := fun S W v0 v1 h hS => (h.setCell (.inr fun h => (hS _ h).1 rfl) _).setCell (.inr fun h => (hS _ h).1 rfl) _
    have hk2 : ∀ (S : Fp) (W : World) (v0 v1 v2 : Value), Kp S w2 W → (∀ k, S k → k ≠ w.heap.size ∧ k ≠ w.heap.size + 1) → Kp S w2 (((W.setCell ⟨w.heap.size + 1, 0, none⟩ v0).setCell ⟨w.heap.size + 1, 1, none⟩ v1).setCell ⟨w.heap.size + 1, 2, none⟩ v2) := fun S W v0 v1 v2 h hS => ((h.setCell (.inr fun h => (hS _ h).2 rfl) _).setCell (.inr fun h => (hS _ h).2 rfl) _).setCell (.inr fun h => (hS _ h).2 rfl) _
    refine ⟨⟨⟨x1, y1, z1⟩, ⟨x2, y2, z2⟩, nt⟩, rfl, ⟨HN1.out.less (by omega) |>.kp (S := fun k => w.heap.size + 2 ≤ k) ?_ (HN1.out.2), HN2.out.less (by omega) |>.kp (S := fun k => w.heap.size + 2 ≤ k) ?_ (HN2.out.2), HNT.out.symm⟩, HX.out.trans' (T := fun k => k < w.heap.size) ?_ fun k hk _ => hk⟩
    all_goals exact hk2 _ _ _ _ _ (hk _ _ _ _ (Kp.refl _ _) fun k h => by omega) fun k h => by omega

def SamePost (w : World) (b : Bool) (e : Ending) (w' : World) : Prop := e = .returned (.bool b) ∧ Ext w w'
set_option maxHeartbeats 1000000 in
theorem sameC_calls (s s' : KS) (c d : Cm) (S T : Fp) (w : World) (hR : RdC S w s c) (hR' : RdC T w s' d) :
    Calls Tryz.prog 125 #[s.val, s'.val] w (SamePost w (sameC c d)) := by
  have hI := fun W (hW : Ext w W) => equalI_calls s.p.val s'.p.val c.parents d.parents S T W (hR.ext hW).p (hR'.ext hW).p
  have hF := fun W (hW : Ext w W) => same_calls s.t.val s'.t.val c.tree d.tree S T W (hR.ext hW).t (hR'.ext hW).t
  have hv : sameC c d = (decide (c.parents = d.parents) && (sameB c.tree d.tree && (c.note.toList == d.note.toList))) := rfl
  obtain ⟨A, a, B, b, rfl, hA, hB⟩ := hR.open_
  obtain ⟨A', a', B', b', rfl, hA', hB'⟩ := hR'.open_
  dsimp only [SliceV.val] at hI hF
  show Calls _ _ #[.agg #[.slice A c.parents.length a, .slice B c.tree.length b, .string c.note], .agg #[.slice A' d.parents.length a', .slice B' d.tree.length b', .string d.note]] w _
  obtain ⟨n, hn⟩ : ∃ n, c.parents.length = n := ⟨_, rfl⟩
  obtain ⟨m, hm⟩ : ∃ m, c.tree.length = m := ⟨_, rfl⟩
  obtain ⟨nt, hnt⟩ : ∃ m, c.note = m := ⟨_, rfl⟩
  obtain ⟨n', hn'⟩ : ∃ n, d.parents.length = n := ⟨_, rfl⟩
  obtain ⟨m', hm'⟩ : ∃ m, d.tree.length = m := ⟨_, rfl⟩
  obtain ⟨nt', hnt'⟩ : ∃ m, d.note = m := ⟨_, rfl⟩
  obtain ⟨q, hq⟩ : ∃ q, sameC c d = q := ⟨_, rfl⟩
  rw [hq] at hv
  rw [hn, hn'] at hI
  rw [hm, hm'] at hF
  rw [hnt, hnt'] at hv
  rw [hn, hm, hnt, hn', hm', hnt', hq]
  generalize decide (c.parents = d.parents) = b1 at hI hv
  generalize sameB c.tree d.tree = b2 at hF hv
  have HI := Lib.hid hI
  have HF := Lib.hid hF
  have HV := Lib.hid hv
  clear hI hF hA hB hR hA' hB' hR' hn hm hnt hn' hm' hnt' hq hv
  go_enter Tryz.func125, Tryz.ntmps125
  go_wp2_with fail
  refine (HI.out _ (by first | exact ((Kp.refl _ w).alloc _).alloc _)).mono ?_
  rintro e w1 ⟨rfl, hx1⟩
  clear HI
  have hx : Ext w w1 := (((Kp.refl _ w).alloc _).alloc _).trans hx1
  have hb1 := ((Blk.new w 42 #[.slice A n a, .slice B m b, .string nt]).ext ((Kp.refl _ _).alloc (.cells #[.slice A' n' a', .slice B' m' b', .string nt'] 42))).ext hx1
  have hb2 := (Blk.new (w.alloc (.cells #[.slice A n a, .slice B m b, .string nt] 42)) 42 #[.slice A' n' a', .slice B' m' b', .string nt']).ext hx1
  rw [World.size_alloc] at hb2
  have c1 : w1.cell? ⟨w.heap.size, 1, none⟩ = some (.slice B m b) := hb1.cell 1
  have c2 : w1.cell? ⟨w.heap.size, 2, none⟩ = some (.string nt) := hb1.cell 2
  have d1 : w1.cell? ⟨w.heap.size + 1, 1, none⟩ = some (.slice B' m' b') := hb2.cell 1
  have d2 : w1.cell? ⟨w.heap.size + 1, 2, none⟩ = some (.string nt') := hb2.cell 2
  have hb1l := hb1.lt
  have hb2l := hb2.lt
  clear hx1
  cases b1 with
  | false =>
    go_wp2_with fail
    go_ret
    exact ⟨by rw [HV.out]; rfl, hx⟩
  | true =>
    go_wp2_with fail
    refine (HF.out _ hx).mono ?_
    rintro e w2 ⟨rfl, hx2⟩
    have c22 : w2.cell? ⟨w.heap.size, 2, none⟩ = some (.string nt) := (hx2.cell (p := ⟨w.heap.size, 2, none⟩) hb1l trivial).trans c2
    have d22 : w2.cell? ⟨w.heap.size + 1, 2, none⟩ = some (.string nt') := (hx2.cell (p := ⟨w.heap.size + 1, 2, none⟩) hb2l trivial).trans d2
    have hxx := hx.trans hx2
    clear HF c1 c2 d1 d2 hb1 hb2 hx hx2
    cases b2 with
    | false =>
      go_wp2_with fail
      go_ret
      exact ⟨by rw [HV.out]; rfl, hxx⟩
    | true =>
      go_wp2_with fail
      go_ret
      exact ⟨by rw [HV.out]; rfl, hxx⟩

set_option maxHeartbeats 2000000 in
theorem mayC_calls (s : KS) (c : Cm) (S : Fp) (w : World) (hR : RdC S w s c) (ht : c.tree.length ≤ 1000000) (hy : ∀ y ∈ c.tree, y.path.size ≤ 1000000) :
    Calls Tryz.prog 41 #[s.val] w (SamePost w (mayC c)) := by
  have hM := fun W (hW : Ext w W) => may_calls s.t.val c.tree S W (hR.ext hW).t ht hy
  have hv : mayC c = (mayB c.tree && (decide (c.parents.length ≤ 2) && (!(decide (c.parents.length = 2) && decide (c.parents[0]? = c.parents[1]?)) && decide (c.note.size ≤ 60)))) := rfl
  have hcell : c.parents.length = 2 → ∃ x y bb off, c.parents[0]? = some x ∧ c.parents[1]? = some y ∧ s.p.a = some ⟨bb, off, none⟩ ∧ bb < w.heap.size ∧ w.cell? ⟨bb, off, none⟩ = some (.int .i64 x) ∧ w.cell? ⟨bb, off + 1, none⟩ = some (.int .i64 y) := by
    intro h2
    obtain ⟨A, a, B, b, hs, hA, hB⟩ := hR.open_
    obtain ⟨bb, off, he, _, hl, c0⟩ := hA.rd.num (i := 0) (by omega)
    obtain ⟨b2, o2, he2, _, _, c1⟩ := hA.rd.num (i := 1) (by omega)
    rw [he] at he2
    injection he2 with he2
    injection he2 with e1 e2
    subst e1 e2
    exact ⟨_, _, bb, off, List.getElem?_eq_getElem (by omega), List.getElem?_eq_getElem (by omega), by rw [hs]; exact he, hl, c0, c1⟩
  obtain ⟨A, a, B, b, rfl, hA, hB⟩ := hR.open_
  have hal := hA.len
  have hale := hA.le
  have hamx := hA.max
  dsimp only [SliceV.val] at hM
  dsimp only at hcell
  show Calls _ _ #[.agg #[.slice A c.parents.length a, .slice B c.tree.length b, .string c.note]] w _
  obtain ⟨n, hn⟩ : ∃ n, c.parents.length = n := ⟨_, rfl⟩
  obtain ⟨m, hm⟩ : ∃ m, c.tree.length = m := ⟨_, rfl⟩
  obtain ⟨nt, hnt⟩ : ∃ m, c.note = m := ⟨_, rfl⟩
  obtain ⟨q, hq⟩ : ∃ q, mayC c = q := ⟨_, rfl⟩
  rw [hq] at hv
  rw [hn, hnt] at hv
  rw [hn] at hcell hal hale
  rw [hm] at hM
  rw [hn, hm, hnt, hq]
  generalize mayB c.tree = b1 at hM hv
  have HM := Lib.hid hM
  have HV := Lib.hid hv
  have HC := Lib.hid hcell
  clear hM hA hB hR hn hm hnt hq hv hcell ht hy
  go_enter Tryz.func41, Tryz.ntmps41
  go_wp2_with fail
  refine wp_region_seq_quiet 4 (by kernel_rfl) (by kernel_rfl) (by decide) fun K HK => ?_
  simp only [List.take_succ_cons, List.take_zero, List.drop_succ_cons, List.drop_zero] at HK ⊢
  change wpList _ _ _ _ _ (World.drew _)
  go_wp2_with fail
  refine (HM.out _ ((Kp.refl _ w).alloc _).drew).mono ?_
  rintro e w1 ⟨rfl, hx1⟩
  clear HM
  have hx : Ext w w1 := ((Kp.refl _ w).alloc _).drew.trans hx1
  have hb1 : Blk w1 w.heap.size 42 #[.slice A n a, .slice B m b, .string nt] := (((Blk.new w 42 #[.slice A n a, .slice B m b, .string nt])).ext ((Kp.refl _ _).drew)).ext hx1
  have b0 : w1.cell? ⟨w.heap.size, 0, none⟩ = some (.slice A n a) := hb1.cell 0
  have b1' : w1.cell? ⟨w.heap.size, 1, none⟩ = some (.slice B m b) := hb1.cell 1
  have b2 : w1.cell? ⟨w.heap.size, 2, none⟩ = some (.string nt) := hb1.cell 2
  clear hx1 hb1
  cases b1 with
  | false =>
    go_wp2_with fail
    refine HK.out _ _ ?_
    clear HK
    repeat (go_big_quiet_step (fail))
    refine wpQuiet_nil ?_
    rintro _ ⟨nq, rfl⟩
    go_wp2_with fail
    go_ret
    exact ⟨by rw [HV.out]; rfl, hx.drewN _⟩
  | true =>
    by_cases h1 : n ≤ 2
    · have hd1 : decide ((n : Int) ≤ 2) = true := decide_eq_true (by omega)
      by_cases h2 : n = 2
      · have hd2 : ((n : Int) == 2) = true := by rw [beq_iff_eq]; omega
        obtain ⟨x, y, bb, off, hx0, hy0, hAe, hbl, c0, c1⟩ := HC.out h2
        subst hAe
        have d0 : w1.cell? ⟨bb, off, none⟩ = some (.int .i64 x) := (hx.cell (p := ⟨bb, off, none⟩) hbl trivial).trans c0
        have d1 : w1.cell? ⟨bb, off + 1, none⟩ = some (.int .i64 y) := (hx.cell (p := ⟨bb, off + 1, none⟩) hbl trivial).trans c1
        have hn0 : (0 : Int) < (n : Int) := by omega
        have hn1 : (1 : Int) < (n : Int) := by omega
        have HXY := Lib.hid (And.intro hx0 hy0)
        clear hx0 hy0 c0 c1 HC
        by_cases h3 : x = y
        · have hd3 : (x == y) = true := by rw [beq_iff_eq]; exact h3
          have hd3' : (x != y) = false := by rw [h3]; simp
          go_wp2_with fail
          refine HK.out _ _ ?_
          clear HK
          repeat (go_big_quiet_step (fail))
          refine wpQuiet_nil ?_
          rintro _ ⟨nq, rfl⟩
          go_wp2_with fail
          go_ret
          exact ⟨by rw [HV.out]; rw [HXY.out.1, HXY.out.2, h3, decide_eq_true h2]; simp, hx.drewN _⟩
        · have hd3 : (x == y) = false := by rw [beq_eq_false_iff_ne]; exact h3
          have hd3' : (x != y) = true := by simpa using h3
          have hne : decide (some x = some y) = false := decide_eq_false (fun h => h3 (by injection h))
          by_cases h4 : nt.size ≤ 60
          · have hd4 : decide ((nt.size : Int) ≤ 60) = true := decide_eq_true (by omega)
            go_wp2_with fail
            refine HK.out _ _ ?_
            clear HK
            repeat (go_big_quiet_step (fail))
            refine wpQuiet_nil ?_
            rintro _ ⟨nq, rfl⟩
            go_wp2_with fail
            go_ret
            exact ⟨by rw [HV.out]; rw [HXY.out.1, HXY.out.2, hne, decide_eq_true h1, decide_eq_true h4]; simp, hx.drewN _⟩
          · have hd4 : decide ((nt.size : Int) ≤ 60) = false := decide_eq_false (by omega)
            go_wp2_with fail
            refine HK.out _ _ ?_
            clear HK
            repeat (go_big_quiet_step (fail))
            refine wpQuiet_nil ?_
            rintro _ ⟨nq, rfl⟩
            go_wp2_with fail
            go_ret
            exact ⟨by rw [HV.out]; rw [decide_eq_false h4]; simp, hx.drewN _⟩
      · have hd2 : ((n : Int) == 2) = false := by rw [beq_eq_false_iff_ne]; omega
        clear HC
        by_cases h4 : nt.size ≤ 60
        · have hd4 : decide ((nt.size : Int) ≤ 60) = true := decide_eq_true (by omega)
          go_wp2_with fail
          refine HK.out _ _ ?_
          clear HK
          repeat (go_big_quiet_step (fail))
          refine wpQuiet_nil ?_
          rintro _ ⟨nq, rfl⟩
          go_wp2_with fail
          go_ret
          exact ⟨by rw [HV.out]; rw [decide_eq_true h1, decide_eq_false h2, decide_eq_true h4]; simp, hx.drewN _⟩
        · have hd4 : decide ((nt.size : Int) ≤ 60) = false := decide_eq_false (by omega)
          go_wp2_with fail
          refine HK.out _ _ ?_
          clear HK
          repeat (go_big_quiet_step (fail))
          refine wpQuiet_nil ?_
          rintro _ ⟨nq, rfl⟩
          go_wp2_with fail
          go_ret
          exact ⟨by rw [HV.out]; rw [decide_eq_false h4]; simp, hx.drewN _⟩
    · have hd1 : decide ((n : Int) ≤ 2) = false := decide_eq_false (by omega)
      clear HC
      go_wp2_with fail
      refine HK.out _ _ ?_
      clear HK
      repeat (go_big_quiet_step (fail))
      refine wpQuiet_nil ?_
      rintro _ ⟨nq, rfl⟩
      go_wp2_with fail
      go_ret
      exact ⟨by rw [HV.out]; rw [decide_eq_false h1]; simp, hx.drewN _⟩

end Go.Proofs.YtgjbfkaepalkiaaGreatDoor

namespace Go.Proofs.YtgjbfkaepalkiaaGreatDoor
open Go.RowKit
set_option linter.unusedVariables false
set_option linter.unusedSimpArgs false
attribute [local go_sem] Oper.semAt_some

def greatC (c : Cm) : Bool := decide (5 < c.parents.length) || (greatB c.tree 16 || decide (100 < c.note.size))
def greatR (cs : List Cm) (m : Nat) : Bool := decide (m < cs.length) || cs.any greatC
theorem greatC_false {c : Cm} (h : greatC c = false) : c.parents.length ≤ 5 ∧ c.tree.length ≤ 16 ∧ ∀ y ∈ c.tree, y.path.size ≤ 100 ∧ y.data.size ≤ 500 := by
  unfold greatC at h
  rw [Bool.or_eq_false_iff, Bool.or_eq_false_iff] at h
  have h1 := of_decide_eq_false h.1
  exact ⟨by omega, greatB_false h.2.1⟩
theorem greatR_false {cs : List Cm} {m : Nat} (h : greatR cs m = false) : cs.length ≤ m ∧ ∀ c ∈ cs, c.parents.length ≤ 5 ∧ c.tree.length ≤ 16 ∧ ∀ y ∈ c.tree, y.path.size ≤ 100 ∧ y.data.size ≤ 500 := by
  unfold greatR at h
  rw [Bool.or_eq_false_iff] at h
  refine ⟨by have := of_decide_eq_false h.1; omega, fun c hc => greatC_false ?_⟩
  have := List.any_eq_false.1 h.2 c hc
  simpa using this

set_option maxHeartbeats 1000000 in
theorem greatC_calls (s : KS) (c : Cm) (S : Fp) (w : World) (hR : RdC S w s c) :
    Calls Tryz.prog 55 #[s.val] w (SamePost w (greatC c)) := by
  have hM := fun W (hW : Ext w W) => greatFiles_calls s.t.val c.tree 16 S W (hR.ext hW).t (by omega)
  have hv : greatC c = (decide (5 < c.parents.length) || (greatB c.tree 16 || decide (100 < c.note.size))) := rfl
  obtain ⟨A, a, B, b, rfl, hA, hB⟩ := hR.open_
  dsimp only [SliceV.val] at hM
  show Calls _ _ #[.agg #[.slice A c.parents.length a, .slice B c.tree.length b, .string c.note]] w _
  obtain ⟨n, hn⟩ : ∃ n, c.parents.length = n := ⟨_, rfl⟩
  obtain ⟨m, hm⟩ : ∃ m, c.tree.length = m := ⟨_, rfl⟩
  obtain ⟨nt, hnt⟩ : ∃ m, c.note = m := ⟨_, rfl⟩
  obtain ⟨q, hq⟩ : ∃ q, greatC c = q := ⟨_, rfl⟩
  rw [hq, hn, hnt] at hv
  rw [hm] at hM
  rw [hn, hm, hnt, hq]
  generalize greatB c.tree 16 = b1 at hM hv
  have HM := Lib.hid hM
  have HV := Lib.hid hv
  clear hM hA hB hR hn hm hnt hq hv
  by_cases h1 : 5 < n
  · have hd1 : decide ((5 : Int) < (n : Int)) = true := decide_eq_true (by omega)
    have hr : q = true := by rw [HV.out, decide_eq_true h1]; rfl
    clear HM HV
    go_enter Tryz.func55, Tryz.ntmps55
    go_wp2_with fail
    go_ret
    exact ⟨by rw [hr]; rfl, (Kp.refl _ w).alloc _⟩
  · have hd1 : decide ((5 : Int) < (n : Int)) = false := decide_eq_false (by omega)
    have HV' := Lib.hid (show q = (b1 || decide (100 < nt.size)) by rw [HV.out, decide_eq_false h1]; rfl)
    clear HV
    have hb1 := Blk.new w 42 #[.slice A n a, .slice B m b, .string nt]
    have hx0 : Ext w (w.alloc (.cells #[.slice A n a, .slice B m b, .string nt] 42)) := (Kp.refl _ w).alloc _
    have hl0 := hb1.lt
    go_enter Tryz.func55, Tryz.ntmps55
    go_wp2_with fail
    refine (HM.out _ hx0).mono ?_
    rintro e w1 ⟨rfl, rfl⟩
    clear HM
    cases b1 with
    | true =>
      go_wp2_with fail
      go_ret
      exact ⟨by rw [HV'.out]; rfl, hx0⟩
    | false =>
      have hr : q = decide (100 < nt.size) := by rw [HV'.out]; rfl
      by_cases h2 : 100 < nt.size
      · have hd2 : decide ((100 : Int) < (nt.size : Int)) = true := decide_eq_true (by omega)
        rw [decide_eq_true h2] at hr
        go_wp2_with fail
        go_ret
        first | exact ⟨rfl, hx0⟩ | exact ⟨by rw [hr]; rfl, hx0⟩
      · have hd2 : decide ((100 : Int) < (nt.size : Int)) = false := decide_eq_false (by omega)
        rw [decide_eq_false h2] at hr
        go_wp2_with fail
        go_ret
        first | exact ⟨rfl, hx0⟩ | exact ⟨by rw [hr]; rfl, hx0⟩

theorem greatR_calls (v : Value) (ss : List KS) (cs : List Cm) (m : Nat) (S : Fp) (w : World) (hR : Rd EK S w v ss) (hK : RepK S w ss cs) (hm : m ≤ 1000000) :
    Calls Tryz.prog 15 #[v, .int .i64 m] w (SamePost w (greatR cs m)) := by
  obtain ⟨A, c, rfl, hO⟩ := hR.open_
  have hlen := hO.len
  have hl := hK.len
  clear hR
  by_cases hn : cs.length ≤ m
  · have HO := Lib.hid fun W (hW : Ext w W) => hO.kp (hW.mono fun _ _ _ => trivial)
    have HK := Lib.hid fun W (hW : Ext w W) => hK.ext hW
    obtain ⟨n, hxn⟩ : ∃ n, cs.length = n := ⟨_, rfl⟩
    rw [hxn] at hl
    rw [hl] at hlen ⊢
    rw [hxn] at hn
    have HX := Lib.hid hxn
    have HL := Lib.hid hl
    have hd1 : decide ((n : Int) ≤ (m : Int)) = true := decide_eq_true (by omega)
    have hd2 : decide ((m : Int) < (n : Int)) = false := decide_eq_false (by omega)
    have hd2' : decide (m < n) = false := decide_eq_false (by omega)
    clear hO hK hxn hl
    go_enter Tryz.func15, Tryz.ntmps15
    go_wp2_with fail
    go_loopw [5] (fun i wr => ∃ k : Nat, k ≤ n ∧ i = .int .i64 k ∧ (cs.take k).any greatC = false ∧ Ext w wr) (fun i _ => n - (intOf i).toNat)
    case atStart => exact ⟨0, Nat.zero_le _, rfl, by simp, Kp.refl _ _⟩
    case round =>
      obtain ⟨k, hk, rfl, hno, hx⟩ := hrel
      rename_i wr
      by_cases hlt : k < n
      · have hd3 : decide ((k : Int) < (n : Int)) = true := decide_eq_true (by omega)
        have hkc : k < cs.length := by have := HX.out; omega
        have hkr : k < ss.length := by have := HL.out; omega
        obtain ⟨b, off, rfl, _, hb, c0, c1, c2⟩ := (HO.out wr hx).rd.kom hkr
        have hRx := (HK.out wr hx).get k hkr hkc
        have hcl := greatC_calls ss[k] cs[k] S wr hRx
        have hsn : (cs.take (k + 1)).any greatC = greatC cs[k] := by rw [take_snoc cs hkc, List.any_append, hno]; simp only [List.any_cons, List.any_nil, Bool.or_false, Bool.false_or]
        have hany : greatC cs[k] = true → cs.any greatC = true := fun h => List.any_eq_true.2 ⟨_, List.getElem_mem hkc, h⟩
        have hlt' : (k : Int) < (n : Int) := by omega
        have h0 : (0 : Int) ≤ (k : Int) := by omega
        have hw : IntKind.i64.wrap ((k : Int) + 1) = (k : Int) + 1 := IntWalk.i64_in _ (by omega)
        obtain ⟨xk, hrk⟩ : ∃ x, ss[k] = x := ⟨_, rfl⟩
        rw [hrk] at c0 c1 c2 hcl
        obtain ⟨⟨pa, pn, pc⟩, ⟨ta, tn, tc⟩, nt⟩ := xk
        dsimp only [KS.val, SliceV.val] at c0 c1 c2 hcl
        have HS := Lib.hid hsn
        have HA := Lib.hid hany
        clear hno hsn hany hRx hrk
        cases hq : greatC cs[k] with
        | true =>
          rw [hq] at hcl
          have hc2 := Lib.hid (HA.out hq)
          have HC := Lib.hid hcl
          clear hcl HA HS hq
          go_wp2_with (go_at_call 55; refine HC.out.mono ?_; rintro e w' ⟨rfl, hx'⟩)
          go_ret
          exact ⟨by unfold greatR; rw [hc2.out]; simp, hx.trans hx'⟩
        | false =>
          rw [hq] at hcl
          have HQ := Lib.hid (HS.out.trans hq)
          have HC := Lib.hid hcl
          clear hcl HA HS hq
          go_wp2_with (go_at_call 55; refine HC.out.mono ?_; rintro e w' ⟨rfl, hx'⟩)
          go_roundw
          case rel => exact ⟨k + 1, by omega, by go_num, HQ.out, hx.trans hx'⟩
          case measure => simp [intOf]; omega
      · have hd3 : decide ((k : Int) < (n : Int)) = false := decide_eq_false (by omega)
        have hres : greatR cs m = false := by
          unfold greatR
          rw [List.take_of_length_le (by have := HX.out; omega)] at hno
          rw [hno, decide_eq_false (by have := HX.out; omega)]; rfl
        clear hno
        go_wp2_with fail
        go_ret
        exact ⟨by rw [hres]; rfl, hx⟩
  · have hres : greatR cs m = true := by unfold greatR; rw [decide_eq_true (by omega)]; rfl
    obtain ⟨n, hxn⟩ : ∃ n, cs.length = n := ⟨_, rfl⟩
    rw [hxn] at hl hn
    rw [hl] at hlen ⊢
    have hd1 : decide ((n : Int) ≤ (m : Int)) = false := decide_eq_false (by omega)
    have hd2 : decide ((m : Int) < (n : Int)) = true := decide_eq_true (by omega)
    have hd2' : decide (m < n) = true := decide_eq_true (by omega)
    have hd3' : decide (0 < n) = true := decide_eq_true (by omega)
    have hd3 : decide ((0 : Int) < (n : Int)) = true := decide_eq_true (by omega)
    clear hO hK hxn hl
    go_enter Tryz.func15, Tryz.ntmps15
    go_wp2_with fail
    go_loopw [5] (fun i wr => i = .int .i64 0 ∧ w = wr) (fun i _ => 0)
    case atStart => exact ⟨rfl, rfl⟩
    case round =>
      obtain ⟨rfl, rfl⟩ := hrel
      go_wp2_with fail
      go_ret
      exact ⟨by rw [hres]; rfl, Kp.refl _ _⟩

end Go.Proofs.YtgjbfkaepalkiaaGreatDoor
