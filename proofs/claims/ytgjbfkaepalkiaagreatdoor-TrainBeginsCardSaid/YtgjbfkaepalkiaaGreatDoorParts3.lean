/-
  three.Parts at texts.
-/
import Derived.Test.YtgjbfkaepalkiaaGreatDoorParts2
import Derived.Deep.CutRange
namespace Go.Proofs.YtgjbfkaepalkiaaGreatDoor
open Go.RowKit
set_option linter.unusedVariables false
set_option linter.unusedSimpArgs false
attribute [local go_sem] Oper.semAt_some

theorem plB_iff (x y : Pl) : plB x y = true ↔ x = y := by
  unfold plB
  cases x; cases y
  simp only [Bool.and_eq_true, beq_iff_eq, Pl.mk.injEq]
theorem run_eqIn_pl (x y : Pl) (W : World) : (Op.equalIn 10000 237 (.agg #[.int .i64 x.base, .int .i64 x.a, .int .i64 x.b]) (.agg #[.int .i64 y.base, .int .i64 y.a, .int .i64 y.b])).run Tryz.prog W = .ok (plB x y) W := by
  have h1 := Tryz.sizeOf3
  have h2 := Tryz.isAgg3
  have h3 := Tryz.underlying3
  have h4 := Tryz.zeroValue3
  rw [run_equalIn_struct _ _ _ _ _ (by kernel_rfl) (by kernel_rfl), Program.fieldsOf, Tryz.underlying237]
  unfold plB
  have e1 : ((x.base : Int) == (y.base : Int)) = (x.base == y.base) := by rw [Bool.eq_iff_iff]; simp; omega
  have e2 : ((x.a : Int) == (y.a : Int)) = (x.a == y.a) := by rw [Bool.eq_iff_iff]; simp; omega
  have e3 : ((x.b : Int) == (y.b : Int)) = (x.b == y.b) := by rw [Bool.eq_iff_iff]; simp; omega
  cases q1 : x.base == y.base <;> cases q2 : x.a == y.a <;> cases q3 : x.b == y.b <;> rw [q1] at e1 <;> rw [q2] at e2 <;> rw [q3] at e3 <;>
    simp [Op.eqFields, go_sem, h1, h2, h3, h4, e1, e2, e3]
theorem run_neq_pl (x y : Pl) (W : World) : (binOp .neq 237 (.agg #[.int .i64 x.base, .int .i64 x.a, .int .i64 x.b]) (.agg #[.int .i64 y.base, .int .i64 y.a, .int .i64 y.b])).run Tryz.prog W = .ok (.bool (!plB x y)) W := by
  rw [run_neq_struct, run_eqIn_pl]; rfl

theorem RepPs.less {n m : Nat} {w : World} (hm : m ≤ n) : ∀ {ps : List PtS} {qs : List Pt}, RepPs n w ps qs → RepPs m w ps qs
  | [], [], _ => trivial
  | _ :: _, _ :: _, h => ⟨h.1.less hm, RepPs.less hm h.2⟩
  | [], _ :: _, h => h.elim
  | _ :: _, [], h => h.elim

/-- What stands between two rounds. -/
structure PInv (N bl bat bfr : Nat) (w2 : World) (s : PS3) (lv : Value) (rows : List PtS) (W : World) : Prop where
  l : PSl N bl W lv rows s.l
  at_ : Blk W bat 237 #[.int .i64 s.at_.base, .int .i64 s.at_.a, .int .i64 s.at_.b]
  fr : Blk W bfr 237 #[.int .i64 s.from_.base, .int .i64 s.from_.a, .int .i64 s.from_.b]
  kp : Kp (fun k => k < N ∧ k ≠ bl ∧ k ≠ bat ∧ k ≠ bfr) w2 W
theorem PInv.ext {N bl bat bfr : Nat} {w2 : World} {s : PS3} {lv : Value} {rows : List PtS} {W W' : World} (h : PInv N bl bat bfr w2 s lv rows W) (hx : Ext W W') : PInv N bl bat bfr w2 s lv rows W' :=
  ⟨h.l.ext hx, h.at_.ext hx, h.fr.ext hx, h.kp.trans (Kp.of_ext hx)⟩

theorem PInv.setAt {N bl bat bfr : Nat} {w2 : World} {s : PS3} {lv : Value} {rows : List PtS} {W : World} (h : PInv N bl bat bfr w2 s lv rows W) (hz : bat < N ∧ bl ≠ bat ∧ bat ≠ bfr) (q : Pl) :
    PInv N bl bat bfr w2 ⟨s.l, q, s.from_⟩ lv rows (((W.setCell ⟨bat, 0, none⟩ (.int .i64 q.base)).setCell ⟨bat, 1, none⟩ (.int .i64 q.a)).setCell ⟨bat, 2, none⟩ (.int .i64 q.b)) := by
  have hk : Kp (fun k => k ≠ bat) W (((W.setCell ⟨bat, 0, none⟩ (.int .i64 q.base)).setCell ⟨bat, 1, none⟩ (.int .i64 q.a)).setCell ⟨bat, 2, none⟩ (.int .i64 q.b)) := (((Kp.refl _ _).setCell (.inr (by simp)) _).setCell (.inr (by simp)) _).setCell (.inr (by simp)) _
  exact ⟨h.l.kp hk (fun k hk => by omega) hz.2.1, ((h.at_.set_ 0 _).set_ 1 _).set_ 2 _, h.fr.kp hk (Ne.symm hz.2.2), h.kp.trans' hk fun k _ hn => hn.2.2.1⟩
theorem PInv.setFr {N bl bat bfr : Nat} {w2 : World} {s : PS3} {lv : Value} {rows : List PtS} {W : World} (h : PInv N bl bat bfr w2 s lv rows W) (hz : bfr < N ∧ bl ≠ bfr ∧ bat ≠ bfr) (q : Pl) :
    PInv N bl bat bfr w2 ⟨s.l, s.at_, q⟩ lv rows (((W.setCell ⟨bfr, 0, none⟩ (.int .i64 q.base)).setCell ⟨bfr, 1, none⟩ (.int .i64 q.a)).setCell ⟨bfr, 2, none⟩ (.int .i64 q.b)) := by
  have hk : Kp (fun k => k ≠ bfr) W (((W.setCell ⟨bfr, 0, none⟩ (.int .i64 q.base)).setCell ⟨bfr, 1, none⟩ (.int .i64 q.a)).setCell ⟨bfr, 2, none⟩ (.int .i64 q.b)) := (((Kp.refl _ _).setCell (.inr (by simp)) _).setCell (.inr (by simp)) _).setCell (.inr (by simp)) _
  exact ⟨h.l.kp hk (fun k hk => by omega) hz.2.1, h.at_.kp hk hz.2.2, ((h.fr.set_ 0 _).set_ 1 _).set_ 2 _, h.kp.trans' hk fun k _ hn => hn.2.2.2⟩

set_option maxHeartbeats 4000000 in
set_option maxRecDepth 100000 in
theorem parts_calls (v1 v2 v3 : Value) (xs ys zs : List ByteArray) (S : Fp) (w : World) (hA : Rd ES S w v1 xs) (hB : Rd ES S w v2 ys) (hC : Rd ES S w v3 zs) (h1 : xs.length ≤ 400) (h2 : ys.length ≤ 400) (h3 : zs.length ≤ 400) (hS : ∀ k, S k → k < w.heap.size) :
    Calls Tryz.prog 212 #[v1, v2, v3] w fun e w' => ∃ r rows, e = .returned r ∧ New EPt 219 w.heap.size w' r rows ∧ RepPs w.heap.size w' rows (partsF xs ys zs) ∧ Ext w w' := by
  obtain ⟨A1, c1, rfl, _⟩ := hA.open_
  obtain ⟨A2, c2, rfl, _⟩ := hB.open_
  obtain ⟨A3, c3, rfl, _⟩ := hC.open_
  have hST := fun W (hW : Ext w W) => standing_calls _ _ _ xs ys zs S W (hA.kp (hW.mono fun _ _ _ => trivial)) (hB.kp (hW.mono fun _ _ _ => trivial)) (hC.kp (hW.mono fun _ _ _ => trivial)) h1 h2 h3 (fun k hk => Nat.lt_of_lt_of_le (hS k hk) hW.size)
  have hR := fun W (hW : Kp S w W) => And.intro (hA.kp hW) (And.intro (hB.kp hW) (hC.kp hW))
  have hsl := standF_length xs ys zs
  have hso := stOk xs ys zs (standF_rise xs ys zs) (standF_le xs ys zs)
  have hsl2 := standF_le xs ys zs
  have hPF : partsF xs ys zs = fastP xs ys zs (partsK xs ys zs (standF xs ys zs)).l ⟨xs.length, ys.length, zs.length⟩ (partsK xs ys zs (standF xs ys zs)).from_ := rfl
  obtain ⟨pf, hpf⟩ : ∃ p, partsF xs ys zs = p := ⟨_, rfl⟩
  obtain ⟨ps, hps⟩ : ∃ p, standF xs ys zs = p := ⟨_, rfl⟩
  rw [hpf] at hPF ⊢
  rw [hps] at hST hsl hso hsl2 hPF
  obtain ⟨na, hna⟩ : ∃ n, xs.length = n := ⟨_, rfl⟩
  obtain ⟨nb, hnb⟩ : ∃ n, ys.length = n := ⟨_, rfl⟩
  obtain ⟨nc, hnc⟩ : ∃ n, zs.length = n := ⟨_, rfl⟩
  rw [hna, hnb, hnc] at hST hPF hR hsl2 ⊢
  rw [hna] at h1 hsl
  rw [hnb] at h2
  rw [hnc] at h3
  obtain ⟨M, hM⟩ : ∃ M : Nat, max (max (na : Int) (nb : Int)) (nc : Int) = (M : Int) := ⟨max (max na nb) nc, by omega⟩
  have hM4 : M ≤ 400 := by omega
  have hmr : ∀ (ts : Array TypeId) (t : TypeId) (W : World), (Builtin.max_ ts t #[.int .i64 (na : Int), .int .i64 (nb : Int), .int .i64 (nc : Int)]).run Tryz.prog W = .ok (.int .i64 (M : Int)) W := fun ts t W => by
    rw [run_max_int3]
    have : (if (nc : Int) > (if (nb : Int) > (na : Int) then (nb : Int) else (na : Int)) then (nc : Int) else (if (nb : Int) > (na : Int) then (nb : Int) else (na : Int))) = (M : Int) := by
      rw [← hM]; split <;> split <;> omega
    rw [this]
  clear hM
  have hd4 : decide ((400 : Int) < (M : Int)) = false := decide_eq_false (by omega)
  have HST := Lib.hid hST
  have HR := Lib.hid hR
  have HSO := Lib.hid hso
  have HSL2 := Lib.hid hsl2
  have HPF := Lib.hid hPF
  have HNA := Lib.hid hna
  have HNB := Lib.hid hnb
  have HNC := Lib.hid hnc
  have HS := Lib.hid hS
  clear hA hB hC hST hR hso hsl2 hPF hna hnb hnc hS hpf hps
  go_enter Tryz.func212, Tryz.ntmps212
  go_wp2_with fail
  have hB_o : Blk ((((((w.alloc (.cells #[.slice A1 na c1] 52)).alloc (.cells #[.slice A2 nb c2] 52)).alloc (.cells #[.slice A3 nc c3] 52)).alloc (.cells #[.slice none 0 0] 216)).alloc (.cells #[.int .i64 0, .int .i64 0, .int .i64 0] 237)).alloc (.cells #[.int .i64 0, .int .i64 0, .int .i64 0] 237)) (w.heap.size) 52 #[.slice A1 na c1] := by
    have h := (((((Blk.new w 52 #[.slice A1 na c1]).ext ((Kp.refl _ _).alloc (.cells #[.slice A2 nb c2] 52))).ext ((Kp.refl _ _).alloc (.cells #[.slice A3 nc c3] 52))).ext ((Kp.refl _ _).alloc (.cells #[.slice none 0 0] 216))).ext ((Kp.refl _ _).alloc (.cells #[.int .i64 0, .int .i64 0, .int .i64 0] 237))).ext ((Kp.refl _ _).alloc (.cells #[.int .i64 0, .int .i64 0, .int .i64 0] 237))
    exact h
  have hB_a : Blk ((((((w.alloc (.cells #[.slice A1 na c1] 52)).alloc (.cells #[.slice A2 nb c2] 52)).alloc (.cells #[.slice A3 nc c3] 52)).alloc (.cells #[.slice none 0 0] 216)).alloc (.cells #[.int .i64 0, .int .i64 0, .int .i64 0] 237)).alloc (.cells #[.int .i64 0, .int .i64 0, .int .i64 0] 237)) (w.heap.size + 1) 52 #[.slice A2 nb c2] := by
    have h := ((((Blk.new (w.alloc (.cells #[.slice A1 na c1] 52)) 52 #[.slice A2 nb c2]).ext ((Kp.refl _ _).alloc (.cells #[.slice A3 nc c3] 52))).ext ((Kp.refl _ _).alloc (.cells #[.slice none 0 0] 216))).ext ((Kp.refl _ _).alloc (.cells #[.int .i64 0, .int .i64 0, .int .i64 0] 237))).ext ((Kp.refl _ _).alloc (.cells #[.int .i64 0, .int .i64 0, .int .i64 0] 237))
    rw [World.size_alloc] at h
    exact h
  have hB_b : Blk ((((((w.alloc (.cells #[.slice A1 na c1] 52)).alloc (.cells #[.slice A2 nb c2] 52)).alloc (.cells #[.slice A3 nc c3] 52)).alloc (.cells #[.slice none 0 0] 216)).alloc (.cells #[.int .i64 0, .int .i64 0, .int .i64 0] 237)).alloc (.cells #[.int .i64 0, .int .i64 0, .int .i64 0] 237)) (w.heap.size + 1 + 1) 52 #[.slice A3 nc c3] := by
    have h := (((Blk.new ((w.alloc (.cells #[.slice A1 na c1] 52)).alloc (.cells #[.slice A2 nb c2] 52)) 52 #[.slice A3 nc c3]).ext ((Kp.refl _ _).alloc (.cells #[.slice none 0 0] 216))).ext ((Kp.refl _ _).alloc (.cells #[.int .i64 0, .int .i64 0, .int .i64 0] 237))).ext ((Kp.refl _ _).alloc (.cells #[.int .i64 0, .int .i64 0, .int .i64 0] 237))
    rw [World.size_alloc, World.size_alloc] at h
    exact h
  have hB_l : Blk ((((((w.alloc (.cells #[.slice A1 na c1] 52)).alloc (.cells #[.slice A2 nb c2] 52)).alloc (.cells #[.slice A3 nc c3] 52)).alloc (.cells #[.slice none 0 0] 216)).alloc (.cells #[.int .i64 0, .int .i64 0, .int .i64 0] 237)).alloc (.cells #[.int .i64 0, .int .i64 0, .int .i64 0] 237)) (w.heap.size + 1 + 1 + 1) 216 #[.slice none 0 0] := by
    have h := ((Blk.new (((w.alloc (.cells #[.slice A1 na c1] 52)).alloc (.cells #[.slice A2 nb c2] 52)).alloc (.cells #[.slice A3 nc c3] 52)) 216 #[.slice none 0 0]).ext ((Kp.refl _ _).alloc (.cells #[.int .i64 0, .int .i64 0, .int .i64 0] 237))).ext ((Kp.refl _ _).alloc (.cells #[.int .i64 0, .int .i64 0, .int .i64 0] 237))
    rw [World.size_alloc, World.size_alloc, World.size_alloc] at h
    exact h
  have hB_at : Blk ((((((w.alloc (.cells #[.slice A1 na c1] 52)).alloc (.cells #[.slice A2 nb c2] 52)).alloc (.cells #[.slice A3 nc c3] 52)).alloc (.cells #[.slice none 0 0] 216)).alloc (.cells #[.int .i64 0, .int .i64 0, .int .i64 0] 237)).alloc (.cells #[.int .i64 0, .int .i64 0, .int .i64 0] 237)) (w.heap.size + 1 + 1 + 1 + 1) 237 #[.int .i64 0, .int .i64 0, .int .i64 0] := by
    have h := (Blk.new ((((w.alloc (.cells #[.slice A1 na c1] 52)).alloc (.cells #[.slice A2 nb c2] 52)).alloc (.cells #[.slice A3 nc c3] 52)).alloc (.cells #[.slice none 0 0] 216)) 237 #[.int .i64 0, .int .i64 0, .int .i64 0]).ext ((Kp.refl _ _).alloc (.cells #[.int .i64 0, .int .i64 0, .int .i64 0] 237))
    rw [World.size_alloc, World.size_alloc, World.size_alloc, World.size_alloc] at h
    exact h
  have hB_fr : Blk ((((((w.alloc (.cells #[.slice A1 na c1] 52)).alloc (.cells #[.slice A2 nb c2] 52)).alloc (.cells #[.slice A3 nc c3] 52)).alloc (.cells #[.slice none 0 0] 216)).alloc (.cells #[.int .i64 0, .int .i64 0, .int .i64 0] 237)).alloc (.cells #[.int .i64 0, .int .i64 0, .int .i64 0] 237)) (w.heap.size + 1 + 1 + 1 + 1 + 1) 237 #[.int .i64 0, .int .i64 0, .int .i64 0] := by
    have h := Blk.new (((((w.alloc (.cells #[.slice A1 na c1] 52)).alloc (.cells #[.slice A2 nb c2] 52)).alloc (.cells #[.slice A3 nc c3] 52)).alloc (.cells #[.slice none 0 0] 216)).alloc (.cells #[.int .i64 0, .int .i64 0, .int .i64 0] 237)) 237 #[.int .i64 0, .int .i64 0, .int .i64 0]
    rw [World.size_alloc, World.size_alloc, World.size_alloc, World.size_alloc, World.size_alloc] at h
    exact h
  have hx6 : Ext w ((((((w.alloc (.cells #[.slice A1 na c1] 52)).alloc (.cells #[.slice A2 nb c2] 52)).alloc (.cells #[.slice A3 nc c3] 52)).alloc (.cells #[.slice none 0 0] 216)).alloc (.cells #[.int .i64 0, .int .i64 0, .int .i64 0] 237)).alloc (.cells #[.int .i64 0, .int .i64 0, .int .i64 0] 237)) := (((((((Kp.refl _ w).alloc _).alloc _).alloc _).alloc _).alloc _).alloc _)
  have hz6 : (((((((w.alloc (.cells #[.slice A1 na c1] 52)).alloc (.cells #[.slice A2 nb c2] 52)).alloc (.cells #[.slice A3 nc c3] 52)).alloc (.cells #[.slice none 0 0] 216)).alloc (.cells #[.int .i64 0, .int .i64 0, .int .i64 0] 237)).alloc (.cells #[.int .i64 0, .int .i64 0, .int .i64 0] 237))).heap.size = w.heap.size + 1 + 1 + 1 + 1 + 1 + 1 := by simp
  generalize ((((((w.alloc (.cells #[.slice A1 na c1] 52)).alloc (.cells #[.slice A2 nb c2] 52)).alloc (.cells #[.slice A3 nc c3] 52)).alloc (.cells #[.slice none 0 0] 216)).alloc (.cells #[.int .i64 0, .int .i64 0, .int .i64 0] 237)).alloc (.cells #[.int .i64 0, .int .i64 0, .int .i64 0] 237)) = w1 at hB_o hB_a hB_b hB_l hB_at hB_fr hx6 hz6 ⊢
  obtain ⟨bo, hbo⟩ : ∃ b, w.heap.size = b := ⟨_, rfl⟩
  obtain ⟨ba, hba⟩ : ∃ b, w.heap.size + 1 = b := ⟨_, rfl⟩
  obtain ⟨bb, hbb⟩ : ∃ b, w.heap.size + 1 + 1 = b := ⟨_, rfl⟩
  obtain ⟨bl, hbl⟩ : ∃ b, w.heap.size + 1 + 1 + 1 = b := ⟨_, rfl⟩
  obtain ⟨bat, hbat⟩ : ∃ b, w.heap.size + 1 + 1 + 1 + 1 = b := ⟨_, rfl⟩
  obtain ⟨bfr, hbfr⟩ : ∃ b, w.heap.size + 1 + 1 + 1 + 1 + 1 = b := ⟨_, rfl⟩
  rw [hbfr] at hB_fr ⊢
  rw [hbat] at hB_at ⊢
  rw [hbl] at hB_l ⊢
  rw [hbb] at hB_b ⊢
  rw [hba] at hB_a ⊢
  rw [hbo] at hB_o ⊢
  have HBN : Hid (bo = w.heap.size ∧ ba = w.heap.size + 1 ∧ bb = w.heap.size + 2 ∧ bl = w.heap.size + 3 ∧ bat = w.heap.size + 4 ∧ bfr = w.heap.size + 5 ∧ w1.heap.size = w.heap.size + 6) := Lib.hid (by omega)
  clear hbo hba hbb hbl hbat hbfr hz6
  refine (HST.out w1 hx6).mono ?_
  rintro e w2 ⟨r2, rfl, hN2, hx2⟩
  obtain ⟨B, d, hr2, hO⟩ := hN2.rd.open_
  subst hr2
  obtain ⟨n, hn⟩ : ∃ n, ps.length = n := ⟨_, rfl⟩
  rw [hn] at hsl ⊢
  obtain ⟨N, hN⟩ : ∃ N, w2.heap.size = N := ⟨_, rfl⟩
  have HN := Lib.hid hn
  have HNN := Lib.hid hN
  have hbn := HBN.out
  have h12 := hx2.size
  have HQ := Lib.hid fun W (hW : Kp (fun k => k < N ∧ k ≠ bl ∧ k ≠ bat ∧ k ≠ bfr) w2 W) => hO.kp (hW.mono fun k hk1 hk => ⟨by omega, by omega, by omega, by omega⟩)
  have HX := Lib.hid fun W (hW : Kp (fun k => k < N ∧ k ≠ bl ∧ k ≠ bat ∧ k ≠ bfr) w2 W) => ((hx6.trans hx2).trans' hW (fun k hk _ => ⟨by omega, by omega, by omega, by omega⟩) : Ext w W)
  have HBO := Lib.hid fun W (hW : Kp (fun k => k < N ∧ k ≠ bl ∧ k ≠ bat ∧ k ≠ bfr) w2 W) => (hB_o.ext hx2).kp hW ⟨by omega, by omega, by omega, by omega⟩
  have HBA := Lib.hid fun W (hW : Kp (fun k => k < N ∧ k ≠ bl ∧ k ≠ bat ∧ k ≠ bfr) w2 W) => (hB_a.ext hx2).kp hW ⟨by omega, by omega, by omega, by omega⟩
  have HBB := Lib.hid fun W (hW : Kp (fun k => k < N ∧ k ≠ bl ∧ k ≠ bat ∧ k ≠ bfr) w2 W) => (hB_b.ext hx2).kp hW ⟨by omega, by omega, by omega, by omega⟩
  have hst : PInv N bl bat bfr w2 (partsK xs ys zs (ps.take 0)) (.slice none 0 0) [] w2 :=
    ⟨⟨hB_l.ext hx2, New.nil _ _ _, trivial, by omega⟩, hB_at.ext hx2, hB_fr.ext hx2, Kp.refl _ _⟩
  have HZ : Hid ((bl < N ∧ bat < N ∧ bfr < N ∧ bo < N ∧ ba < N ∧ bb < N) ∧ (bl ≠ bat ∧ bl ≠ bfr ∧ bat ≠ bfr ∧ bo ≠ bl ∧ ba ≠ bl ∧ bb ≠ bl ∧ bo ≠ bat ∧ ba ≠ bat ∧ bb ≠ bat ∧ bo ≠ bfr ∧ ba ≠ bfr ∧ bb ≠ bfr) ∧ w.heap.size ≤ N ∧ w2.heap.size = N) := Lib.hid (by omega)
  clear hN2 hO hx2 hx6 hB_o hB_a hB_b hB_l hB_at hB_fr hn hN hbn h12 hmr
  go_wp2_with fail
  go_loopw [28] (fun i wr => ∃ (k : Nat) (lv : Value) (rows : List PtS), k ≤ n ∧ i = .int .i64 k ∧ PInv N bl bat bfr w2 (partsK xs ys zs (ps.take k)) lv rows wr) (fun i _ => n - (intOf i).toNat)
  case atStart => exact ⟨0, _, _, Nat.zero_le _, rfl, hst⟩
  case round =>
    obtain ⟨k, lv, rows, hk, rfl, hI⟩ := hrel
    rename World => wo
    clear hst
    by_cases hlt : k < n
    · have hd : decide ((k : Int) < (n : Int)) = true := decide_eq_true (by omega)
      have hkp : k < ps.length := by have := HN.out; omega
      have hIl := hI.kp
      obtain ⟨b, off, rfl, _, hb, e0, e1, e2⟩ := (HQ.out wo hIl).rd.place hkp
      have hok := HSO.out k (by omega)
      have hsn : partsK xs ys zs (ps.take (k + 1)) = stepP xs ys zs (partsK xs ys zs (ps.take k)) ps[k] := by rw [take_snoc ps hkp, partsK_snoc]
      have hlp := HSL2.out _ (List.getElem_mem hkp)
      have hll := partsK_length xs ys zs (ps.take k)
      have htl : (ps.take k).length ≤ 401 := by rw [List.length_take]; omega
      have hfits := (hok.an hkp).fits (o := xs) (a := ys) (b := zs) (by rw [HNA.out, HNB.out, HNC.out]; exact hlp)
      obtain ⟨p, hp⟩ : ∃ p, ps[k] = p := ⟨_, rfl⟩
      obtain ⟨s, hs⟩ : ∃ s, partsK xs ys zs (ps.take k) = s := ⟨_, rfl⟩
      have hok2 : LeP s.from_ s.at_ ∧ LeP s.at_ p ∧ (s.at_.base ≤ 401 ∧ s.at_.a ≤ 401 ∧ s.at_.b ≤ 401) := by
        rw [hs] at hok
        refine ⟨hok.fa, by rw [← hp]; exact hok.an hkp, ?_⟩
        have := hok.small
        rw [HNA.out, HNB.out, HNC.out] at this
        omega
      rw [hp] at e0 e1 e2 hsn hlp hfits
      rw [hs] at hI hsn hll hfits
      obtain ⟨p1, p2, p3⟩ := p
      obtain ⟨sl, ⟨t1, t2, t3⟩, ⟨f1, f2, f3⟩⟩ := s
      dsimp only at e0 e1 e2 hll
      have hp1 : p1 ≤ 400 ∧ p2 ≤ 400 ∧ p3 ≤ 400 := by have := hlp.base; have := hlp.a; have := hlp.b; dsimp only at *; omega
      have hp1a := hp1.1
      have hp1b := hp1.2.1
      have hp1c := hp1.2.2
      have hlt' : (k : Int) < (n : Int) := by omega
      have h0 : (0 : Int) ≤ (k : Int) := by omega
      have HW := Lib.hid (IntWalk.i64_in ((k : Int) + 1) (by omega))
      have HSN := Lib.hid hsn
      have HLL : Hid (sl.length ≤ 900) := Lib.hid (by omega)
      have HFI := Lib.hid hfits
      have HOK := Lib.hid hok2
      have hrl : rows.length = sl.length := hI.l.2.2.1.len
      have HRL := Lib.hid hrl
      have HLP := Lib.hid hlp
      have hne := run_neq_pl ⟨p1, p2, p3⟩ ⟨t1, t2, t3⟩
      have hgd := fun (x y : Operand) (W : World) => run_eqGuard_agg (P := Tryz.prog) W .neq 237 x y #[.int .i64 p1, .int .i64 p2, .int .i64 p3] #[.int .i64 t1, .int .i64 t2, .int .i64 t3] (by kernel_rfl)
      dsimp only at hne
      have hI2 := hI.ext ((Kp.refl _ wo).alloc (.cells #[.int .i64 p1, .int .i64 p2, .int .i64 p3] 237))
      have hBp := Blk.new wo 237 #[.int .i64 p1, .int .i64 p2, .int .i64 p3]
      have a0 : (wo.alloc (.cells #[.int .i64 p1, .int .i64 p2, .int .i64 p3] 237)).cell? ⟨bat, 0, none⟩ = some (.int .i64 t1) := hI2.at_.cell 0
      have a1 : (wo.alloc (.cells #[.int .i64 p1, .int .i64 p2, .int .i64 p3] 237)).cell? ⟨bat, 1, none⟩ = some (.int .i64 t2) := hI2.at_.cell 1
      have a2 : (wo.alloc (.cells #[.int .i64 p1, .int .i64 p2, .int .i64 p3] 237)).cell? ⟨bat, 2, none⟩ = some (.int .i64 t3) := hI2.at_.cell 2
      have fz0 := hI2.at_.frozen 0
      have fz1 := hI2.at_.frozen 1
      have fz2 := hI2.at_.frozen 2
      have HI := Lib.hid hI2
      have HBLW : Hid (bl < wo.heap.size ∧ bat < wo.heap.size ∧ bfr < wo.heap.size) := Lib.hid (by have := hI.kp.size; have := HZ.out; omega)
      have hI0 : Hid (bl < wo.heap.size ∧ N ≤ wo.heap.size) := Lib.hid (by have := hI.kp.size; have := HZ.out; omega)
      have HBP := Lib.hid hBp
      have HQB : Hid (plB ⟨p1, p2, p3⟩ ⟨t1, t2, t3⟩ = plB ⟨p1, p2, p3⟩ ⟨t1, t2, t3⟩) := Lib.hid rfl
      obtain ⟨q, hq⟩ : ∃ q, plB ⟨p1, p2, p3⟩ ⟨t1, t2, t3⟩ = q := ⟨_, rfl⟩
      rw [hq] at hne
      have HQ' := Lib.hid hq
      clear hkp hIl hok hsn hlp hll htl hfits hp hs hok2 hp1 hrl hI hI2 hBp HQB hq
      cases q with
      | true =>
        have HST2 : Hid (partsK xs ys zs (ps.take (k + 1)) = ⟨sl, ⟨p1 + 1, p2 + 1, p3 + 1⟩, ⟨f1, f2, f3⟩⟩) := Lib.hid (by rw [HSN.out]; unfold stepP; rw [if_pos HQ'.out])
        have hz := HZ.out
        go_wp2_with fail
        go_roundw
        case rel => exact ⟨k + 1, lv, rows, by omega, by go_num, by rw [HST2.out]; exact HI.out.setAt ⟨hz.1.2.1, hz.2.1.1, hz.2.1.2.2.1⟩ ⟨p1 + 1, p2 + 1, p3 + 1⟩⟩
        case measure => simp [intOf]; omega
      | false =>
        have HST2 : Hid (partsK xs ys zs (ps.take (k + 1)) = ⟨fastP xs ys zs sl ⟨t1, t2, t3⟩ ⟨f1, f2, f3⟩ ++ [flagP (partF xs ys zs ⟨t1, t2, t3⟩ ⟨p1, p2, p3⟩)], ⟨p1 + 1, p2 + 1, p3 + 1⟩, ⟨p1, p2, p3⟩⟩) := Lib.hid (by rw [HSN.out]; unfold stepP; rw [if_neg (by rw [HQ'.out]; simp)])
        have hfl := fastP_length xs ys zs sl ⟨t1, t2, t3⟩ ⟨f1, f2, f3⟩
        have HFL : Hid ((fastP xs ys zs sl ⟨t1, t2, t3⟩ ⟨f1, f2, f3⟩).length ≤ 901) := Lib.hid (by have := HLL.out; omega)
        have hFC := fast_calls bfr bat bl bo ba bb N xs ys zs ⟨f1, f2, f3⟩ ⟨t1, t2, t3⟩ lv _ _ _ rows sl S _ HI.out.fr HI.out.at_ HI.out.l (HBO.out _ HI.out.kp) (HBA.out _ HI.out.kp) (HBB.out _ HI.out.kp) (HR.out _ ((HX.out _ HI.out.kp).mono fun _ _ _ => trivial)).1 (HR.out _ ((HX.out _ HI.out.kp).mono fun _ _ _ => trivial)).2.1 (HR.out _ ((HX.out _ HI.out.kp).mono fun _ _ _ => trivial)).2.2
          (fun _ => HOK.out.1.fits (HOK.out.2.1.trans (by rw [HNA.out, HNB.out, HNC.out]; exact HLP.out))) (by rw [HNA.out]; exact h1) (by rw [HNB.out]; exact h2) (by rw [HNC.out]; exact h3) (by rw [HRL.out]; have := HLL.out; omega) (by have := HI.out.kp.size; have := HZ.out.2.2.2; omega)
          (by have := HOK.out.1.base; have := HOK.out.2.2.1; dsimp only at *; omega) (by have := HOK.out.2.2.1; dsimp only at *; omega) (by have := HZ.out; omega)
        have HFC := Lib.hid hFC
        clear hfl hFC
        go_wp2_with fail
        refine HFC.out.mono ?_
        rintro e W1 ⟨⟨rv, rfl⟩, ⟨lv1, rows1, hL1⟩, hk1⟩
        have hown := HI.out.l.2.1.1.apartB HBP.out (by decide)
        have hBp1 := HBP.out.kp hk1 ⟨by have := HBP.out.lt; have := hI0.out; omega, hown⟩
        have hI1 : PInv N bl bat bfr w2 ⟨fastP xs ys zs sl ⟨t1, t2, t3⟩ ⟨f1, f2, f3⟩, ⟨t1, t2, t3⟩, ⟨f1, f2, f3⟩⟩ lv1 rows1 W1 :=
          ⟨hL1, HI.out.at_.kp hk1 ⟨by have := HZ.out; omega, fun e => by have := HI.out.l.2.1.2 _ e; have := HZ.out; omega⟩, HI.out.fr.kp hk1 ⟨by have := HZ.out; omega, fun e => by have := HI.out.l.2.1.2 _ e; have := HZ.out; omega⟩, HI.out.kp.trans' hk1 fun k _ hn => ⟨hn.2.1, fun e => by have := HI.out.l.2.1.2 _ e; omega⟩⟩
        obtain ⟨l1, hl1⟩ : ∃ l, fastP xs ys zs sl ⟨t1, t2, t3⟩ ⟨f1, f2, f3⟩ = l := ⟨_, rfl⟩
        rw [hl1] at hI1 HST2 HFL
        have a0 : W1.cell? ⟨bat, 0, none⟩ = some (.int .i64 t1) := hI1.at_.cell 0
        have a1 : W1.cell? ⟨bat, 1, none⟩ = some (.int .i64 t2) := hI1.at_.cell 1
        have a2 : W1.cell? ⟨bat, 2, none⟩ = some (.int .i64 t3) := hI1.at_.cell 2
        have d0 : W1.cell? ⟨wo.heap.size, 0, none⟩ = some (.int .i64 p1) := hBp1.cell 0
        have d1 : W1.cell? ⟨wo.heap.size, 1, none⟩ = some (.int .i64 p2) := hBp1.cell 1
        have d2 : W1.cell? ⟨wo.heap.size, 2, none⟩ = some (.int .i64 p3) := hBp1.cell 2
        have b0 := (HBO.out W1 hI1.kp).cell0
        have b1 := (HBA.out W1 hI1.kp).cell0
        have b2 := (HBB.out W1 hI1.kp).cell0
        have hRR := HR.out W1 ((HX.out W1 hI1.kp).mono fun _ _ _ => trivial)
        have HPC := Lib.hid (part_calls _ _ _ xs ys zs ⟨t1, t2, t3⟩ ⟨p1, p2, p3⟩ S W1 hRR.1 hRR.2.1 hRR.2.2 HFI.out (by rw [HNA.out]; exact h1) (by rw [HNB.out]; exact h2) (by rw [HNC.out]; exact h3))
        have HI1 := Lib.hid hI1
        have HBP1 := Lib.hid hBp1
        have HI01 : Hid (bl < W1.heap.size ∧ N ≤ W1.heap.size) := Lib.hid (by have := hk1.size; have := hI0.out; simp at *; omega)
        clear hL1 hk1 hown hBp1 hI1 hl1 hRR HI HBP hI0 HFC hne hgd HOK HLP
        go_wp2_with fail
        refine HPC.out.mono ?_
        clear HPC
        rintro e W2 ⟨r, rfl, hpv, hx2⟩
        obtain ⟨⟨pc, ⟨P1, m1, k1⟩, ⟨P2, m2, k2⟩, ⟨P3, m3, k3⟩⟩, rfl, hrep⟩ := hpv.rep
        have hpc : pc = false := hrep.c
        subst hpc
        obtain ⟨pt, hpt⟩ : ∃ p, partF xs ys zs ⟨t1, t2, t3⟩ ⟨p1, p2, p3⟩ = p := ⟨_, rfl⟩
        rw [hpt] at hrep HST2
        dsimp only [SliceV.val]
        have hI2 := HI1.out.ext (hx2.alloc (.cells #[.bool false, .slice P1 m1 k1, .slice P2 m2 k2, .slice P3 m3 k3] 219))
        have hBp2 := HBP1.out.ext (hx2.alloc (.cells #[.bool false, .slice P1 m1 k1, .slice P2 m2 k2, .slice P3 m3 k3] 219))
        have hrep2 := (hrep.less HI01.out.2).ext ((Kp.refl _ W2).alloc (.cells #[.bool false, .slice P1 m1 k1, .slice P2 m2 k2, .slice P3 m3 k3] 219))
        have hBx := Blk.new W2 219 #[.bool false, .slice P1 m1 k1, .slice P2 m2 k2, .slice P3 m3 k3]
        have HI3 : Hid (bl < W2.heap.size ∧ N ≤ W2.heap.size ∧ ∀ g, lv1.ownBlock = some g → g < W2.heap.size) := Lib.hid ⟨by have := hx2.size; have := HI01.out; omega, by have := hx2.size; have := HI01.out; omega, fun g hg => Nat.lt_of_lt_of_le (HI1.out.l.2.1.1.lt hg) hx2.size⟩
        have HQE := Lib.hid fun W (hW : Ext (W2.alloc (.cells #[.bool false, .slice P1 m1 k1, .slice P2 m2 k2, .slice P3 m3 k3] 219)) W) => And.intro (equalS_calls _ _ _ _ _ _ W (hrep2.s2.ext hW).rd (hrep2.s3.ext hW).rd) (And.intro (equalS_calls _ _ _ _ _ _ W (hrep2.s2.ext hW).rd (hrep2.s1.ext hW).rd) (equalS_calls _ _ _ _ _ _ W (hrep2.s3.ext hW).rd (hrep2.s1.ext hW).rd))
        dsimp only [SliceV.val] at HQE
        have HRP := Lib.hid hrep2
        have HBPL : Hid (wo.heap.size < W2.heap.size) := Lib.hid (Nat.lt_of_lt_of_le HBP1.out.lt hx2.size)
        have HI2 := Lib.hid hI2
        have HBP2 := Lib.hid hBp2
        have HBX := Lib.hid hBx
        clear hpv hrep hI2 hBp2 hrep2 hBx HI1 HBP1 HI01 hpt a0 a1 a2 d0 d1 d2 b0 b1 b2 HFI hx2
        go_upto_region 12 with fail
        have x0 := HBX.out.cell 0
        have x1 := HBX.out.cell 1
        have x2 := HBX.out.cell 2
        have x3 := HBX.out.cell 3
        generalize (W2.alloc (.cells #[.bool false, .slice P1 m1 k1, .slice P2 m2 k2, .slice P3 m3 k3] 219)) = W3 at HQE HRP HI2 HBP2 HBX x0 x1 x2 x3 ⊢
        go_cut [28] from 28 to 81 (fun i wx => i = .int .i64 k ∧ Blk wx W2.heap.size 219 #[.bool (flagP pt).conflict, .slice P1 m1 k1, .slice P2 m2 k2, .slice P3 m3 k3] ∧ Kp (fun k => k ≠ W2.heap.size) W3 wx)
        case first =>
          have hqa := (HQE.out W3 (Kp.refl _ _)).1
          go_wp2_with fail
          refine hqa.mono ?_
          rintro e W4 ⟨rfl, hx4⟩
          clear x0 x1 x2 x3 hqa
          have hb4 := HBX.out.ext hx4
          have x0 := hb4.cell 0
          have x1 := hb4.cell 1
          have x2 := hb4.cell 2
          have x3 := hb4.cell 3
          have xf := hb4.frozen 0
          cases qa : sameT pt.a pt.b with
          | true =>
            have hfl : (flagP pt).conflict = false := by unfold flagP; rw [qa]; rfl
            go_wp2_with fail
            go_meet
            case rel => exact ⟨rfl, by rw [hfl]; exact hb4.set_ 0 _, (Kp.of_ext hx4).setCell (.inr (by simp)) _⟩
          | false =>
            have hqb := (HQE.out W4 hx4).2.1
            go_wp2_with fail
            refine hqb.mono ?_
            rintro e W5 ⟨rfl, hx5⟩
            clear x0 x1 x2 x3 xf hqb
            have hb5 := hb4.ext hx5
            have x0 := hb5.cell 0
            have x1 := hb5.cell 1
            have x2 := hb5.cell 2
            have x3 := hb5.cell 3
            have xf := hb5.frozen 0
            cases qb : sameT pt.a pt.base with
            | true =>
              have hfl : (flagP pt).conflict = false := by unfold flagP; rw [qa, qb]; rfl
              go_wp2_with fail
              go_meet
              case rel => exact ⟨rfl, by rw [hfl]; exact hb5.set_ 0 _, (Kp.of_ext (hx4.trans hx5)).setCell (.inr (by simp)) _⟩
            | false =>
              have hqc := (HQE.out W5 (hx4.trans hx5)).2.2
              go_wp2_with fail
              refine hqc.mono ?_
              rintro e W6 ⟨rfl, hx6⟩
              clear x0 x1 x2 x3 xf hqc
              have hb6 := hb5.ext hx6
              have x0 := hb6.cell 0
              have x1 := hb6.cell 1
              have x2 := hb6.cell 2
              have x3 := hb6.cell 3
              have xf := hb6.frozen 0
              cases qc : sameT pt.b pt.base with
              | true =>
                have hfl : (flagP pt).conflict = false := by unfold flagP; rw [qa, qb, qc]; rfl
                go_wp2_with fail
                go_meet
                case rel => exact ⟨rfl, by rw [hfl]; exact hb6.set_ 0 _, (Kp.of_ext ((hx4.trans hx5).trans hx6)).setCell (.inr (by simp)) _⟩
              | false =>
                have hfl : (flagP pt).conflict = true := by unfold flagP; rw [qa, qb, qc]; rfl
                go_wp2_with fail
                go_meet
                case rel => exact ⟨rfl, by rw [hfl]; exact hb6.set_ 0 _, (Kp.of_ext ((hx4.trans hx5).trans hx6)).setCell (.inr (by simp)) _⟩
        case rest =>
          obtain ⟨hi, hbx, hkx⟩ := hcut
          subst hi
          have hz := HZ.out
          have hi3 := HI3.out
          have hI5 : PInv N bl bat bfr w2 ⟨l1, ⟨t1, t2, t3⟩, ⟨f1, f2, f3⟩⟩ lv1 rows1 wc :=
            ⟨⟨HI2.out.l.1.kp hkx (by omega), HI2.out.l.2.1.kp hkx (fun g hg e => by have := hi3.2.2 g hg; omega), RepPs.kp hkx (fun v xs hn g hg e => hn.1.apartB HBX.out (by decide) (e ▸ hg)) HI2.out.l.2.2.1, HI2.out.l.2.2.2⟩, HI2.out.at_.kp hkx (by omega), HI2.out.fr.kp hkx (by omega), HI2.out.kp.trans' hkx fun k _ hn => by omega⟩
          have hrp : RepP N wc ⟨(flagP pt).conflict, ⟨P1, m1, k1⟩, ⟨P2, m2, k2⟩, ⟨P3, m3, k3⟩⟩ (flagP pt) := by
            have h := HRP.out.kp hkx (fun v xs hn g hg e => hn.1.apartB HBX.out (by decide) (e ▸ hg))
            exact ⟨rfl, h.s1, h.s2, h.s3⟩
          have hbp : Blk wc wo.heap.size 237 #[.int .i64 p1, .int .i64 p2, .int .i64 p3] := HBP2.out.kp hkx (by have := HBPL.out; omega)
          obtain ⟨cf, hcf⟩ : ∃ c, (flagP pt).conflict = c := ⟨_, rfl⟩
          rw [hcf] at hbx hrp
          have x0 := hbx.cell 0
          have x1 := hbx.cell 1
          have x2 := hbx.cell 2
          have x3 := hbx.cell 3
          have l0 := hI5.l.1.cell0
          have hnw : N ≤ wc.heap.size := by have := hkx.size; have := HBX.out.lt; omega
          have hrl1 : rows1.length = l1.length := hI5.l.2.2.1.len
          have hrb : rows1.length ≤ 901 := by have := HFL.out; omega
          obtain ⟨Al, nl, cl, hlv⟩ := hI5.l.2.1.1.slice
          subst hlv
          have HI5 := Lib.hid hI5
          have HRP5 := Lib.hid hrp
          have HBP5 := Lib.hid hbp
          clear hI5 hrp hbp hcf hbx hkx hrl1 HI2 HRP HBP2 HBX HQE hz hi3
          go_wp2_with (at_builtin; refine stop ?_)
          refine list_append_k (n := N) (v := .slice Al nl cl) (E := EPt) (ys := [⟨cf, ⟨P1, m1, k1⟩, ⟨P2, m2, k2⟩, ⟨P3, m3, k3⟩⟩]) tiPt rfl rfl (HI5.out.l.2.1.ext ((Kp.refl _ wc).alloc _)) (by simp; omega) (Own.made (E := EPt) wc 219 [⟨cf, ⟨P1, m1, k1⟩, ⟨P2, m2, k2⟩, ⟨P3, m3, k3⟩⟩] (by simp [maxLen])).rd rfl rfl (by simp; omega) (by simp [maxLen]; omega) ?_
          intro lv' wF hN2 hkF
          have hown : ∀ b, b < N → Value.ownBlock (.slice Al nl cl) ≠ some b := fun b hb e => by have := HI5.out.l.2.1.2 b e; omega
          have hIa := HI5.out.ext ((Kp.refl _ wc).alloc (.cells #[.bool cf, .slice P1 m1 k1, .slice P2 m2 k2, .slice P3 m3 k3] 219))
          have hBa := HBP5.out.ext ((Kp.refl _ wc).alloc (.cells #[.bool cf, .slice P1 m1 k1, .slice P2 m2 k2, .slice P3 m3 k3] 219))
          have hz := HZ.out
          have hBl := hIa.l.1.kp hkF (hown bl (by omega))
          have eb := hBl.cell0
          have fb := hBl.frozen 0
          have hPush := PSl.push hIa.l (p := ⟨cf, ⟨P1, m1, k1⟩, ⟨P2, m2, k2⟩, ⟨P3, m3, k3⟩⟩) (HRP5.out.ext ((Kp.refl _ wc).alloc _)) hN2 hkF
          have hks : Kp (fun k => k ≠ bl) wF (wF.setCell ⟨bl, 0, none⟩ lv') := (Kp.refl _ _).setCell (.inr (by simp)) _
          have hI7 : PInv N bl bat bfr w2 ⟨l1 ++ [flagP pt], ⟨t1, t2, t3⟩, ⟨f1, f2, f3⟩⟩ lv' _ (wF.setCell ⟨bl, 0, none⟩ lv') :=
            ⟨hPush, (hIa.at_.kp hkF (hown bat (by omega))).kp hks (by omega), (hIa.fr.kp hkF (hown bfr (by omega))).kp hks (by omega), (hIa.kp.trans' hkF fun k _ hn => hown k hn.1).trans' hks fun k _ hn => hn.2.1⟩
          have hBp7 : Blk (wF.setCell ⟨bl, 0, none⟩ lv') wo.heap.size 237 #[.int .i64 p1, .int .i64 p2, .int .i64 p3] := (hBa.kp hkF (HI5.out.l.2.1.1.apartB HBP5.out (by decide))).kp hks (by have := HBLW.out; omega)
          obtain ⟨Ag, ng, cg, hlg⟩ := hN2.1.slice
          subst hlg
          have HI7 := Lib.hid hI7
          have HBP7 := Lib.hid hBp7
          clear hPush hI7 hBp7 hks hN2 hkF hIa hBa hBl x0 x1 x2 x3 l0 HI5 HBP5 HRP5 hown
          go_upto_region 14 with fail
          have d0 : (wF.setCell ⟨bl, 0, none⟩ (.slice Ag ng cg)).cell? ⟨wo.heap.size, 0, none⟩ = some (.int .i64 p1) := HBP7.out.cell 0
          have d1 : (wF.setCell ⟨bl, 0, none⟩ (.slice Ag ng cg)).cell? ⟨wo.heap.size, 1, none⟩ = some (.int .i64 p2) := HBP7.out.cell 1
          have d2 : (wF.setCell ⟨bl, 0, none⟩ (.slice Ag ng cg)).cell? ⟨wo.heap.size, 2, none⟩ = some (.int .i64 p3) := HBP7.out.cell 2
          have v0 : (wF.setCell ⟨bl, 0, none⟩ (.slice Ag ng cg)).cell? ⟨bfr, 0, none⟩ = some (.int .i64 f1) := HI7.out.fr.cell 0
          have v1 : (wF.setCell ⟨bl, 0, none⟩ (.slice Ag ng cg)).cell? ⟨bfr, 1, none⟩ = some (.int .i64 f2) := HI7.out.fr.cell 1
          have v2 : (wF.setCell ⟨bl, 0, none⟩ (.slice Ag ng cg)).cell? ⟨bfr, 2, none⟩ = some (.int .i64 f3) := HI7.out.fr.cell 2
          have g0 := HI7.out.fr.frozen 0
          have g1 := HI7.out.fr.frozen 1
          have g2 := HI7.out.fr.frozen 2
          generalize wF.setCell ⟨bl, 0, none⟩ (.slice Ag ng cg) = wS at HI7 HBP7 d0 d1 d2 g0 g1 g2 v0 v1 v2 ⊢
          clear eb fb
          go_upto_region 15 with fail
          have HI8 := Lib.hid (HI7.out.setFr ⟨by omega, by omega, by omega⟩ ⟨p1, p2, p3⟩)
          have hBp8 : Blk (((wS.setCell ⟨bfr, 0, none⟩ (.int .i64 p1)).setCell ⟨bfr, 1, none⟩ (.int .i64 p2)).setCell ⟨bfr, 2, none⟩ (.int .i64 p3)) wo.heap.size 237 #[.int .i64 p1, .int .i64 p2, .int .i64 p3] := ((HBP7.out.far (by have := HBLW.out; simp; omega) _).far (by have := HBLW.out; simp; omega) _).far (by have := HBLW.out; simp; omega) _
          have HBP8 := Lib.hid hBp8
          dsimp only at HI8
          clear d0 d1 d2 g0 g1 g2 v0 v1 v2 hBp8
          generalize (((wS.setCell ⟨bfr, 0, none⟩ (.int .i64 p1)).setCell ⟨bfr, 1, none⟩ (.int .i64 p2)).setCell ⟨bfr, 2, none⟩ (.int .i64 p3)) = wT at HI8 HBP8 ⊢
          have d0 : wT.cell? ⟨wo.heap.size, 0, none⟩ = some (.int .i64 p1) := HBP8.out.cell 0
          have d1 : wT.cell? ⟨wo.heap.size, 1, none⟩ = some (.int .i64 p2) := HBP8.out.cell 1
          have d2 : wT.cell? ⟨wo.heap.size, 2, none⟩ = some (.int .i64 p3) := HBP8.out.cell 2
          have v0 : wT.cell? ⟨bat, 0, none⟩ = some (.int .i64 t1) := HI8.out.at_.cell 0
          have v1 : wT.cell? ⟨bat, 1, none⟩ = some (.int .i64 t2) := HI8.out.at_.cell 1
          have v2 : wT.cell? ⟨bat, 2, none⟩ = some (.int .i64 t3) := HI8.out.at_.cell 2
          have g0 := HI8.out.at_.frozen 0
          have g1 := HI8.out.at_.frozen 1
          have g2 := HI8.out.at_.frozen 2
          go_wp2_with fail
          go_roundw
          case rel => exact ⟨k + 1, _, _, by omega, by go_num, by rw [HST2.out]; exact HI8.out.setAt ⟨hz.1.2.1, hz.2.1.1, hz.2.1.2.2.1⟩ ⟨p1 + 1, p2 + 1, p3 + 1⟩⟩
          case measure => simp [intOf]; omega
    · have hd : decide ((k : Int) < (n : Int)) = false := decide_eq_false (by omega)
      have hkn : k = n := by omega
      subst hkn
      have hall : ps.take k = ps := List.take_of_length_le (by have := HN.out; omega)
      have hok := HSO.out k (by have := HN.out; omega)
      rw [hall] at hI hok
      have hll := partsK_length xs ys zs ps
      have hPF2 := HPF.out
      obtain ⟨s, hs⟩ : ∃ s, partsK xs ys zs ps = s := ⟨_, rfl⟩
      rw [hs] at hI hll hPF2 hok
      have hfl := hok.fl
      obtain ⟨sl, ⟨t1, t2, t3⟩, ⟨f1, f2, f3⟩⟩ := s
      dsimp only at hll hPF2 hfl
      have hfb : f1 ≤ 400 := by have := hfl.base; dsimp only at this; rw [HNA.out] at this; omega
      have hrl : rows.length ≤ 900 := by rw [hI.l.2.2.1.len]; dsimp only; have := HN.out; omega
      have v0 : wo.cell? ⟨bat, 0, none⟩ = some (.int .i64 t1) := hI.at_.cell 0
      have v1 : wo.cell? ⟨bat, 1, none⟩ = some (.int .i64 t2) := hI.at_.cell 1
      have v2 : wo.cell? ⟨bat, 2, none⟩ = some (.int .i64 t3) := hI.at_.cell 2
      have g0 := hI.at_.frozen 0
      have g1 := hI.at_.frozen 1
      have g2 := hI.at_.frozen 2
      have b0 := (HBO.out wo hI.kp).cell0
      have b1 := (HBA.out wo hI.kp).cell0
      have b2 := (HBB.out wo hI.kp).cell0
      have hz := HZ.out
      have HI8 := Lib.hid (hI.setAt ⟨hz.1.2.1, hz.2.1.1, hz.2.1.2.2.1⟩ ⟨na, nb, nc⟩)
      dsimp only at HI8
      have HP2 := Lib.hid hPF2
      have HFL := Lib.hid hfl
      clear hall hok hll hPF2 hs hfl hI
      go_upto_region 18 with fail
      generalize (((wo.setCell ⟨bat, 0, none⟩ (.int .i64 na)).setCell ⟨bat, 1, none⟩ (.int .i64 nb)).setCell ⟨bat, 2, none⟩ (.int .i64 nc)) = wT at HI8 ⊢
      clear v0 v1 v2 g0 g1 g2 b0 b1 b2
      have hRR := HR.out wT ((HX.out wT HI8.out.kp).mono fun _ _ _ => trivial)
      have HFC := Lib.hid (fast_calls bfr bat bl bo ba bb N xs ys zs ⟨f1, f2, f3⟩ ⟨na, nb, nc⟩ lv _ _ _ rows sl S wT HI8.out.fr HI8.out.at_ HI8.out.l (HBO.out _ HI8.out.kp) (HBA.out _ HI8.out.kp) (HBB.out _ HI8.out.kp) hRR.1 hRR.2.1 hRR.2.2
        (fun _ => by have h := HFL.out; rw [HNA.out, HNB.out, HNC.out] at h; exact h.fits (by rw [HNA.out, HNB.out, HNC.out]; exact ⟨Nat.le_refl _, Nat.le_refl _, Nat.le_refl _⟩)) (by rw [HNA.out]; exact h1) (by rw [HNB.out]; exact h2) (by rw [HNC.out]; exact h3) (by omega) (by have := HI8.out.kp.size; omega)
        (by dsimp only; omega) (by dsimp only; omega) (by omega))
      clear hRR
      go_wp2_with fail
      refine HFC.out.mono ?_
      rintro e W1 ⟨⟨rv, rfl⟩, ⟨lv1, rows1, hL1⟩, hk1⟩
      rw [← HP2.out] at hL1
      have hkp : Kp (fun k => k < N ∧ k ≠ bl ∧ k ≠ bat ∧ k ≠ bfr) w2 W1 := HI8.out.kp.trans' hk1 fun k _ hn => ⟨hn.2.1, fun e => by have := HI8.out.l.2.1.2 _ e; omega⟩
      have hxf := HX.out W1 hkp
      have l0 := hL1.1.cell0
      obtain ⟨Ag, ng, cg, hlg⟩ := hL1.2.1.1.slice
      subst hlg
      have HL1 := Lib.hid hL1
      clear hL1 hk1 hkp HFC HI8
      go_wp2_with fail
      go_ret
      exact ⟨_, rows1, rfl, HL1.out.2.1.less hz.2.2.1, RepPs.less hz.2.2.1 HL1.out.2.2.1, hxf⟩

end Go.Proofs.YtgjbfkaepalkiaaGreatDoor
