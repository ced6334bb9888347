/-
  Plain: cortegeref9's answers are join's. cortegeref9: has, under, one, all. cortegeref9: all. cortegeref9: Of, Virtual. cortegeref9: Virtual.
-/
import Derived.Test.YtgjbfkaepalkiaaGreatDoorSides9P
import Derived.Test.YtgjbfkaepalkiaaGreatDoorSwapM
import Derived.Test.YtgjbfkaepalkiaaGreatDoorR6
import Derived.Test.YtgjbfkaepalkiaaGreatDoorRefM
import Derived.Test.YtgjbfkaepalkiaaGreatDoorRef7d
import Derived.Deep.Cut
import Derived.Deep.CutRange
namespace Go.Proofs.YtgjbfkaepalkiaaGreatDoor
open Go.RowKit
set_option linter.unusedVariables false
set_option linter.unusedSimpArgs false

/-- What one answers: a file, and whether it conflicts. -/
def oneF (o a b : Fl) : Fl × Bool := (if (joinF textM o a b).2 = true then (joinF textM o a b).1 else o, !(joinF textM o a b).2)
theorem oneF_ab {o a b : Fl} (h : flB a b = true) : oneF o a b = (a, false) := by
  unfold oneF joinF
  rw [h]
  simp
theorem oneF_ao {o a b : Fl} (h : flB a b = false) (h2 : flB a o = true) : oneF o a b = (b, false) := by
  have h3 : flB b o = false := flB_ne fun e => by
    rw [(flB_iff _ _).1 h2, e, flB_eq] at h; cases h
  unfold oneF joinF
  rw [h, h2, h3]
  simp
theorem oneF_bo {o a b : Fl} (h : flB a b = false) (h2 : flB a o = false) (h3 : flB b o = true) : oneF o a b = (a, false) := by
  unfold oneF joinF
  rw [h, h3]
  simp
theorem oneF_no {o a b : Fl} (h : flB a b = false) (h2 : flB a o = false) (h3 : flB b o = false) (h4 : (!a.is || !b.is) = true) : oneF o a b = (o, true) := by
  unfold oneF joinF
  rw [h, h2, h3, h4]
  simp
theorem oneF_merge {o a b : Fl} (h : flB a b = false) (h2 : flB a o = false) (h3 : flB b o = false) (h4 : (!a.is || !b.is) = false) : oneF o a b = if (textM o.data a.data b.data).isSome = true then (⟨true, (textM o.data a.data b.data).getD ⟨#[]⟩⟩, false) else (o, true) := by
  unfold oneF joinF
  rw [h, h2, h3, h4]
  simp only [Bool.or_false, Bool.false_eq_true, if_false]
  cases hq : (textM o.data a.data b.data).isSome <;> simp

theorem gathL_bad_any (m : Mrg) (oth oth' : Fl → Fl) (o a b : List File) (ps : List ByteArray) : (gathL m oth o a b ps).2 = (gathL m oth' o a b ps).2 := by
  refine snocInd (p := fun ps => (gathL m oth o a b ps).2 = (gathL m oth' o a b ps).2) rfl (fun l x ih => ?_) ps
  rw [gathL_snoc, gathL_snoc, stepG_eq, stepG_eq]
  dsimp only
  rw [ih]
theorem came_eq (o a b : List File) : ((gathF textM id o a b).1.filter fun f => !hasB (gathF textM id o a b).2 f.path) = (gathF textM (fun _ => noFl) o a b).1 := by
  refine StrF.ext ((gathF_str textM id o a b).sublist List.filter_sublist) (gathF_str _ _ _ _ _) fun f => ?_
  rw [List.mem_filter]
  unfold gathF
  have hh : (!hasB (gathL textM id o a b (riseT (flatP [o, a, b]))).2 f.path) = true ↔ ¬ (f.path ∈ riseT (flatP [o, a, b]) ∧ (joinF textM (atF o f.path) (atF a f.path) (atF b f.path)).2 = false) := by
    rw [← gathL_two textM id o a b, ← hasB_iff]
    simp
  rw [gathL_mem, gathL_mem, hh]
  unfold resF
  cases hq : (joinF textM (atF o f.path) (atF a f.path) (atF b f.path)).2 with
  | true => simp
  | false =>
    simp only [Bool.false_eq_true, if_false, and_true]
    constructor
    · rintro ⟨⟨h1, _⟩, h2⟩; exact absurd h1 h2
    · rintro ⟨_, h2, _⟩; cases h2
theorem foldl_drop_filter (us : List ByteArray) : ∀ t : List File, us.foldl dropF t = t.filter fun f => !hasB us f.path := by
  induction us with
  | nil =>
    intro t
    exact (List.filter_eq_self.2 fun f _ => rfl).symm
  | cons u us ih =>
    intro t
    rw [List.foldl_cons, ih]
    unfold dropF
    rw [List.filter_filter]
    refine List.filter_congr fun f _ => ?_
    unfold hasB
    rw [List.any_cons]
    rw [show (u.toList == f.path.toList) = (f.path.toList == u.toList) from Bool.beq_comm]
    cases f.path.toList == u.toList <;> simp
theorem virt_eq (t : List File) : (underF t).foldl dropF t = t.filter fun f => !(t.any fun g => underB f.path g.path) := by
  rw [foldl_drop_filter]
  refine List.filter_congr fun f hf => ?_
  congr 1
  rw [Bool.eq_iff_iff, hasB_iff]
  unfold underF
  rw [List.mem_map]
  constructor
  · rintro ⟨g, hg, e⟩
    have h := (List.mem_filter.1 hg).2
    rw [e] at h
    exact h
  · intro h
    exact ⟨f, List.mem_filter.2 ⟨hf, h⟩, rfl⟩

/-! ### Gathered so far -/
def gathK (o a b : List File) (ps : List ByteArray) (k : Nat) : List File × List ByteArray := gathL textM id o a b (ps.take k)
theorem gathK_step (o a b : List File) (ps : List ByteArray) {k : Nat} (hk : k < ps.length) :
    gathK o a b ps (k + 1) = ((gathK o a b ps k).1 ++ (if (oneF (atF o ps[k]) (atF a ps[k]) (atF b ps[k])).1.is = true then [⟨ps[k], (oneF (atF o ps[k]) (atF a ps[k]) (atF b ps[k])).1.data⟩] else []), (gathK o a b ps k).2 ++ (if (oneF (atF o ps[k]) (atF a ps[k]) (atF b ps[k])).2 = true then [ps[k]] else [])) := by
  unfold gathK
  rw [take_snoc ps hk, gathL_snoc, stepG_eq]
  unfold resF oneF
  dsimp only
  cases hq : (joinF textM (atF o ps[k]) (atF a ps[k]) (atF b ps[k])).2 <;> simp
theorem filter_take_step {α : Type} (t : List α) (p : α → Bool) {k : Nat} (hk : k < t.length) : (t.take (k + 1)).filter p = (t.take k).filter p ++ (if p t[k] = true then [t[k]] else []) := by
  rw [take_snoc t hk, List.filter_append]
  congr 1
  by_cases h : p t[k] = true
  · rw [if_pos h, List.filter_cons_of_pos h]; rfl
  · rw [if_neg h, List.filter_cons_of_neg h]; rfl
theorem underF_take_step (t : List File) {k : Nat} (hk : k < t.length) : ((t.take (k + 1)).filter fun f => t.any fun g => underB f.path g.path).map File.path = ((t.take k).filter fun f => t.any fun g => underB f.path g.path).map File.path ++ (if (t.any fun g => underB t[k].path g.path) = true then [t[k].path] else []) := by
  rw [filter_take_step t _ hk, List.map_append]
  congr 1
  split <;> rfl

end Go.Proofs.YtgjbfkaepalkiaaGreatDoor

namespace Go.Proofs.YtgjbfkaepalkiaaGreatDoor
open Go.RowKit
set_option linter.unusedVariables false
set_option linter.unusedSimpArgs false
attribute [local go_sem] Oper.semAt_some

/-- has. -/
theorem refHas_calls (v : Value) (p : ByteArray) (xs : List ByteArray) (S : Fp) (w : World) (hR : Rd ES S w v xs) :
    Calls Tryz.prog 120 #[v, .string p] w fun e w' => e = .returned (.bool (hasB xs p)) ∧ w = w' := by
  obtain ⟨A, c, rfl, hO⟩ := hR.open_
  have hlen := hO.len
  clear hR
  obtain ⟨n, hn⟩ : ∃ n, xs.length = n := ⟨_, rfl⟩
  rw [hn] at hlen ⊢
  have HN := Lib.hid hn
  clear hn
  obtain ⟨q, hq⟩ : ∃ q, hasB xs p = q := ⟨_, rfl⟩
  have HQ := Lib.hid hq
  rw [hq]
  clear hq
  go_enter Tryz.func120, Tryz.ntmps120
  go_wp2_with fail
  go_loopw [5] (fun i wr => ∃ k : Nat, k ≤ n ∧ i = .int .i64 k ∧ (xs.take k).any (fun x => x.toList == p.toList) = false ∧ w = wr) (fun i _ => n - (intOf i).toNat)
  case atStart => exact ⟨0, Nat.zero_le _, rfl, by simp, rfl⟩
  case round =>
    obtain ⟨k, hk, rfl, hno, rfl⟩ := hrel
    have HO := Lib.hid hno
    clear hno
    by_cases hlt : k < n
    · have hd3 : decide ((k : Int) < (n : Int)) = true := decide_eq_true (by omega)
      have hkc : k < xs.length := by have := HN.out; omega
      obtain ⟨b, off, rfl, _, hbl, c0⟩ := hO.rd.text hkc
      obtain ⟨y, hy⟩ : ∃ y, xs[k] = y := ⟨_, rfl⟩
      rw [hy] at c0
      have HS : Hid ((xs.take (k + 1)).any (fun x => x.toList == p.toList) = (y.toList == p.toList)) := Lib.hid (by rw [take_snoc xs hkc, List.any_append, HO.out, hy]; simp)
      have HH : Hid ((y.toList == p.toList) = true → q = true) := Lib.hid fun h => by
        rw [← HQ.out]; exact List.any_eq_true.2 ⟨y, by rw [← hy]; exact List.getElem_mem hkc, h⟩
      have hlt' : (k : Int) < (n : Int) := by omega
      have h0 : (0 : Int) ≤ (k : Int) := by omega
      have hw : IntKind.i64.wrap ((k : Int) + 1) = (k : Int) + 1 := IntWalk.i64_in _ (by omega)
      clear hy HO
      cases he : y.toList == p.toList with
      | true =>
        rw [he] at HS HH
        go_wp2_with fail
        go_ret
        exact ⟨by rw [HH.out (by trivial)]; rfl, rfl⟩
      | false =>
        rw [he] at HS
        clear HH
        go_wp2_with fail
        go_roundw
        case rel => exact ⟨k + 1, by omega, by go_num, HS.out, trivial⟩
        case measure => simp [intOf]; omega
    · have hd3 : decide ((k : Int) < (n : Int)) = false := decide_eq_false (by omega)
      have hres : q = false := by
        have h2 := HO.out
        rw [← HQ.out]
        rw [List.take_of_length_le (by have := HN.out; omega)] at h2
        exact h2
      go_wp2_with fail
      go_ret
      exact ⟨by rw [hres]; rfl, rfl⟩

/-- under. -/
theorem refUnd_calls (v : Value) (p : ByteArray) (xs : List File) (S : Fp) (w : World) (hR : Rd EF S w v xs) (hp : p.size ≤ 1000000) (hz : ∀ y ∈ xs, y.path.size ≤ 1000000) :
    Calls Tryz.prog 97 #[v, .string p] w fun e w' => e = .returned (.bool (xs.any fun g => underB p g.path)) ∧ w = w' := by
  obtain ⟨A, c, rfl, hO⟩ := hR.open_
  have hlen := hO.len
  clear hR
  obtain ⟨n, hn⟩ : ∃ n, xs.length = n := ⟨_, rfl⟩
  rw [hn] at hlen ⊢
  have HN := Lib.hid hn
  have HZ := Lib.hid hz
  have HC := Lib.hid fun q W hq => refUnder_calls p q W hp hq
  clear hn hz hp
  obtain ⟨q, hq⟩ : ∃ q, (xs.any fun g => underB p g.path) = q := ⟨_, rfl⟩
  have HQ := Lib.hid hq
  rw [hq]
  clear hq
  go_enter Tryz.func97, Tryz.ntmps97
  go_wp2_with fail
  go_loopw [5] (fun i wr => ∃ k : Nat, k ≤ n ∧ i = .int .i64 k ∧ Hid ((xs.take k).any (fun g => underB p g.path) = false) ∧ w = wr) (fun i _ => n - (intOf i).toNat)
  case atStart => exact ⟨0, Nat.zero_le _, rfl, Lib.hid rfl, rfl⟩
  case round =>
    obtain ⟨k, hk, rfl, HO, rfl⟩ := hrel
    by_cases hlt : k < n
    · have hd3 : decide ((k : Int) < (n : Int)) = true := decide_eq_true (by omega)
      have hkc : k < xs.length := by have := HN.out; omega
      obtain ⟨b, off, rfl, _, hbl, c0, c1⟩ := hO.rd.file hkc
      obtain ⟨y, hy⟩ : ∃ y, xs[k] = y := ⟨_, rfl⟩
      have hyz := HZ.out xs[k] (List.getElem_mem hkc)
      rw [hy] at c0 c1 hyz
      have HS : Hid ((xs.take (k + 1)).any (fun g => underB p g.path) = underB p y.path) := Lib.hid (by rw [take_snoc xs hkc, List.any_append, HO.out, hy]; simp)
      have HH : Hid (underB p y.path = true → q = true) := Lib.hid fun h => by
        rw [← HQ.out]; exact List.any_eq_true.2 ⟨y, by rw [← hy]; exact List.getElem_mem hkc, h⟩
      have hlt' : (k : Int) < (n : Int) := by omega
      have h0 : (0 : Int) ≤ (k : Int) := by omega
      have hw : IntKind.i64.wrap ((k : Int) + 1) = (k : Int) + 1 := IntWalk.i64_in _ (by omega)
      have HU := Lib.hid fun W => HC.out y.path W hyz
      clear hy HO hyz hkc
      cases he : underB p y.path with
      | true =>
        rw [he] at HS HH HU
        go_wp2_with fail
        refine (HU.out _).mono ?_
        rintro e w1 ⟨rfl, hw1⟩
        subst hw1
        go_wp2_with fail
        go_ret
        exact ⟨by rw [HH.out (by trivial)]; rfl, rfl⟩
      | false =>
        rw [he] at HS HU
        clear HH
        go_wp2_with fail
        refine (HU.out _).mono ?_
        rintro e w1 ⟨rfl, hw1⟩
        subst hw1
        go_wp2_with fail
        go_roundw
        case rel => exact ⟨k + 1, by omega, by go_num, HS, by first | rfl | trivial⟩
        case measure => simp [intOf]; omega
    · have hd3 : decide ((k : Int) < (n : Int)) = false := decide_eq_false (by omega)
      have hres : q = false := by
        have h2 := HO.out
        rw [← HQ.out]
        rw [List.take_of_length_le (by have := HN.out; omega)] at h2
        exact h2
      go_wp2_with fail
      go_ret
      exact ⟨by rw [hres]; rfl, rfl⟩

set_option maxHeartbeats 2000000 in
set_option maxRecDepth 100000 in
/-- one. -/
theorem one9_calls (p : ByteArray) (v1 v2 v3 : Value) (xs ys zs : List File) (S : Fp) (w : World) (hA : Rd EF S w v1 xs) (hB : Rd EF S w v2 ys) (hC : Rd EF S w v3 zs) (h1 : xs.length ≤ 1000000) (h2 : ys.length ≤ 1000000) (h3 : zs.length ≤ 1000000)
    (d1 : (atF xs p).data.size ≤ 400) (d2 : (atF ys p).data.size ≤ 400) (d3 : (atF zs p).data.size ≤ 400) :
    Calls Tryz.prog 139 #[.string p, v1, v2, v3] w fun e w' => e = .returned (.tuple #[.string (oneF (atF xs p) (atF ys p) (atF zs p)).1.data, .bool (oneF (atF xs p) (atF ys p) (atF zs p)).1.is, .bool (oneF (atF xs p) (atF ys p) (atF zs p)).2]) ∧ Ext w w' := by
  have G1 := fun W (hW : Ext w W) => refGet_calls v1 p xs S W (hA.kp (hW.mono fun _ _ _ => trivial)) h1
  have G2 := fun W (hW : Ext w W) => refGet_calls v2 p ys S W (hB.kp (hW.mono fun _ _ _ => trivial)) h2
  have G3 := fun W (hW : Ext w W) => refGet_calls v3 p zs S W (hC.kp (hW.mono fun _ _ _ => trivial)) h3
  have e1 : (getF xs p).isSome = (atF xs p).is ∧ getD xs p = (atF xs p).data := ⟨rfl, rfl⟩
  have e2 : (getF ys p).isSome = (atF ys p).is ∧ getD ys p = (atF ys p).data := ⟨rfl, rfl⟩
  have e3 : (getF zs p).isSome = (atF zs p).is ∧ getD zs p = (atF zs p).data := ⟨rfl, rfl⟩
  rw [e1.1, e1.2] at G1
  rw [e2.1, e2.2] at G2
  rw [e3.1, e3.2] at G3
  obtain ⟨A1, c1, rfl, _⟩ := hA.open_
  obtain ⟨A2, c2, rfl, _⟩ := hB.open_
  obtain ⟨A3, c3, rfl, _⟩ := hC.open_
  clear e1 e2 e3
  generalize xs.length = n1 at *
  generalize ys.length = n2 at *
  generalize zs.length = n3 at *
  generalize atF xs p = o at *
  generalize atF ys p = a at *
  generalize atF zs p = b at *
  have HM := Lib.hid fun W => merge6_calls o.data a.data b.data d1 d2 d3 W
  have HR : Hid ((flB a b = true → oneF o a b = (a, false)) ∧ (flB a b = false → flB a o = true → oneF o a b = (b, false)) ∧ (flB a b = false → flB a o = false → flB b o = true → oneF o a b = (a, false)) ∧ (flB a b = false → flB a o = false → flB b o = false → (!a.is || !b.is) = true → oneF o a b = (o, true)) ∧ (flB a b = false → flB a o = false → flB b o = false → (!a.is || !b.is) = false → oneF o a b = if (textM o.data a.data b.data).isSome = true then (⟨true, (textM o.data a.data b.data).getD ⟨#[]⟩⟩, false) else (o, true))) := Lib.hid ⟨oneF_ab, oneF_ao, oneF_bo, oneF_no, oneF_merge⟩
  obtain ⟨oi, od⟩ := o
  obtain ⟨ai, ad⟩ := a
  obtain ⟨bi, bd⟩ := b
  have He1 : Hid (flB ⟨ai, ad⟩ ⟨bi, bd⟩ = ((ai == bi) && (ad.toList == bd.toList))) := Lib.hid rfl
  have He2 : Hid (flB ⟨ai, ad⟩ ⟨oi, od⟩ = ((ai == oi) && (ad.toList == od.toList))) := Lib.hid rfl
  have He3 : Hid (flB ⟨bi, bd⟩ ⟨oi, od⟩ = ((bi == oi) && (bd.toList == od.toList))) := Lib.hid rfl
  generalize flB ⟨ai, ad⟩ ⟨bi, bd⟩ = e1 at *
  generalize flB ⟨ai, ad⟩ ⟨oi, od⟩ = e2 at *
  generalize flB ⟨bi, bd⟩ ⟨oi, od⟩ = e3 at *
  generalize oneF ⟨oi, od⟩ ⟨ai, ad⟩ ⟨bi, bd⟩ = r at *
  dsimp only at HM HR G1 G2 G3
  generalize textM od ad bd = tm at *
  have HG1 := Lib.hid G1
  have HG2 := Lib.hid G2
  have HG3 := Lib.hid G3
  clear hA hB hC G1 G2 G3 d1 d2 d3 h1 h2 h3
  go_enter Tryz.func139, Tryz.ntmps139
  go_wp2_with fail
  refine (HG1.out w (Kp.refl _ _)).mono ?_
  rintro e w1 ⟨rfl, hx⟩
  go_wp2_with fail
  refine (HG2.out w1 hx).mono ?_
  rintro e w2 ⟨rfl, hy⟩
  replace hx := hx.trans hy
  clear hy
  go_wp2_with fail
  refine (HG3.out w2 hx).mono ?_
  rintro e w3 ⟨rfl, hy⟩
  replace hx := hx.trans hy
  clear hy HG1 HG2 HG3
  go_upto_region 4 with fail
  go_cut [37] from 38 to 45 (fun c wx => c = .bool e1 ∧ wx = w3)
  case first =>
    cases q1 : (ai == bi) with
    | false =>
      have hb : e1 = false := by rw [He1.out, q1]; rfl
      go_wp2_with fail
      go_meet
      case rel => exact ⟨by rw [hb]; try rfl, rfl⟩
    | true =>
      cases q2 : (ad.toList == bd.toList) with
      | false =>
        have hb : e1 = false := by rw [He1.out, q1, q2]; rfl
        go_wp2_with fail
        go_meet
        case rel => exact ⟨by rw [hb]; try rfl, rfl⟩
      | true =>
        have hb : e1 = true := by rw [He1.out, q1, q2]; rfl
        go_wp2_with fail
        go_meet
        case rel => exact ⟨by rw [hb]; try rfl, rfl⟩
  case rest =>
    obtain ⟨hcc, hww⟩ := hcut
    subst hcc hww
    rename World => w3
    cases e1 with
    | true =>
      have hr : r = (⟨ai, ad⟩, false) := HR.out.1 (by trivial)
      subst hr
      clear HR HM
      go_wp2_with fail
      go_returns
      exact ⟨rfl, hx⟩
    | false =>
      go_upto_region 6 with fail
      go_cut [48] from 49 to 56 (fun c wx => c = .bool e2 ∧ wx = w3)
      case first =>
        cases q1 : (ai == oi) with
        | false =>
          have hb : e2 = false := by rw [He2.out, q1]; rfl
          go_wp2_with fail
          go_meet
          case rel => exact ⟨by rw [hb]; try rfl, rfl⟩
        | true =>
          cases q2 : (ad.toList == od.toList) with
          | false =>
            have hb : e2 = false := by rw [He2.out, q1, q2]; rfl
            go_wp2_with fail
            go_meet
            case rel => exact ⟨by rw [hb]; try rfl, rfl⟩
          | true =>
            have hb : e2 = true := by rw [He2.out, q1, q2]; rfl
            go_wp2_with fail
            go_meet
            case rel => exact ⟨by rw [hb]; try rfl, rfl⟩
      case rest =>
        obtain ⟨hcc, hww⟩ := hcut
        subst hcc hww
        rename World => w3
        cases e2 with
        | true =>
          have hr : r = (⟨bi, bd⟩, false) := HR.out.2.1 (by trivial) (by trivial)
          subst hr
          clear HR HM
          go_wp2_with fail
          go_returns
          exact ⟨rfl, hx⟩
        | false =>
          go_upto_region 8 with fail
          go_cut [59] from 60 to 67 (fun c wx => c = .bool e3 ∧ wx = w3)
          case first =>
            cases q1 : (bi == oi) with
            | false =>
              have hb : e3 = false := by rw [He3.out, q1]; rfl
              go_wp2_with fail
              go_meet
              case rel => exact ⟨by rw [hb]; try rfl, rfl⟩
            | true =>
              cases q2 : (bd.toList == od.toList) with
              | false =>
                have hb : e3 = false := by rw [He3.out, q1, q2]; rfl
                go_wp2_with fail
                go_meet
                case rel => exact ⟨by rw [hb]; try rfl, rfl⟩
              | true =>
                have hb : e3 = true := by rw [He3.out, q1, q2]; rfl
                go_wp2_with fail
                go_meet
                case rel => exact ⟨by rw [hb]; try rfl, rfl⟩
          case rest =>
            obtain ⟨hcc, hww⟩ := hcut
            subst hcc hww
            rename World => w3
            cases e3 with
            | true =>
              have hr : r = (⟨ai, ad⟩, false) := HR.out.2.2.1 (by trivial) (by trivial) (by trivial)
              subst hr
              clear HR HM
              go_wp2_with fail
              go_returns
              exact ⟨rfl, hx⟩
            | false =>
              cases ai with
              | false =>
                have hr : r = (⟨oi, od⟩, true) := HR.out.2.2.2.1 (by trivial) (by trivial) (by trivial) (by trivial)
                subst hr
                clear HR HM
                go_wp2_with fail
                go_returns
                exact ⟨rfl, hx⟩
              | true =>
                cases bi with
                | false =>
                  have hr : r = (⟨oi, od⟩, true) := HR.out.2.2.2.1 (by trivial) (by trivial) (by trivial) (by trivial)
                  subst hr
                  clear HR HM
                  go_wp2_with fail
                  go_returns
                  exact ⟨rfl, hx⟩
                | true =>
                  have HR5 := Lib.hid (HR.out.2.2.2.2 (by trivial) (by trivial) (by trivial) (by trivial))
                  clear HR
                  go_wp2_with fail
                  refine (HM.out _).mono ?_
                  rintro e w4 ⟨rfl, hy⟩
                  replace hx := hx.trans hy
                  cases tm with
                  | none =>
                    have hr : r = (⟨oi, od⟩, true) := HR5.out
                    subst hr
                    clear HR5 HM hy
                    go_wp2_with fail
                    go_returns
                    exact ⟨rfl, hx⟩
                  | some d =>
                    have hr : r = (⟨true, d⟩, false) := HR5.out
                    subst hr
                    clear HR5 HM hy
                    go_wp2_with fail
                    go_returns
                    exact ⟨rfl, hx⟩

end Go.Proofs.YtgjbfkaepalkiaaGreatDoor

namespace Go.Proofs.YtgjbfkaepalkiaaGreatDoor
open Go.RowKit
set_option linter.unusedVariables false
set_option linter.unusedSimpArgs false
attribute [local go_sem] Oper.semAt_some

theorem gathK_len (o a b : List File) (ps : List ByteArray) (k : Nat) : (gathK o a b ps k).1.length ≤ k ∧ (gathK o a b ps k).2.length ≤ k := by
  unfold gathK
  have h := gathL_len textM id o a b (ps.take k)
  rw [List.length_take] at h
  omega

set_option maxHeartbeats 2000000 in
set_option maxRecDepth 100000 in
/-- all. -/
theorem all9_calls (v1 v2 v3 : Value) (xs ys zs : List File) (S : Fp) (w : World) (hA : Rd EF S w v1 xs) (hB : Rd EF S w v2 ys) (hC : Rd EF S w v3 zs) (h1 : xs.length ≤ 1000) (h2 : ys.length ≤ 1000) (h3 : zs.length ≤ 1000)
    (d1 : ∀ p, (atF xs p).data.size ≤ 400) (d2 : ∀ p, (atF ys p).data.size ≤ 400) (d3 : ∀ p, (atF zs p).data.size ≤ 400) :
    Calls Tryz.prog 96 #[v1, v2, v3] w fun e w' => ∃ r s, e = .returned (.tuple #[r, s]) ∧ New EF 39 w.heap.size w' r (gathF textM id xs ys zs).1 ∧ New ES 9 w.heap.size w' s (gathF textM id xs ys zs).2 ∧ (∀ g, r.ownBlock = some g → s.ownBlock ≠ some g) ∧ Ext w w' := by
  have hOne := fun p W (hW : Ext w W) => one9_calls p v1 v2 v3 xs ys zs S W (hA.kp (hW.mono fun _ _ _ => trivial)) (hB.kp (hW.mono fun _ _ _ => trivial)) (hC.kp (hW.mono fun _ _ _ => trivial)) (by omega) (by omega) (by omega) (d1 p) (d2 p) (d3 p)
  have hsum : sumL [xs, ys, zs] ≤ 100000 := by simp only [sumL, List.flatten_cons, List.flatten_nil, List.append_nil, List.length_append]; omega
  have hflen : (flatP [xs, ys, zs]).length ≤ 3000 := by
    unfold flatP
    simp only [List.length_map, List.flatten_cons, List.flatten_nil, List.append_nil, List.length_append]; omega
  have hpl : (riseT (flatP [xs, ys, zs])).length ≤ 3000 := Nat.le_trans (riseT_length _) hflen
  obtain ⟨A1, c1, rfl, _⟩ := hA.open_
  obtain ⟨A2, c2, rfl, _⟩ := hB.open_
  obtain ⟨A3, c3, rfl, _⟩ := hC.open_
  obtain ⟨n1, hn1⟩ : ∃ n, xs.length = n := ⟨_, rfl⟩
  obtain ⟨n2, hn2⟩ : ∃ n, ys.length = n := ⟨_, rfl⟩
  obtain ⟨n3, hn3⟩ : ∃ n, zs.length = n := ⟨_, rfl⟩
  rw [hn1] at hA
  rw [hn2] at hB
  rw [hn3] at hC
  rw [hn1, hn2, hn3] at hOne ⊢
  have HP := Lib.hid (refPaths_calls _ _ _ _ _ ((built3 w 30 ⟨A1, n1, c1⟩ ⟨A2, n2, c2⟩ ⟨A3, n3, c3⟩).wide fun _ _ => trivial)
    (.cons ((hA.kp (((Kp.refl _ w).alloc _).mono fun _ _ _ => trivial : Kp S w _)).wide fun _ _ => trivial) (.cons ((hB.kp (((Kp.refl _ w).alloc _).mono fun _ _ _ => trivial : Kp S w _)).wide fun _ _ => trivial) (.cons ((hC.kp (((Kp.refl _ w).alloc _).mono fun _ _ _ => trivial : Kp S w _)).wide fun _ _ => trivial) .nil)) : RdAll (fun _ => True) (w.alloc (.cells #[.slice A1 n1 c1, .slice A2 n2 c2, .slice A3 n3 c3] 30)) [⟨A1, n1, c1⟩, ⟨A2, n2, c2⟩, ⟨A3, n3, c3⟩] [xs, ys, zs]) hsum)
  have HO := Lib.hid hOne
  obtain ⟨ps, hps⟩ : ∃ p, riseT (flatP [xs, ys, zs]) = p := ⟨_, rfl⟩
  have HPS : Hid (gathF textM id xs ys zs = gathL textM id xs ys zs ps) := Lib.hid (by unfold gathF; rw [hps])
  rw [hps] at HP hpl
  clear hA hB hC hOne hsum hflen d1 d2 d3 h1 h2 h3 hn1 hn2 hn3 hps
  go_enter Tryz.func96, Tryz.ntmps96
  go_wp2_with (go_at_call 138; refine stop ?_)
  refine HP.out.mono ?_
  clear HP
  rintro e w1 ⟨r1, rfl, hN1, hx1'⟩
  have hx1 : Ext w w1 := ((Kp.refl _ w).alloc _).trans hx1'
  obtain ⟨A, c, hr1, hO⟩ := hN1.rd.open_
  subst hr1
  obtain ⟨n, hn⟩ : ∃ n, ps.length = n := ⟨_, rfl⟩
  rw [hn] at hpl ⊢
  have HN := Lib.hid hn
  have HOP := Lib.hid fun W (hW : Ext w1 W) => hO.kp (hW.mono fun _ _ _ => trivial)
  clear hx1' hn hN1 hO
  go_wp2_with fail
  go_loopw [8, 9, 11] (fun o q i wr => ∃ k : Nat, k ≤ n ∧ i = .int .i64 k ∧ Two EF 39 ES 9 w1.heap.size wr o (gathK xs ys zs ps k).1 q (gathK xs ys zs ps k).2 ∧ Ext w1 wr) (fun _ _ i _ => n - (intOf i).toNat)
  case atStart => exact ⟨0, Nat.zero_le _, rfl, ⟨New.nil _ _ _, New.nil _ _ _, fun g h => by cases h⟩, Kp.refl _ _⟩
  case round =>
    obtain ⟨k, hk, rfl, hT, hx⟩ := hrel
    rename World => wo
    by_cases hlt : k < n
    · have hd : decide ((k : Int) < (n : Int)) = true := decide_eq_true (by omega)
      have hkp : k < ps.length := by have := HN.out; omega
      obtain ⟨b, off, hAe, _, hb, c1⟩ := (HOP.out w1 (Kp.refl _ _)).rd.text hkp
      subst hAe
      have HCELL : Hid (∀ W, Ext w1 W → W.cell? ⟨b, off + k, none⟩ = some (.string ps[k])) := Lib.hid fun W hW => (hW.cell (p := ⟨b, off + k, none⟩) hb trivial).trans c1
      have c0 := HCELL.out wo hx
      clear c1
      have hsn := gathK_step xs ys zs ps hkp
      obtain ⟨p, hp⟩ : ∃ p, ps[k] = p := ⟨_, rfl⟩
      rw [hp] at c0 HCELL
      simp only [hp] at hsn
      have hgl := gathK_len xs ys zs ps k
      obtain ⟨gs, hgs⟩ : ∃ gs, gathK xs ys zs ps k = gs := ⟨_, rfl⟩
      rw [hgs] at hT hsn hgl
      have HGL : Hid (gs.1.length ≤ 3000 ∧ gs.2.length ≤ 3000) := Lib.hid ⟨by omega, by omega⟩
      have hOp := HO.out p wo (hx1.trans hx)
      obtain ⟨⟨⟨ri, rd⟩, rc⟩, hr⟩ : ∃ r, oneF (atF xs p) (atF ys p) (atF zs p) = r := ⟨_, rfl⟩
      rw [hr] at hsn hOp
      dsimp only at hsn hOp
      have HSN := Lib.hid hsn
      have HO1 := Lib.hid hOp
      obtain ⟨Ao, no, co, hvo⟩ := hT.a.1.slice
      obtain ⟨Aq, nq, cq, hvq⟩ := hT.b.1.slice
      subst hvo hvq
      have hlt' : (k : Int) < (n : Int) := by omega
      have h0 : (0 : Int) ≤ (k : Int) := by omega
      have hw : IntKind.i64.wrap ((k : Int) + 1) = (k : Int) + 1 := IntWalk.i64_in _ (by omega)
      clear hkp hp hsn hgl hgs hr hOp
      go_wp2_with fail
      refine HO1.out.mono ?_
      rintro e w2 ⟨rfl, hx2⟩
      have hT2 := hT.ext hx2
      have hx12 := hx.trans hx2
      have e0 := HCELL.out w2 hx12
      clear hT hx HO1 c0
      cases ri with
      | true =>
        go_wp2_with (at_builtin; refine stop ?_)
        refine list_append1k (u := .slice (some ⟨w2.heap.size, 0, none⟩) 1 1) tiF ⟨p, rd⟩ rfl rfl rfl hT2.a hx12 rfl rfl rfl (by have := HGL.out; omega) (by have := HGL.out; unfold maxLen; omega) ?_
        intro v' w' hN' hx' hk' hg'
        have hT5 := hT2.fst hN' hk' hg'
        obtain ⟨A2', n2', c2', hv2⟩ := hN'.1.slice
        subst hv2
        cases rc with
        | false =>
          have HT6 : Hid (Two EF 39 ES 9 w1.heap.size w' (.slice A2' n2' c2') (gathK xs ys zs ps (k + 1)).1 (.slice Aq nq cq) (gathK xs ys zs ps (k + 1)).2) := Lib.hid (by rw [HSN.out]; simpa using hT5)
          clear hT2 hx12 hN' hk' hg' hT5 e0
          go_wp2_with fail
          go_roundw
          case rel => exact ⟨k + 1, by omega, by go_num, HT6.out, hx'⟩
          case measure => simp [intOf]; omega
        | true =>
          have e1 := HCELL.out w' hx'
          clear hT2 hx12 hN' hk' hg' e0
          go_wp2_with (at_builtin; refine stop ?_)
          refine list_append1k (u := .slice (some ⟨w'.heap.size, 0, none⟩) 1 1) tiS p rfl rfl rfl hT5.b hx' rfl rfl rfl (by have := HGL.out; omega) (by have := HGL.out; unfold maxLen; omega) ?_
          intro v3 w3 hN3 hx3 hk3 hg3
          have hT6 := hT5.snd hN3 hk3 hg3
          have HT6 : Hid (Two EF 39 ES 9 w1.heap.size w3 (.slice A2' n2' c2') (gathK xs ys zs ps (k + 1)).1 v3 (gathK xs ys zs ps (k + 1)).2) := Lib.hid (by rw [HSN.out]; simpa using hT6)
          clear hT5 hx' hN3 hk3 hg3 e1 hT6
          go_wp2_with fail
          go_roundw
          case rel => exact ⟨k + 1, by omega, by go_num, HT6.out, hx3⟩
          case measure => simp [intOf]; omega
      | false =>
        cases rc with
        | false =>
          have HT6 : Hid (Two EF 39 ES 9 w1.heap.size w2 (.slice Ao no co) (gathK xs ys zs ps (k + 1)).1 (.slice Aq nq cq) (gathK xs ys zs ps (k + 1)).2) := Lib.hid (by rw [HSN.out]; simpa using hT2)
          clear hT2 e0
          go_wp2_with fail
          go_roundw
          case rel => exact ⟨k + 1, by omega, by go_num, HT6.out, hx12⟩
          case measure => simp [intOf]; omega
        | true =>
          go_wp2_with (at_builtin; refine stop ?_)
          refine list_append1k (u := .slice (some ⟨w2.heap.size, 0, none⟩) 1 1) tiS p rfl rfl rfl hT2.b hx12 rfl rfl rfl (by have := HGL.out; omega) (by have := HGL.out; unfold maxLen; omega) ?_
          intro v3 w3 hN3 hx3 hk3 hg3
          have hT6 := hT2.snd hN3 hk3 hg3
          have HT6 : Hid (Two EF 39 ES 9 w1.heap.size w3 (.slice Ao no co) (gathK xs ys zs ps (k + 1)).1 v3 (gathK xs ys zs ps (k + 1)).2) := Lib.hid (by rw [HSN.out]; simpa using hT6)
          clear hT2 hx12 hN3 hk3 hg3 e0 hT6
          go_wp2_with fail
          go_roundw
          case rel => exact ⟨k + 1, by omega, by go_num, HT6.out, hx3⟩
          case measure => simp [intOf]; omega
    · have hd : decide ((k : Int) < (n : Int)) = false := decide_eq_false (by omega)
      have hd2 : decide (k < n) = false := decide_eq_false hlt
      have HF : Hid (gathK xs ys zs ps k = gathF textM id xs ys zs) := Lib.hid (by rw [HPS.out]; unfold gathK; rw [List.take_of_length_le (by have := HN.out; omega)])
      rw [HF.out] at hT
      go_wp2_with fail
      go_returns
      exact ⟨_, _, rfl, hT.a.less hx1.size, hT.b.less hx1.size, hT.ap, hx1.trans hx⟩

end Go.Proofs.YtgjbfkaepalkiaaGreatDoor

namespace Go.Proofs.YtgjbfkaepalkiaaGreatDoor
open Go.RowKit
set_option linter.unusedVariables false
set_option linter.unusedSimpArgs false
attribute [local go_sem] Oper.semAt_some

theorem filter_len {α : Type} (p : α → Bool) (l : List α) (k : Nat) : ((l.take k).filter p).length ≤ k := by
  have h := List.length_filter_le p (l.take k)
  rw [List.length_take] at h
  omega
theorem one_or_none {α : Type} (c : Bool) (x : α) (l : List α) : l ++ (if c = true then [x] else []) = if c = true then l ++ [x] else l := by
  cases c <;> simp

set_option maxHeartbeats 4000000 in
set_option maxRecDepth 100000 in
/-- Of. -/
theorem refOf_calls (v1 v2 v3 : Value) (xs ys zs : List File) (S : Fp) (w : World) (hA : Rd EF S w v1 xs) (hB : Rd EF S w v2 ys) (hC : Rd EF S w v3 zs) (h1 : xs.length ≤ 1000) (h2 : ys.length ≤ 1000) (h3 : zs.length ≤ 1000)
    (p1 : ∀ y ∈ xs, y.path.size ≤ 1000000) (p2 : ∀ y ∈ ys, y.path.size ≤ 1000000) (p3 : ∀ y ∈ zs, y.path.size ≤ 1000000) :
    Calls Tryz.prog 73 #[v1, v2, v3] w (JoinPost w (joinOf textM xs ys zs).1 (joinOf textM xs ys zs).2) := by
  have M1 := fun W (hW : Ext w W) => refMay_calls v1 xs S W (hA.kp (hW.mono fun _ _ _ => trivial)) p1
  have M2 := fun W (hW : Ext w W) => refMay_calls v2 ys S W (hB.kp (hW.mono fun _ _ _ => trivial)) p2
  have M3 := fun W (hW : Ext w W) => refMay_calls v3 zs S W (hC.kp (hW.mono fun _ _ _ => trivial)) p3
  have hAll := fun W (hW : Ext w W) (hm : may3 xs ys zs = true) => all9_calls v1 v2 v3 xs ys zs S W (hA.kp (hW.mono fun _ _ _ => trivial)) (hB.kp (hW.mono fun _ _ _ => trivial)) (hC.kp (hW.mono fun _ _ _ => trivial)) h1 h2 h3
    (fun p => atF_data ((may3_iff _ _ _).1 hm).1 p) (fun p => atF_data ((may3_iff _ _ _).1 hm).2.1 p) (fun p => atF_data ((may3_iff _ _ _).1 hm).2.2 p)
  have hJt := @joinOf_true textM xs ys zs
  have hJf := @joinOf_false textM xs ys zs
  have hm3 : may3 xs ys zs = (mayB xs && (mayB ys && mayB zs)) := rfl
  have hce := came_eq xs ys zs
  have hbe : (gathF textM id xs ys zs).2 = (gathF textM (fun _ => noFl) xs ys zs).2 := gathL_bad_any _ _ _ _ _ _ _
  have hgl := gathF_len textM id xs ys zs h1 h2 h3
  have hps := gathF_size textM id p1 p2 p3
  obtain ⟨A1, c1, rfl, _⟩ := hA.open_
  obtain ⟨A2, c2, rfl, _⟩ := hB.open_
  obtain ⟨A3, c3, rfl, _⟩ := hC.open_
  generalize xs.length = n1 at *
  generalize ys.length = n2 at *
  generalize zs.length = n3 at *
  generalize gathF textM (fun _ => noFl) xs ys zs = g at *
  generalize gathF textM id xs ys zs = gi at *
  generalize joinOf textM xs ys zs = jr at *
  generalize may3 xs ys zs = q at *
  generalize mayB xs = q1 at *
  generalize mayB ys = q2 at *
  generalize mayB zs = q3 at *
  have HM1 := Lib.hid M1
  have HM2 := Lib.hid M2
  have HM3 := Lib.hid M3
  have HALL := Lib.hid hAll
  have HJt := Lib.hid hJt
  have HJf := Lib.hid hJf
  have HQ := Lib.hid hm3
  have HCE := Lib.hid hce
  have HBE := Lib.hid hbe
  have HGL := Lib.hid hgl
  have HPS := Lib.hid hps
  clear hA hB hC M1 M2 M3 hAll hJt hJf hm3 hce hbe hgl hps p1 p2 p3 h1 h2 h3
  go_enter Tryz.func73, Tryz.ntmps73
  go_wp2_with fail
  refine (HM1.out w (Kp.refl _ _)).mono ?_
  rintro e w1 ⟨rfl, hx⟩
  cases q1 with
  | false =>
    have hq : q = false := HQ.out
    subst hq
    have HJ := Lib.hid (HJf.out (by trivial))
    clear HM2 HM3 HALL HJt HJf HCE HBE HGL HPS HQ
    go_wp2_with fail
    go_returns
    rw [HJ.out]
    exact ⟨_, _, rfl, New.nil _ _ _, ((New.made (E := ES) w1 9 [bQ] (by simp [maxLen])).less hx.size), hx.alloc _⟩
  | true =>
    go_wp2_with fail
    refine (HM2.out w1 hx).mono ?_
    rintro e w2 ⟨rfl, hy⟩
    replace hx := hx.trans hy
    clear hy
    cases q2 with
    | false =>
      have hq : q = false := HQ.out
      subst hq
      have HJ := Lib.hid (HJf.out (by trivial))
      clear HM1 HM3 HALL HJt HJf HCE HBE HGL HPS HQ
      go_wp2_with fail
      go_returns
      rw [HJ.out]
      exact ⟨_, _, rfl, New.nil _ _ _, ((New.made (E := ES) w2 9 [bQ] (by simp [maxLen])).less hx.size), hx.alloc _⟩
    | true =>
      go_wp2_with fail
      refine (HM3.out w2 hx).mono ?_
      rintro e w3 ⟨rfl, hy⟩
      replace hx := hx.trans hy
      clear hy
      cases q3 with
      | false =>
        have hq : q = false := HQ.out
        subst hq
        have HJ := Lib.hid (HJf.out (by trivial))
        clear HM1 HM2 HALL HJt HJf HCE HBE HGL HPS HQ
        go_wp2_with fail
        go_returns
        rw [HJ.out]
        exact ⟨_, _, rfl, New.nil _ _ _, ((New.made (E := ES) w3 9 [bQ] (by simp [maxLen])).less hx.size), hx.alloc _⟩
      | true =>
        have hq : q = true := HQ.out
        subst hq
        have HJ := Lib.hid (HJt.out (by trivial))
        go_wp2_with fail
        refine (HALL.out w3 hx (by trivial)).mono ?_
        clear HM1 HM2 HM3 HALL HJt HJf HQ
        rintro e w4 ⟨r, s, rfl, hNr, hNs, hap, hy⟩
        have hx04 := hx.trans hy
        have hx34 := hy
        have HW3 := Lib.hid hx
        clear hy hx
        obtain ⟨gt, gb⟩ := gi
        dsimp only at hNr hNs HCE HBE HGL HPS
        obtain ⟨Ar, cr, hr, hOr⟩ := hNr.rd.open_
        subst hr
        obtain ⟨As, cs, hs⟩ := hNs.sl
        subst hs
        have hRs := hNs.rd
        obtain ⟨nt, hnt⟩ : ∃ n, gt.length = n := ⟨_, rfl⟩
        obtain ⟨nb, hnb⟩ : ∃ n, gb.length = n := ⟨_, rfl⟩
        rw [hnt] at HGL ⊢
        rw [hnb] at HGL hRs hNs ⊢
        have HNT := Lib.hid hnt
        have HNB := Lib.hid hnb
        have HR := Lib.hid fun W (hW : Ext w4 W) => hOr.kp (hW.mono fun _ _ _ => trivial)
        have HHAS := Lib.hid fun p W (hW : Ext w4 W) => refHas_calls _ p gb _ W (hRs.kp (hW.mono fun _ _ _ => trivial))
        have hNsl : Hid (∀ g, Value.ownBlock (.slice As nb cs) = some g → w3.heap.size ≤ g ∧ g < w4.heap.size) := Lib.hid fun g hg => ⟨hNs.2 g hg, hNs.1.lt hg⟩
        have HNS := Lib.hid hNs
        clear hNr hOr hRs hnt hnb hap hNs
        go_wp2_with fail
        go_loopw [10, 11] (fun o i wr => ∃ k : Nat, k ≤ nt ∧ i = .int .i64 k ∧ New EF 39 w4.heap.size wr o ((gt.take k).filter fun f => !hasB gb f.path) ∧ Ext w4 wr) (fun _ i _ => nt - (intOf i).toNat)
        case atStart => exact ⟨0, Nat.zero_le _, rfl, New.nil _ _ _, Kp.refl _ _⟩
        case round =>
          obtain ⟨k, hk, rfl, hN, hx⟩ := hrel
          rename World => wo
          obtain ⟨Ao, no, co, hvo⟩ := hN.1.slice
          subst hvo
          by_cases hlt : k < nt
          · have hd : decide ((k : Int) < (nt : Int)) = true := decide_eq_true (by omega)
            have hkp : k < gt.length := by have := HNT.out; omega
            obtain ⟨b, off, rfl, _, hb, c0, c1⟩ := (HR.out wo hx).rd.file hkp
            have hst := filter_take_step gt (fun f => !hasB gb f.path) hkp
            have hfl := filter_len (fun f : File => !hasB gb f.path) gt k
            obtain ⟨f, hf⟩ : ∃ f, gt[k] = f := ⟨_, rfl⟩
            rw [hf] at c0 c1 hst
            obtain ⟨fp, fd⟩ := f
            dsimp only at c0 c1 hst
            have HC := Lib.hid (HHAS.out fp wo hx)
            obtain ⟨cur, hcur⟩ : ∃ l, ((gt.take k).filter fun f => !hasB gb f.path) = l := ⟨_, rfl⟩
            rw [hcur] at hN hst hfl
            have HL : Hid (cur.length ≤ 3000) := Lib.hid (by have := HGL.out; omega)
            have hlt' : (k : Int) < (nt : Int) := by omega
            have h0 : (0 : Int) ≤ (k : Int) := by omega
            have hw : IntKind.i64.wrap ((k : Int) + 1) = (k : Int) + 1 := IntWalk.i64_in _ (by have := HGL.out; omega)
            obtain ⟨hh, hhh⟩ : ∃ q, hasB gb fp = q := ⟨_, rfl⟩
            rw [hhh] at HC hst
            have HST := Lib.hid hst
            clear hkp hf hst hfl hcur hhh
            cases hh with
            | true =>
              have HN2 : Hid (New EF 39 w4.heap.size wo (.slice Ao no co) ((gt.take (k + 1)).filter fun f => !hasB gb f.path)) := Lib.hid (by rw [HST.out]; simpa using hN)
              clear hN HST
              go_wp2_with fail
              refine HC.out.mono ?_
              rintro e w5 ⟨rfl, hw5⟩
              subst hw5
              go_wp2_with fail
              go_roundw
              case rel => exact ⟨k + 1, by omega, by go_num, HN2.out, hx⟩
              case measure => simp [intOf]; omega
            | false =>
              go_wp2_with fail
              refine HC.out.mono ?_
              rintro e w5 ⟨rfl, hw5⟩
              subst hw5
              go_wp2_with (at_builtin; refine stop ?_)
              refine list_append1k (u := .slice (some ⟨wo.heap.size, 0, none⟩) 1 1) tiF ⟨fp, fd⟩ rfl rfl rfl hN hx rfl rfl rfl (by have := HL.out; omega) (by have := HL.out; unfold maxLen; omega) ?_
              intro v' w' hN' hx' hk' hg'
              have HN2 : Hid (New EF 39 w4.heap.size w' v' ((gt.take (k + 1)).filter fun f => !hasB gb f.path)) := Lib.hid (by rw [HST.out]; exact hN')
              clear hN HST hN' hk' hg' c0 c1
              go_wp2_with fail
              go_roundw
              case rel => exact ⟨k + 1, by omega, by go_num, HN2.out, hx'⟩
              case measure => simp [intOf]; omega
          · have hd : decide ((k : Int) < (nt : Int)) = false := decide_eq_false (by omega)
            have hd2 : decide (k < nt) = false := decide_eq_false hlt
            rw [List.take_of_length_le (by have := HNT.out; omega), HCE.out] at hN
            have hno : no = g.1.length := by obtain ⟨_, _, h, _⟩ := hN.1.rd; injection h
            subst hno
            have hT : Two EF 39 ES 9 w3.heap.size wo (.slice Ao g.1.length co) g.1 (.slice As nb cs) gb := ⟨hN.less hx34.size, HNS.out.ext hx, fun g h1 h2 => by have := hN.2 g h1; have := (hNsl.out g h2).2; omega⟩
            have hx3 : Ext w3 wo := hx34.trans hx
            have HG1 : Hid (g.1.length ≤ 3000) := Lib.hid (by rw [← HCE.out]; have h := List.length_filter_le (fun f : File => !hasB gb f.path) gt; have := HGL.out.1; have := HNT.out; omega)
            have HPZ : Hid (∀ y ∈ g.1, y.path.size ≤ 1000000) := Lib.hid fun y hy => by rw [← HCE.out] at hy; exact HPS.out y (List.mem_filter.1 hy).1
            rw [HBE.out] at hT HNB
            clear hN HNS hNsl HR HHAS hx hd hd2 HCE HBE HPS HNT
            go_wp2_with fail
            rename World => w5
            obtain ⟨ng, hng⟩ : ∃ n, g.1.length = n := ⟨_, rfl⟩
            have HNG := Lib.hid hng
            rw [hng] at HG1 hT ⊢
            clear hng
            go_loopw [9, 12] (fun o i wr => ∃ k : Nat, k ≤ ng ∧ i = .int .i64 k ∧ Two EF 39 ES 9 w3.heap.size wr (.slice Ao ng co) g.1 o (g.2 ++ ((g.1.take k).filter fun f => g.1.any fun y => underB f.path y.path).map File.path) ∧ Ext w3 wr) (fun _ i _ => ng - (intOf i).toNat)
            case atStart => exact ⟨0, Nat.zero_le _, rfl, by simpa using hT, hx3⟩
            case round =>
              obtain ⟨k, hk, rfl, hT, hx3⟩ := hrel
              rename World => wo
              obtain ⟨Aq, nq, cq, hvq⟩ := hT.b.1.slice
              subst hvq
              by_cases hlt : k < ng
              · have hd : decide ((k : Int) < (ng : Int)) = true := decide_eq_true (by omega)
                have hkp : k < g.1.length := by have := HNG.out; omega
                obtain ⟨A', c', hv', hO'⟩ := hT.a.rd.open_
                obtain ⟨b, off, hAo, _, hb, c0, c1⟩ := hO'.rd.file hkp
                injection hv' with e1 e3 e2
                clear e3
                subst e1 e2
                subst hAo
                have hst := underF_take_step g.1 hkp
                have hfl := filter_len (fun f : File => g.1.any fun y => underB f.path y.path) g.1 k
                have HU := Lib.hid (refUnd_calls _ (g.1[k]).path g.1 _ wo hT.a.rd (HPZ.out _ (List.getElem_mem hkp)) HPZ.out)
                obtain ⟨f, hf⟩ : ∃ f, g.1[k] = f := ⟨_, rfl⟩
                rw [hf] at c0 c1 hst HU
                obtain ⟨fp, fd⟩ := f
                dsimp only at c0 c1 hst HU
                obtain ⟨cur, hcur⟩ : ∃ l, ((g.1.take k).filter fun f => g.1.any fun y => underB f.path y.path).map File.path = l := ⟨_, rfl⟩
                rw [hcur] at hT hst
                have HL : Hid ((g.2 ++ cur).length ≤ 6000) := Lib.hid (by
                  rw [List.length_append, ← hcur, List.length_map]
                  have := HGL.out.2; have := HNB.out; have := HG1.out; omega)
                have hlt' : (k : Int) < (ng : Int) := by omega
                have h0 : (0 : Int) ≤ (k : Int) := by omega
                have hw : IntKind.i64.wrap ((k : Int) + 1) = (k : Int) + 1 := IntWalk.i64_in _ (by have := HG1.out; omega)
                obtain ⟨hh, hhh⟩ : ∃ q, (g.1.any fun y => underB fp y.path) = q := ⟨_, rfl⟩
                rw [hhh] at HU hst
                have HST := Lib.hid hst
                clear hO' hkp hf hst hfl hcur hhh
                cases hh with
                | false =>
                  have HT2 : Hid (Two EF 39 ES 9 w3.heap.size wo (.slice (some ⟨b, off, none⟩) ng co) g.1 (.slice Aq nq cq) (g.2 ++ ((g.1.take (k + 1)).filter fun f => g.1.any fun y => underB f.path y.path).map File.path)) := Lib.hid (by rw [HST.out]; simpa using hT)
                  clear hT HST
                  go_wp2_with fail
                  refine HU.out.mono ?_
                  rintro e w6 ⟨rfl, hw6⟩
                  subst hw6
                  go_wp2_with fail
                  go_roundw
                  case rel => exact ⟨k + 1, by omega, by go_num, HT2.out, hx3⟩
                  case measure => simp [intOf]; omega
                | true =>
                  go_wp2_with fail
                  refine HU.out.mono ?_
                  rintro e w6 ⟨rfl, hw6⟩
                  subst hw6
                  go_wp2_with (at_builtin; refine stop ?_)
                  refine list_append1k (u := .slice (some ⟨wo.heap.size, 0, none⟩) 1 1) tiS fp rfl rfl rfl hT.b hx3 rfl rfl rfl (by have := HL.out; omega) (by have := HL.out; unfold maxLen; omega) ?_
                  intro v' w' hN' hx' hk' hg'
                  have hT5 := hT.snd hN' hk' hg'
                  have HT2 : Hid (Two EF 39 ES 9 w3.heap.size w' (.slice (some ⟨b, off, none⟩) ng co) g.1 v' (g.2 ++ ((g.1.take (k + 1)).filter fun f => g.1.any fun y => underB f.path y.path).map File.path)) := Lib.hid (by rw [HST.out]; simpa using hT5)
                  clear hT HST hN' hk' hg' c0 c1 hT5 hx3
                  go_wp2_with fail
                  go_roundw
                  case rel => exact ⟨k + 1, by omega, by go_num, HT2.out, hx'⟩
                  case measure => simp [intOf]; omega
              · have hd : decide ((k : Int) < (ng : Int)) = false := decide_eq_false (by omega)
                have hd2 : decide (k < ng) = false := decide_eq_false hlt
                rw [List.take_of_length_le (by have := HNG.out; omega)] at hT
                have hul := underF_len g.1
                have hue : (g.1.filter fun f => g.1.any fun y => underB f.path y.path).map File.path = underF g.1 := rfl
                rw [hue] at hT
                have hbl : Hid ((g.2 ++ underF g.1).length ≤ 6000) := Lib.hid (by rw [List.length_append]; have := HGL.out.2; have := HNB.out; have := HG1.out; have := HNG.out; omega)
                have HNW : Hid (w.heap.size ≤ w3.heap.size) := Lib.hid HW3.out.size
                obtain ⟨bd, hbd⟩ : ∃ l, g.2 ++ underF g.1 = l := ⟨_, rfl⟩
                have HBD : Hid (badF' g = bd ++ (if 12 < ng then [bStar] else [])) := Lib.hid (by unfold badF'; rw [hbd, HNG.out])
                rw [hbd] at hT hbl
                clear hbd hul hue hd hd2 HPZ HG1 HGL HNB
                by_cases h12 : 12 < ng
                · have hd12 : decide ((12 : Int) < (ng : Int)) = true := decide_eq_true (by omega)
                  have HB2 : Hid (badF' g = bd ++ [bStar]) := Lib.hid (by rw [HBD.out, if_pos h12])
                  clear HBD
                  have hd : decide ((k : Int) < (ng : Int)) = false := decide_eq_false (by omega)
                  go_wp2_with (at_builtin; refine stop ?_)
                  refine list_append1k (u := .slice (some ⟨wo.heap.size, 0, none⟩) 1 1) tiS bStar rfl rfl rfl hT.b hx3 rfl rfl rfl (by have := hbl.out; omega) (by have := hbl.out; unfold maxLen; omega) ?_
                  intro v5 w6 hN5 hx5 hk5 hg5
                  have hT5 := hT.snd hN5 hk5 hg5
                  have HLB : Hid ((bd ++ [bStar]).length ≤ 6001) := Lib.hid (by have := hbl.out; rw [List.length_append]; simp; omega)
                  have hpos : 0 < (bd ++ [bStar]).length := by rw [List.length_append]; simp
                  clear hT hx3 hN5 hk5 hg5 hd12
                  obtain ⟨bb, hbb⟩ : ∃ l, bd ++ [bStar] = l := ⟨_, rfl⟩
                  rw [hbb] at hT5 HLB HB2 hpos
                  obtain ⟨A5, c5, hv5⟩ := hT5.b.sl
                  subst hv5
                  have hd0 : decide ((0 : Int) < (bb.length : Int)) = true := decide_eq_true (by omega)
                  have HJ2 : Hid (jr = ([], riseT bb)) := Lib.hid (by rw [HJ.out, HB2.out, if_pos hpos])
                  have hRb := hT5.b.rd
                  clear hbb HB2 HJ
                  go_wp2_with fail
                  refine (refRise_calls _ bb _ w6 hRb (by have := HLB.out; omega)).mono ?_
                  rintro e w7 ⟨u7, rfl, hN7, hx7⟩
                  obtain ⟨A7, n7, c7, hv7⟩ := hN7.1.slice
                  subst hv7
                  go_wp2_with fail
                  go_returns
                  rw [HJ2.out]
                  exact ⟨_, _, rfl, New.nil _ _ _, hN7.less (by have := HNW.out; have := hx5.size; omega), (HW3.out.trans hx5).trans hx7⟩
                · have hd12 : decide ((12 : Int) < (ng : Int)) = false := decide_eq_false (by omega)
                  have HB2 : Hid (badF' g = bd) := Lib.hid (by rw [HBD.out, if_neg h12, List.append_nil])
                  have hd : decide ((k : Int) < (ng : Int)) = false := decide_eq_false (by omega)
                  have hs4 : nq = bd.length := by obtain ⟨_, _, h⟩ := hT.b.sl; injection h
                  subst hs4
                  clear HBD
                  by_cases h0 : 0 < bd.length
                  · have hd0 : decide ((0 : Int) < (bd.length : Int)) = true := decide_eq_true (by omega)
                    have HJ2 : Hid (jr = ([], riseT bd)) := Lib.hid (by rw [HJ.out, HB2.out, if_pos h0])
                    have hRb := hT.b.rd
                    clear HB2 HJ
                    go_wp2_with fail
                    refine (refRise_calls _ bd _ wo hRb (by have := hbl.out; omega)).mono ?_
                    rintro e w7 ⟨u7, rfl, hN7, hx7⟩
                    obtain ⟨A7, n7, c7, hv7⟩ := hN7.1.slice
                    subst hv7
                    go_wp2_with fail
                    go_returns
                    rw [HJ2.out]
                    exact ⟨_, _, rfl, New.nil _ _ _, hN7.less (by have := HNW.out; have := hx3.size; omega), (HW3.out.trans hx3).trans hx7⟩
                  · have hd0 : decide ((0 : Int) < (bd.length : Int)) = false := decide_eq_false (by omega)
                    have HJ2 : Hid (jr = (g.1, [])) := Lib.hid (by rw [HJ.out, HB2.out, if_neg h0])
                    have hTa := hT.a.less HNW.out
                    clear HB2 HJ
                    go_wp2_with fail
                    go_returns
                    rw [HJ2.out]
                    exact ⟨_, _, rfl, hTa, New.nil _ _ _, HW3.out.trans hx3⟩

end Go.Proofs.YtgjbfkaepalkiaaGreatDoor

namespace Go.Proofs.YtgjbfkaepalkiaaGreatDoor
open Go.RowKit
set_option linter.unusedVariables false
set_option linter.unusedSimpArgs false
attribute [local go_sem] Oper.semAt_some

theorem take_done {α : Type} (p : α → Bool) (t : List α) (k : Nat) (h : ((t.take k).filter p).length = 12) : (t.filter p).take 12 = (t.take k).filter p := by
  have e : t.filter p = (t.take k).filter p ++ (t.drop k).filter p := by rw [← List.filter_append, List.take_append_drop]
  rw [e, List.take_append_of_le_length (by omega), List.take_of_length_le (by omega)]

set_option maxHeartbeats 4000000 in
set_option maxRecDepth 100000 in
/-- Virtual. -/
theorem refVirt_calls (v1 v2 v3 : Value) (xs ys zs : List File) (S : Fp) (w : World) (hA : Rd EF S w v1 xs) (hB : Rd EF S w v2 ys) (hC : Rd EF S w v3 zs) (h1 : xs.length ≤ 1000) (h2 : ys.length ≤ 1000) (h3 : zs.length ≤ 1000)
    (p1 : ∀ y ∈ xs, y.path.size ≤ 1000000) (p2 : ∀ y ∈ ys, y.path.size ≤ 1000000) (p3 : ∀ y ∈ zs, y.path.size ≤ 1000000) :
    Calls Tryz.prog 61 #[v1, v2, v3] w (VirtPost w (virtOf textM xs ys zs)) := by
  have M1 := fun W (hW : Ext w W) => refMay_calls v1 xs S W (hA.kp (hW.mono fun _ _ _ => trivial)) p1
  have M2 := fun W (hW : Ext w W) => refMay_calls v2 ys S W (hB.kp (hW.mono fun _ _ _ => trivial)) p2
  have M3 := fun W (hW : Ext w W) => refMay_calls v3 zs S W (hC.kp (hW.mono fun _ _ _ => trivial)) p3
  have hAll := fun W (hW : Ext w W) (hm : may3 xs ys zs = true) => all9_calls v1 v2 v3 xs ys zs S W (hA.kp (hW.mono fun _ _ _ => trivial)) (hB.kp (hW.mono fun _ _ _ => trivial)) (hC.kp (hW.mono fun _ _ _ => trivial)) h1 h2 h3
    (fun p => atF_data ((may3_iff _ _ _).1 hm).1 p) (fun p => atF_data ((may3_iff _ _ _).1 hm).2.1 p) (fun p => atF_data ((may3_iff _ _ _).1 hm).2.2 p)
  have hJt := @virtOf_true textM xs ys zs
  have hJf := @virtOf_false textM xs ys zs
  have hm3 : may3 xs ys zs = (mayB xs && (mayB ys && mayB zs)) := rfl
  have hgl := gathF_len textM id xs ys zs h1 h2 h3
  have hps := gathF_size textM id p1 p2 p3
  obtain ⟨A1, c1, rfl, _⟩ := hA.open_
  obtain ⟨A2, c2, rfl, _⟩ := hB.open_
  obtain ⟨A3, c3, rfl, _⟩ := hC.open_
  generalize xs.length = n1 at *
  generalize ys.length = n2 at *
  generalize zs.length = n3 at *
  generalize gathF textM id xs ys zs = gi at *
  generalize virtOf textM xs ys zs = jr at *
  generalize may3 xs ys zs = q at *
  generalize mayB xs = q1 at *
  generalize mayB ys = q2 at *
  generalize mayB zs = q3 at *
  have HM1 := Lib.hid M1
  have HM2 := Lib.hid M2
  have HM3 := Lib.hid M3
  have HALL := Lib.hid hAll
  have HJt := Lib.hid hJt
  have HJf := Lib.hid hJf
  have HQ := Lib.hid hm3
  have HGL := Lib.hid hgl
  have HPS := Lib.hid hps
  clear hA hB hC M1 M2 M3 hAll hJt hJf hm3 hgl hps p1 p2 p3 h1 h2 h3
  go_enter Tryz.func61, Tryz.ntmps61
  go_wp2_with fail
  refine (HM1.out w (Kp.refl _ _)).mono ?_
  rintro e w1 ⟨rfl, hx⟩
  cases q1 with
  | false =>
    have hq : q = false := HQ.out
    subst hq
    have HJ := Lib.hid (HJf.out (by trivial))
    clear HM2 HM3 HALL HJt HJf HGL HPS HQ
    go_wp2_with fail
    go_returns
    rw [HJ.out]
    exact ⟨_, rfl, New.nil _ _ _, hx⟩
  | true =>
    go_wp2_with fail
    refine (HM2.out w1 hx).mono ?_
    rintro e w2 ⟨rfl, hy⟩
    replace hx := hx.trans hy
    clear hy
    cases q2 with
    | false =>
      have hq : q = false := HQ.out
      subst hq
      have HJ := Lib.hid (HJf.out (by trivial))
      clear HM1 HM3 HALL HJt HJf HGL HPS HQ
      go_wp2_with fail
      go_returns
      rw [HJ.out]
      exact ⟨_, rfl, New.nil _ _ _, hx⟩
    | true =>
      go_wp2_with fail
      refine (HM3.out w2 hx).mono ?_
      rintro e w3 ⟨rfl, hy⟩
      replace hx := hx.trans hy
      clear hy
      cases q3 with
      | false =>
        have hq : q = false := HQ.out
        subst hq
        have HJ := Lib.hid (HJf.out (by trivial))
        clear HM1 HM2 HALL HJt HJf HGL HPS HQ
        go_wp2_with fail
        go_returns
        rw [HJ.out]
        exact ⟨_, rfl, New.nil _ _ _, hx⟩
      | true =>
        have hq : q = true := HQ.out
        subst hq
        have HJ := Lib.hid (HJt.out (by trivial))
        go_wp2_with fail
        refine (HALL.out w3 hx (by trivial)).mono ?_
        clear HM1 HM2 HM3 HALL HJt HJf HQ
        rintro e w4 ⟨r, s, rfl, hNr, hNs, hap, hy⟩
        have hx04 := hx.trans hy
        have hx34 := hy
        have HW3 := Lib.hid hx
        clear hy hx
        obtain ⟨gt, gb⟩ := gi
        dsimp only at hNr hNs HGL HPS HJ
        obtain ⟨Ar, cr, hr, hOr⟩ := hNr.rd.open_
        subst hr
        obtain ⟨As, cs, hs⟩ := hNs.sl
        subst hs
        have hRt := hNr.rd
        obtain ⟨nt, hnt⟩ : ∃ n, gt.length = n := ⟨_, rfl⟩
        rw [hnt] at HGL hRt ⊢
        have HNT := Lib.hid hnt
        have HR := Lib.hid fun W (hW : Ext w4 W) => hOr.kp (hW.mono fun _ _ _ => trivial)
        have HUND := Lib.hid fun p W (hW : Ext w4 W) (hp : p.size ≤ 1000000) => refUnd_calls _ p gt _ W (hRt.kp (hW.mono fun _ _ _ => trivial)) hp HPS.out
        have HJ2 : Hid (jr = (gt.filter fun f => !(gt.any fun y => underB f.path y.path)).take 12) := Lib.hid (by rw [HJ.out, virt_eq])
        clear hNr hOr hRt hnt hap hNs HJ
        go_wp2_with fail
        go_loopw [9, 10] (fun o i wr => ∃ k : Nat, k ≤ nt ∧ i = .int .i64 k ∧ New EF 39 w4.heap.size wr o ((gt.take k).filter fun f => !(gt.any fun y => underB f.path y.path)) ∧ Hid (((gt.take k).filter fun f => !(gt.any fun y => underB f.path y.path)).length ≤ 12) ∧ Ext w4 wr) (fun _ i _ => nt - (intOf i).toNat)
        case atStart => exact ⟨0, Nat.zero_le _, rfl, New.nil _ _ _, Lib.hid (Nat.zero_le _), Kp.refl _ _⟩
        case round =>
          obtain ⟨k, hk, rfl, hN, HL, hx⟩ := hrel
          rename World => wo
          obtain ⟨Ao, co, hvo⟩ : ∃ A c, _ = Value.slice A _ c := by obtain ⟨A, c, h, _⟩ := hN.1.rd; exact ⟨A, c, h⟩
          subst hvo
          have hTD := Lib.hid (take_done (fun f : File => !(gt.any fun y => underB f.path y.path)) gt k)
          by_cases hlt : k < nt
          · have hd : decide ((k : Int) < (nt : Int)) = true := decide_eq_true (by omega)
            have hkp : k < gt.length := by have := HNT.out; omega
            obtain ⟨b, off, rfl, _, hb, c0, c1⟩ := (HR.out wo hx).rd.file hkp
            have hst := filter_take_step gt (fun f => !(gt.any fun y => underB f.path y.path)) hkp
            have HC := Lib.hid (HUND.out (gt[k]).path wo hx (HPS.out _ (List.getElem_mem hkp)))
            obtain ⟨f, hf⟩ : ∃ f, gt[k] = f := ⟨_, rfl⟩
            rw [hf] at c0 c1 hst HC
            obtain ⟨fp, fd⟩ := f
            dsimp only at c0 c1 hst HC
            obtain ⟨cur, hcur⟩ : ∃ l, ((gt.take k).filter fun f => !(gt.any fun y => underB f.path y.path)) = l := ⟨_, rfl⟩
            rw [hcur] at hN hst HL hTD ⊢
            obtain ⟨nc, hnc⟩ : ∃ n, cur.length = n := ⟨_, rfl⟩
            rw [hnc] at HL hTD hN ⊢
            have HNC := Lib.hid hnc
            have hlt' : (k : Int) < (nt : Int) := by omega
            have h0 : (0 : Int) ≤ (k : Int) := by omega
            have hw : IntKind.i64.wrap ((k : Int) + 1) = (k : Int) + 1 := IntWalk.i64_in _ (by have := HGL.out; omega)
            obtain ⟨hh, hhh⟩ : ∃ q, (gt.any fun y => underB fp y.path) = q := ⟨_, rfl⟩
            rw [hhh] at HC hst
            have HST := Lib.hid hst
            clear hkp hf hst hcur hhh hnc
            by_cases h12 : nc < 12
            · have g1 : decide ((nc : Int) < 12) = true := decide_eq_true (by omega)
              cases hh with
              | true =>
                have HE : Hid (((gt.take (k + 1)).filter fun f => !(gt.any fun y => underB f.path y.path)) = cur) := Lib.hid (by rw [HST.out]; simp)
                have HN2 : Hid (New EF 39 w4.heap.size wo (.slice Ao nc co) ((gt.take (k + 1)).filter fun f => !(gt.any fun y => underB f.path y.path))) := Lib.hid (by rw [HE.out]; exact hN)
                have HL2 : Hid (((gt.take (k + 1)).filter fun f => !(gt.any fun y => underB f.path y.path)).length ≤ 12) := Lib.hid (by rw [HE.out, HNC.out]; exact HL.out)
                clear hN HST HE
                go_wp2_with fail
                refine HC.out.mono ?_
                rintro e w5 ⟨rfl, hw5⟩
                subst hw5
                go_wp2_with fail
                go_roundw
                case rel => exact ⟨k + 1, by omega, by go_num, HN2.out, HL2, hx⟩
                case measure => simp [intOf]; omega
              | false =>
                have HE : Hid (((gt.take (k + 1)).filter fun f => !(gt.any fun y => underB f.path y.path)) = cur ++ [⟨fp, fd⟩]) := Lib.hid (by rw [HST.out]; simp)
                have HL2 : Hid (((gt.take (k + 1)).filter fun f => !(gt.any fun y => underB f.path y.path)).length ≤ 12) := Lib.hid (by rw [HE.out, List.length_append, HNC.out]; simp; omega)
                clear HST
                go_wp2_with fail
                refine HC.out.mono ?_
                rintro e w5 ⟨rfl, hw5⟩
                subst hw5
                go_wp2_with (at_builtin; refine stop ?_)
                refine list_append1k (u := .slice (some ⟨wo.heap.size, 0, none⟩) 1 1) tiF ⟨fp, fd⟩ rfl rfl rfl hN hx rfl rfl rfl (by have := HNC.out; omega) (by have := HNC.out; unfold maxLen; omega) ?_
                intro v' w' hN' hx' hk' hg'
                have HN2 : Hid (New EF 39 w4.heap.size w' v' ((gt.take (k + 1)).filter fun f => !(gt.any fun y => underB f.path y.path))) := Lib.hid (by rw [HE.out]; exact hN')
                clear hN HE hN' hk' hg' c0 c1
                go_wp2_with fail
                go_roundw
                case rel => exact ⟨k + 1, by omega, by go_num, HN2.out, HL2, hx'⟩
                case measure => simp [intOf]; omega
            · have g1 : decide ((nc : Int) < 12) = false := decide_eq_false (by omega)
              have g2 : ¬ nc < 12 := h12
              have HF : Hid (jr = cur) := Lib.hid (by rw [HJ2.out]; exact hTD.out (by have := HL.out; omega))
              clear HST HC
              go_wp2_with fail
              go_ret
              exact ⟨_, rfl, by rw [HF.out]; exact hN.less hx04.size, hx04.trans hx⟩
          · have hd : decide ((k : Int) < (nt : Int)) = false := decide_eq_false (by omega)
            have hd2 : decide (k < nt) = false := decide_eq_false hlt
            have hall : gt.take k = gt := List.take_of_length_le (by have := HNT.out; omega)
            rw [hall] at hN HL ⊢
            have HF : Hid (jr = gt.filter fun f => !(gt.any fun y => underB f.path y.path)) := Lib.hid (by rw [HJ2.out]; exact List.take_of_length_le HL.out)
            clear hTD hall
            go_wp2_with fail
            go_ret
            exact ⟨_, rfl, by rw [HF.out]; exact hN.less hx04.size, hx04.trans hx⟩

end Go.Proofs.YtgjbfkaepalkiaaGreatDoor
