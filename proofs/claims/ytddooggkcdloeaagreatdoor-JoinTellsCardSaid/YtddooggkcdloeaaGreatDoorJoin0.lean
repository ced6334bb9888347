/-
  join: at, joined, under; plain words for what they answer.
-/
import Derived.Test.YtddooggkcdloeaaGreatDoorMay2
import Derived.Test.YtddooggkcdloeaaGreatDoorGrow
import Derived.Handy
import Derived.Laws.ResultCell
import Derived.Laws.Rows
namespace Go.Proofs.YtddooggkcdloeaaGreatDoor
open Go.RowKit
set_option linter.unusedVariables false
set_option linter.unusedSimpArgs false
attribute [local go_sem] Oper.semAt_some

/-- What stands at a path. -/
structure Fl where
  is : Bool
  data : ByteArray
def Fl.val (x : Fl) : Value := .agg #[.bool x.is, .string x.data]
def atF (t : List File) (p : ByteArray) : Fl := ⟨(getF t p).isSome, getD t p⟩
def flB (x y : Fl) : Bool := (x.is == y.is) && (x.data.toList == y.data.toList)
theorem flB_iff (x y : Fl) : flB x y = true ↔ x = y := by
  unfold flB
  cases x; cases y
  simp only [Bool.and_eq_true, beq_iff_eq, Fl.mk.injEq]
  exact ⟨fun ⟨h1, h2⟩ => ⟨h1, toList_inj h2⟩, fun ⟨h1, h2⟩ => ⟨h1, by rw [h2]⟩⟩
/-- A merge of texts. -/
abbrev Mrg := ByteArray → ByteArray → ByteArray → Option ByteArray
def joinF (m : Mrg) (o a b : Fl) : Fl × Bool :=
  if (flB a b || flB b o) = true then (a, true) else if flB a o = true then (b, true) else if (!a.is || !b.is) = true then (⟨false, ⟨#[]⟩⟩, false)
  else (⟨(m o.data a.data b.data).isSome, (m o.data a.data b.data).getD ⟨#[]⟩⟩, (m o.data a.data b.data).isSome)
/-- Is text.Merge reached? -/
def reachB (o a b : Fl) : Bool := !(flB a b || flB b o) && (!flB a o && !(!a.is || !b.is))
/-- text.Merge at three texts. -/
def MrgAt (m : Mrg) (o a b : ByteArray) : Prop := ∀ W, Calls Tryz.prog 79 #[.string o, .string a, .string b] W fun e W' => e = .returned (.tuple #[.string ((m o a b).getD ⟨#[]⟩), .bool (m o a b).isSome]) ∧ Ext W W'

theorem run_eqIn_fl (x y : Fl) (W : World) : (Op.equalIn 10000 49 (.agg #[.bool x.is, .string x.data]) (.agg #[.bool y.is, .string y.data])).run Tryz.prog W = .ok (flB x y) W := by
  have h1 := Tryz.sizeOf9
  have h2 := Tryz.isAgg9
  have h3 := Tryz.underlying9
  have h4 := Tryz.zeroValue9
  have g1 := Tryz.sizeOf4
  have g2 := Tryz.isAgg4
  have g3 := Tryz.underlying4
  have g4 := Tryz.zeroValue4
  rw [run_equalIn_struct _ _ _ _ _ (by kernel_rfl) (by kernel_rfl), Program.fieldsOf, Tryz.underlying49]
  unfold flB
  cases q1 : x.is == y.is <;> cases q2 : x.data.toList == y.data.toList <;>
    simp [Op.eqFields, go_sem, h1, h2, h3, h4, g1, g2, g3, g4, q1, q2]
theorem run_eql_fl (x y : Fl) (W : World) : (binOp .eql 49 (.agg #[.bool x.is, .string x.data]) (.agg #[.bool y.is, .string y.data])).run Tryz.prog W = .ok (.bool (flB x y)) W := by
  rw [run_eql_struct, run_eqIn_fl]; rfl

/-- join.at. -/
theorem at_calls (v : Value) (p : ByteArray) (xs : List File) (S : Fp) (w : World) (hR : Rd EF S w v xs) (hb : xs.length ≤ 1000000) :
    Calls Tryz.prog 57 #[v, .string p] w fun e w' => e = .returned (.agg #[.bool (atF xs p).is, .string (atF xs p).data]) ∧ Ext w w' := by
  go_enter Tryz.func57, Tryz.ntmps57
  go_wp2_with fail
  refine (get_calls v p xs S _ (hR.kp (Kp.of_ext ((Kp.refl _ w).alloc _))) hb).mono ?_
  rintro e w1 ⟨rfl, hx1⟩
  have hB : Blk w1 w.heap.size 49 #[.bool false, .string ⟨#[]⟩] := (Blk.new w _ _).ext hx1
  have c0 : w1.cell? ⟨w.heap.size, 0, none⟩ = some (.bool false) := hB.cell 0
  have c1 : w1.cell? ⟨w.heap.size, 1, none⟩ = some (.string ⟨#[]⟩) := hB.cell 1
  have f0 := hB.frozen 0
  have f1 := hB.frozen 1
  have hx := ((Kp.refl _ w).alloc (.cells #[.bool false, .string ⟨#[]⟩] 49)).trans hx1
  have hB2 : Blk ((w1.setCell ⟨w.heap.size, 0, none⟩ (.bool (getF xs p).isSome)).setCell ⟨w.heap.size, 1, none⟩ (.string (getD xs p))) w.heap.size 49 #[.bool (getF xs p).isSome, .string (getD xs p)] := (hB.set_ 0 _).set_ 1 _
  clear hB hx1 hR
  go_wp2_with fail
  refine bodyPost_ret (results_cell_row rfl _ _ w.heap.size 49 #[.bool (getF xs p).isSome, .string (getD xs p)] (0, 0) _ (by rfl) hB2 Tryz.underlying49 (by rfl) (by kernel_rfl)) rfl ?_
  exact ⟨rfl, (hx.setCell (.inl (Nat.le_refl _)) _).setCell (.inl (Nat.le_refl _)) _⟩

set_option maxHeartbeats 1000000 in
/-- join.joined. -/
theorem joined_calls (m : Mrg) (o a b : Fl) (w : World) (HM : reachB o a b = true → MrgAt m o.data a.data b.data) :
    Calls Tryz.prog 58 #[.agg #[.bool o.is, .string o.data], .agg #[.bool a.is, .string a.data], .agg #[.bool b.is, .string b.data]] w fun e w' => e = .returned (.tuple #[.agg #[.bool (joinF m o a b).1.is, .string (joinF m o a b).1.data], .bool (joinF m o a b).2]) ∧ Ext w w' := by
  have e1 := run_eql_fl a b
  have e2 := run_eql_fl b o
  have e3 := run_eql_fl a o
  have g1 := fun (x y : Operand) (u v : Fl) (W : World) => run_eqGuard_agg (P := Tryz.prog) W .eql 49 x y #[.bool u.is, .string u.data] #[.bool v.is, .string v.data] (by kernel_rfl)
  have g2 := fun x y => g1 x y a b
  have g3 := fun x y => g1 x y b o
  have g4 := fun x y => g1 x y a o
  clear g1
  have HJ : Hid (joinF m o a b = joinF m o a b) := Lib.hid rfl
  have HR : reachB o a b = (!(flB a b || flB b o) && (!flB a o && !(!a.is || !b.is))) := rfl
  have HD : joinF m o a b = if (flB a b || flB b o) = true then (a, true) else if flB a o = true then (b, true) else if (!a.is || !b.is) = true then (⟨false, ⟨#[]⟩⟩, false) else (⟨(m o.data a.data b.data).isSome, (m o.data a.data b.data).getD ⟨#[]⟩⟩, (m o.data a.data b.data).isSome) := rfl
  obtain ⟨oi, od⟩ := o
  obtain ⟨ai, ad⟩ := a
  obtain ⟨bi, bd⟩ := b
  generalize hj : joinF m ⟨oi, od⟩ ⟨ai, ad⟩ ⟨bi, bd⟩ = jr at HD ⊢
  clear HJ hj
  dsimp only at e1 e2 e3 g2 g3 g4 HM HD HR ⊢
  generalize flB ⟨ai, ad⟩ ⟨bi, bd⟩ = q1 at e1 HD HR
  generalize flB ⟨bi, bd⟩ ⟨oi, od⟩ = q2 at e2 HD HR
  generalize flB ⟨ai, ad⟩ ⟨oi, od⟩ = q3 at e3 HD HR
  rw [HR] at HM
  clear HR
  have hx4 : ∀ x y z u : Obj, Ext w ((((w.alloc x).alloc y).alloc z).alloc u) := fun x y z u => ((((Kp.refl _ w).alloc x).alloc y).alloc z).alloc u
  have HX4 := Lib.hid hx4
  clear hx4
  cases q1 with
  | true =>
    have hjr : jr = (⟨ai, ad⟩, true) := HD
    subst hjr
    clear HM HD
    go_enter Tryz.func58, Tryz.ntmps58
    go_wp2_with fail
    go_returns
    exact ⟨rfl, HX4.out _ _ _ _⟩
  | false =>
    cases q2 with
    | true =>
      have hjr : jr = (⟨ai, ad⟩, true) := HD
      subst hjr
      clear HM HD
      go_enter Tryz.func58, Tryz.ntmps58
      go_wp2_with fail
      go_returns
      exact ⟨rfl, HX4.out _ _ _ _⟩
    | false =>
      cases q3 with
      | true =>
        have hjr : jr = (⟨bi, bd⟩, true) := HD
        subst hjr
        clear HM HD
        go_enter Tryz.func58, Tryz.ntmps58
        go_wp2_with fail
        go_returns
        exact ⟨rfl, HX4.out _ _ _ _⟩
      | false =>
        cases ai with
        | false =>
          have hjr : jr = (⟨false, ⟨#[]⟩⟩, false) := HD
          subst hjr
          clear HM HD
          go_enter Tryz.func58, Tryz.ntmps58
          go_wp2_with fail
          go_returns
          exact ⟨rfl, HX4.out _ _ _ _⟩
        | true =>
          cases bi with
          | false =>
            have hjr : jr = (⟨false, ⟨#[]⟩⟩, false) := HD
            subst hjr
            clear HM HD
            go_enter Tryz.func58, Tryz.ntmps58
            go_wp2_with fail
            go_returns
            exact ⟨rfl, HX4.out _ _ _ _⟩
          | true =>
            have hM := HM rfl
            unfold MrgAt at hM
            have hjr : jr = (⟨(m od ad bd).isSome, (m od ad bd).getD ⟨#[]⟩⟩, (m od ad bd).isSome) := HD
            subst hjr
            clear HM HD
            generalize (m od ad bd).isSome = mi at hM ⊢
            generalize (m od ad bd).getD ⟨#[]⟩ = md at hM ⊢
            have HMM := Lib.hid hM
            clear hM
            go_enter Tryz.func58, Tryz.ntmps58
            go_wp2_with fail
            refine (HMM.out _).mono ?_
            rintro e w5 ⟨rfl, hx5⟩
            have hB : Blk w5 (w.heap.size + 1 + 1 + 1) 49 #[.bool false, .string ⟨#[]⟩] := by
              have h := (Blk.new (((w.alloc (.cells #[.bool oi, .string od] 49)).alloc (.cells #[.bool true, .string ad] 49)).alloc (.cells #[.bool true, .string bd] 49)) 49 #[.bool false, .string ⟨#[]⟩]).ext hx5
              simpa using h
            have c0 : w5.cell? ⟨w.heap.size + 1 + 1 + 1, 0, none⟩ = some (.bool false) := hB.cell 0
            have c1 : w5.cell? ⟨w.heap.size + 1 + 1 + 1, 1, none⟩ = some (.string ⟨#[]⟩) := hB.cell 1
            have f0 := hB.frozen 0
            have f1 := hB.frozen 1
            have hB2 : Blk ((w5.setCell ⟨w.heap.size + 1 + 1 + 1, 0, none⟩ (.bool mi)).setCell ⟨w.heap.size + 1 + 1 + 1, 1, none⟩ (.string md)) (w.heap.size + 1 + 1 + 1) 49 #[.bool mi, .string md] := (hB.set_ 0 _).set_ 1 _
            have hx6 := (HX4.out _ _ _ _).trans hx5
            have hle : w.heap.size ≤ w.heap.size + 1 + 1 + 1 := by omega
            clear hB hx5 e1 e2 e3 g2 g3 g4
            go_wp2_with fail
            refine bodyPost_ret (by rw [results_cell_tmp rfl]; simp only [Array.getD_eq_getD_getElem?]; simp [asAddr]; rw [run_loadVar_row _ _ _ _ _ _ _ hB2 Tryz.underlying49 (by rfl) (by kernel_rfl)]; rfl) rfl ?_
            exact ⟨rfl, (hx6.setCell (.inl hle) _).setCell (.inl hle) _⟩

/-- What stands under another one. -/
def underF (t : List File) : List ByteArray := (t.filter fun f => t.any fun g => underB f.path g.path).map File.path

theorem underJ1_calls (f : File) (g : File) (fb : Nat) (w : World) (hg : g.path.size ≤ 1000000) (hfb : w.cell? ⟨fb, 0, none⟩ = some (.string f.path)) (hl : fb < w.heap.size) :
    Calls Tryz.prog 59 #[.agg #[.string g.path, .string g.data], .pointer (some ⟨fb, 0, none⟩)] w fun e w' => e = .returned (.bool (underB f.path g.path)) ∧ Ext w w' := by
  have hne : fb ≠ w.heap.size := by omega
  have h1 : g.path.size + ByteArray.size ⟨#[47]⟩ ≤ 9223372036854775807 := by
    have : ByteArray.size ⟨#[47]⟩ = 1 := rfl
    omega
  have hadd := fun W => run_string_add_sum (P := Tryz.prog) W g.path ⟨#[47]⟩ h1
  go_enter Tryz.func59, Tryz.ntmps59
  have hh := Tryz.strings_HasPrefix f.path (g.path ++ ⟨#[47]⟩) (w.alloc (.cells #[.string g.path, .string g.data] 40))
  go_wp2_with fail
  refine Calls.mono hh ?_
  rintro e w' ⟨rfl, rfl⟩
  go_wp2_with fail
  go_ret
  exact ⟨rfl, (Kp.refl _ w).alloc _⟩

end Go.Proofs.YtddooggkcdloeaaGreatDoor
