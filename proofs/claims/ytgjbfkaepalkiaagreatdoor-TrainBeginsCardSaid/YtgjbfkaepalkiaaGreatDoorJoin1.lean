/-
  join: at, joined, under; plain words for what they answer. join.under.
-/
import Derived.Test.YtgjbfkaepalkiaaGreatDoorKom
import Derived.Test.YtgjbfkaepalkiaaGreatDoorConcat
import Derived.Handy
import Derived.Laws.ResultCell
import Derived.Laws.Rows
namespace Go.Proofs.YtgjbfkaepalkiaaGreatDoor
open Go.RowKit
set_option linter.unusedVariables false
set_option linter.unusedSimpArgs false
attribute [local go_sem] Oper.semAt_some

/-- What stands at a path. -/
structure Fl where
  is : Bool
  data : ByteArray
def Fl.val (x : Fl) : Value := .agg #[.bool x.is, .string x.data]
def atF (t : List File) (p : ByteArray) : Fl := ⟨(getF t p).isSome, getD t p⟩
def flB (x y : Fl) : Bool := (x.is == y.is) && (x.data.toList == y.data.toList)
theorem flB_iff (x y : Fl) : flB x y = true ↔ x = y := by
  unfold flB
  cases x; cases y
  simp only [Bool.and_eq_true, beq_iff_eq, Fl.mk.injEq]
  exact ⟨fun ⟨h1, h2⟩ => ⟨h1, toList_inj h2⟩, fun ⟨h1, h2⟩ => ⟨h1, by rw [h2]⟩⟩
/-- A merge of texts. -/
abbrev Mrg := ByteArray → ByteArray → ByteArray → Option ByteArray
def joinF (m : Mrg) (o a b : Fl) : Fl × Bool :=
  if (flB a b || flB b o) = true then (a, true) else if flB a o = true then (b, true) else if (!a.is || !b.is) = true then (⟨false, ⟨#[]⟩⟩, false)
  else (⟨(m o.data a.data b.data).isSome, (m o.data a.data b.data).getD ⟨#[]⟩⟩, (m o.data a.data b.data).isSome)
/-- Is text.Merge reached? -/
def reachB (o a b : Fl) : Bool := !(flB a b || flB b o) && (!flB a o && !(!a.is || !b.is))
/-- text.Merge at three texts. -/
def MrgAt (m : Mrg) (o a b : ByteArray) : Prop := ∀ W, Calls Tryz.prog 160 #[.string o, .string a, .string b] W fun e W' => e = .returned (.tuple #[.string ((m o a b).getD ⟨#[]⟩), .bool (m o a b).isSome]) ∧ Ext W W'

theorem run_eqIn_fl (x y : Fl) (W : World) : (Op.equalIn 10000 124 (.agg #[.bool x.is, .string x.data]) (.agg #[.bool y.is, .string y.data])).run Tryz.prog W = .ok (flB x y) W := by
  have h1 := Tryz.sizeOf9
  have h2 := Tryz.isAgg9
  have h3 := Tryz.underlying9
  have h4 := Tryz.zeroValue9
  have g1 := Tryz.sizeOf4
  have g2 := Tryz.isAgg4
  have g3 := Tryz.underlying4
  have g4 := Tryz.zeroValue4
  rw [run_equalIn_struct _ _ _ _ _ (by kernel_rfl) (by kernel_rfl), Program.fieldsOf, Tryz.underlying124]
  unfold flB
  cases q1 : x.is == y.is <;> cases q2 : x.data.toList == y.data.toList <;>
    simp [Op.eqFields, go_sem, h1, h2, h3, h4, g1, g2, g3, g4, q1, q2]
theorem run_eql_fl (x y : Fl) (W : World) : (binOp .eql 124 (.agg #[.bool x.is, .string x.data]) (.agg #[.bool y.is, .string y.data])).run Tryz.prog W = .ok (.bool (flB x y)) W := by
  rw [run_eql_struct, run_eqIn_fl]; rfl

/-- join.at. -/
theorem at_calls (v : Value) (p : ByteArray) (xs : List File) (S : Fp) (w : World) (hR : Rd EF S w v xs) (hb : xs.length ≤ 1000000) :
    Calls Tryz.prog 129 #[v, .string p] w fun e w' => e = .returned (.agg #[.bool (atF xs p).is, .string (atF xs p).data]) ∧ Ext w w' := by
  go_enter Tryz.func129, Tryz.ntmps129
  go_wp2_with fail
  refine (get_calls v p xs S _ (hR.kp (Kp.of_ext ((Kp.refl _ w).alloc _))) hb).mono ?_
  rintro e w1 ⟨rfl, hx1⟩
  have hB : Blk w1 w.heap.size 124 #[.bool false, .string ⟨#[]⟩] := (Blk.new w _ _).ext hx1
  have c0 : w1.cell? ⟨w.heap.size, 0, none⟩ = some (.bool false) := hB.cell 0
  have c1 : w1.cell? ⟨w.heap.size, 1, none⟩ = some (.string ⟨#[]⟩) := hB.cell 1
  have f0 := hB.frozen 0
  have f1 := hB.frozen 1
  have hx := ((Kp.refl _ w).alloc (.cells #[.bool false, .string ⟨#[]⟩] 124)).trans hx1
  have hB2 : Blk ((w1.setCell ⟨w.heap.size, 0, none⟩ (.bool (getF xs p).isSome)).setCell ⟨w.heap.size, 1, none⟩ (.string (getD xs p))) w.heap.size 124 #[.bool (getF xs p).isSome, .string (getD xs p)] := (hB.set_ 0 _).set_ 1 _
  clear hB hx1 hR
  go_wp2_with fail
  refine bodyPost_ret (results_cell_row rfl _ _ w.heap.size 124 #[.bool (getF xs p).isSome, .string (getD xs p)] (0, 0) _ (by rfl) hB2 Tryz.underlying124 (by rfl) (by kernel_rfl)) rfl ?_
  exact ⟨rfl, (hx.setCell (.inl (Nat.le_refl _)) _).setCell (.inl (Nat.le_refl _)) _⟩

set_option maxHeartbeats 1000000 in
/-- join.joined. -/
theorem joined_calls (m : Mrg) (o a b : Fl) (w : World) (HM : reachB o a b = true → MrgAt m o.data a.data b.data) :
    Calls Tryz.prog 130 #[.agg #[.bool o.is, .string o.data], .agg #[.bool a.is, .string a.data], .agg #[.bool b.is, .string b.data]] w fun e w' => e = .returned (.tuple #[.agg #[.bool (joinF m o a b).1.is, .string (joinF m o a b).1.data], .bool (joinF m o a b).2]) ∧ Ext w w' := by
  have e1 := run_eql_fl a b
  have e2 := run_eql_fl b o
  have e3 := run_eql_fl a o
  have g1 := fun (x y : Operand) (u v : Fl) (W : World) => run_eqGuard_agg (P := Tryz.prog) W .eql 124 x y #[.bool u.is, .string u.data] #[.bool v.is, .string v.data] (by kernel_rfl)
  have g2 := fun x y => g1 x y a b
  have g3 := fun x y => g1 x y b o
  have g4 := fun x y => g1 x y a o
  clear g1
  have HJ : Hid (joinF m o a b = joinF m o a b) := Lib.hid rfl
  have HR : reachB o a b = (!(flB a b || flB b o) && (!flB a o && !(!a.is || !b.is))) := rfl
  have HD : joinF m o a b = if (flB a b || flB b o) = true then (a, true) else if flB a o = true then (b, true) else if (!a.is || !b.is) = true then (⟨false, ⟨#[]⟩⟩, false) else (⟨(m o.data a.data b.data).isSome, (m o.data a.data b.data).getD ⟨#[]⟩⟩, (m o.data a.data b.data).isSome) := rfl
  obtain ⟨oi, od⟩ := o
  obtain ⟨ai, ad⟩ := a
  obtain ⟨bi, bd⟩ := b
  generalize hj : joinF m ⟨oi, od⟩ ⟨ai, ad⟩ ⟨bi, bd⟩ = jr at HD ⊢
  clear HJ hj
  dsimp only at e1 e2 e3 g2 g3 g4 HM HD HR ⊢
  generalize flB ⟨ai, ad⟩ ⟨bi, bd⟩ = q1 at e1 HD HR
  generalize flB ⟨bi, bd⟩ ⟨oi, od⟩ = q2 at e2 HD HR
  generalize flB ⟨ai, ad⟩ ⟨oi, od⟩ = q3 at e3 HD HR
  rw [HR] at HM
  clear HR
  have hx4 : ∀ x y z u : Obj, Ext w ((((w.alloc x).alloc y).alloc z).alloc u) := fun x y z u => ((((Kp.refl _ w).alloc x).alloc y).alloc z).alloc u
  have HX4 := Lib.hid hx4
  clear hx4
  cases q1 with
  | true =>
    have hjr : jr = (⟨ai, ad⟩, true) := HD
    subst hjr
    clear HM HD
    go_enter Tryz.func130, Tryz.ntmps130
    go_wp2_with fail
    go_returns
    exact ⟨rfl, HX4.out _ _ _ _⟩
  | false =>
    cases q2 with
    | true =>
      have hjr : jr = (⟨ai, ad⟩, true) := HD
      subst hjr
      clear HM HD
      go_enter Tryz.func130, Tryz.ntmps130
      go_wp2_with fail
      go_returns
      exact ⟨rfl, HX4.out _ _ _ _⟩
    | false =>
      cases q3 with
      | true =>
        have hjr : jr = (⟨bi, bd⟩, true) := HD
        subst hjr
        clear HM HD
        go_enter Tryz.func130, Tryz.ntmps130
        go_wp2_with fail
        go_returns
        exact ⟨rfl, HX4.out _ _ _ _⟩
      | false =>
        cases ai with
        | false =>
          have hjr : jr = (⟨false, ⟨#[]⟩⟩, false) := HD
          subst hjr
          clear HM HD
          go_enter Tryz.func130, Tryz.ntmps130
          go_wp2_with fail
          go_returns
          exact ⟨rfl, HX4.out _ _ _ _⟩
        | true =>
          cases bi with
          | false =>
            have hjr : jr = (⟨false, ⟨#[]⟩⟩, false) := HD
            subst hjr
            clear HM HD
            go_enter Tryz.func130, Tryz.ntmps130
            go_wp2_with fail
            go_returns
            exact ⟨rfl, HX4.out _ _ _ _⟩
          | true =>
            have hM := HM rfl
            unfold MrgAt at hM
            have hjr : jr = (⟨(m od ad bd).isSome, (m od ad bd).getD ⟨#[]⟩⟩, (m od ad bd).isSome) := HD
            subst hjr
            clear HM HD
            generalize (m od ad bd).isSome = mi at hM ⊢
            generalize (m od ad bd).getD ⟨#[]⟩ = md at hM ⊢
            have HMM := Lib.hid hM
            clear hM
            go_enter Tryz.func130, Tryz.ntmps130
            go_wp2_with fail
            refine (HMM.out _).mono ?_
            rintro e w5 ⟨rfl, hx5⟩
            have hB : Blk w5 (w.heap.size + 1 + 1 + 1) 124 #[.bool false, .string ⟨#[]⟩] := by
              have h := (Blk.new (((w.alloc (.cells #[.bool oi, .string od] 124)).alloc (.cells #[.bool true, .string ad] 124)).alloc (.cells #[.bool true, .string bd] 124)) 124 #[.bool false, .string ⟨#[]⟩]).ext hx5
              simpa using h
            have c0 : w5.cell? ⟨w.heap.size + 1 + 1 + 1, 0, none⟩ = some (.bool false) := hB.cell 0
            have c1 : w5.cell? ⟨w.heap.size + 1 + 1 + 1, 1, none⟩ = some (.string ⟨#[]⟩) := hB.cell 1
            have f0 := hB.frozen 0
            have f1 := hB.frozen 1
            have hB2 : Blk ((w5.setCell ⟨w.heap.size + 1 + 1 + 1, 0, none⟩ (.bool mi)).setCell ⟨w.heap.size + 1 + 1 + 1, 1, none⟩ (.string md)) (w.heap.size + 1 + 1 + 1) 124 #[.bool mi, .string md] := (hB.set_ 0 _).set_ 1 _
            have hx6 := (HX4.out _ _ _ _).trans hx5
            have hle : w.heap.size ≤ w.heap.size + 1 + 1 + 1 := by omega
            clear hB hx5 e1 e2 e3 g2 g3 g4
            go_wp2_with fail
            refine bodyPost_ret (by rw [results_cell_tmp rfl]; simp only [Array.getD_eq_getD_getElem?]; simp [asAddr]; rw [run_loadVar_row _ _ _ _ _ _ _ hB2 Tryz.underlying124 (by rfl) (by kernel_rfl)]; rfl) rfl ?_
            exact ⟨rfl, (hx6.setCell (.inl hle) _).setCell (.inl hle) _⟩

/-- What stands under another one. -/
def underF (t : List File) : List ByteArray := (t.filter fun f => t.any fun g => underB f.path g.path).map File.path

theorem underJ1_calls (f : File) (g : File) (fb : Nat) (w : World) (hg : g.path.size ≤ 1000000) (hfb : w.cell? ⟨fb, 0, none⟩ = some (.string f.path)) (hl : fb < w.heap.size) :
    Calls Tryz.prog 131 #[.agg #[.string g.path, .string g.data], .pointer (some ⟨fb, 0, none⟩)] w fun e w' => e = .returned (.bool (underB f.path g.path)) ∧ Ext w w' := by
  have hne : fb ≠ w.heap.size := by omega
  have h1 : g.path.size + ByteArray.size ⟨#[47]⟩ ≤ 9223372036854775807 := by
    have : ByteArray.size ⟨#[47]⟩ = 1 := rfl
    omega
  have hadd := fun W => run_string_add_sum (P := Tryz.prog) W g.path ⟨#[47]⟩ h1
  go_enter Tryz.func131, Tryz.ntmps131
  have hh := Tryz.strings_HasPrefix f.path (g.path ++ ⟨#[47]⟩) (w.alloc (.cells #[.string g.path, .string g.data] 39))
  go_wp2_with fail
  refine Calls.mono hh ?_
  rintro e w' ⟨rfl, rfl⟩
  go_wp2_with fail
  go_ret
  exact ⟨rfl, (Kp.refl _ w).alloc _⟩

end Go.Proofs.YtgjbfkaepalkiaaGreatDoor

namespace Go.Proofs.YtgjbfkaepalkiaaGreatDoor
open Go.RowKit
set_option linter.unusedVariables false
set_option linter.unusedSimpArgs false
attribute [local go_sem] Oper.semAt_some

theorem indexUnderJ_calls (f : File) (fb : Nat) (A : Option Addr) (c : Nat) (ys : List File) (S : Fp) (w : World) (hO : Opn EF S w A c ys) (hn : ys.length ≤ 1000000) (hp : ∀ y ∈ ys, y.path.size ≤ 1000000) (hfb : w.cell? ⟨fb, 0, none⟩ = some (.string f.path)) (hl : fb < w.heap.size) :
    Calls Tryz.prog 114 #[.slice A ys.length c, .func (.func 131) #[] #[.pointer (some ⟨fb, 0, none⟩)]] w fun e w' => (∃ r : Int, e = .returned (.int .i64 r) ∧ decide (r ≥ 0) = ys.any fun y => underB f.path y.path) ∧ Ext w w' := by
  go_enter Tryz.func114, Tryz.ntmps114
  go_wp2_with fail
  go_loopw [8] (fun i wr => ∃ k : Nat, k ≤ ys.length ∧ i = .int .i64 k ∧ ((ys.take k).any fun y => underB f.path y.path) = false ∧ Ext w wr) (fun i _ => ys.length - (intOf i).toNat)
  case atStart => exact ⟨0, Nat.zero_le _, rfl, by simp, Kp.refl _ _⟩
  case round =>
    obtain ⟨k, hk, rfl, hno, hx⟩ := hrel
    rename_i wr
    by_cases hlt : k < ys.length
    · have hd : decide ((k : Int) < (ys.length : Int)) = true := decide_eq_true (by omega)
      obtain ⟨b, off, rfl, _, hb, c0, c1⟩ := (hO.rd.kp (hx.mono fun _ _ _ => trivial)).file hlt
      have hlt' : (k : Int) < (ys.length : Int) := by omega
      have h0 : (0 : Int) ≤ (k : Int) := by omega
      have hw : IntKind.i64.wrap ((k : Int) + 1) = (k : Int) + 1 := IntWalk.i64_in _ (by omega)
      have hsn : ((ys.take (k + 1)).any fun y => underB f.path y.path) = underB f.path ys[k].path := by rw [take_snoc ys hlt, List.any_append, hno]; simp only [List.any_cons, List.any_nil, Bool.or_false, Bool.false_or]
      have hcl := underJ1_calls f ys[k] fb wr (hp _ (List.getElem_mem hlt)) ((hx.cell (p := ⟨fb, 0, none⟩) hl trivial).trans hfb) (hx.lt hl)
      cases ho : underB f.path ys[k].path with
      | true =>
        rw [ho] at hsn hcl
        go_wp2_with (go_at_call 131; refine stop ?_)
        refine hcl.mono ?_
        rintro e w' ⟨rfl, hx'⟩
        clear hcl
        go_wp2_with fail
        go_ret
        refine ⟨⟨(k : Int), rfl, ?_⟩, hx.trans hx'⟩
        rw [decide_eq_true (by omega : (k : Int) ≥ 0)]
        have : ((ys.take (k + 1)).any fun y => underB f.path y.path) = true → (ys.any fun y => underB f.path y.path) = true := by
          intro h
          obtain ⟨y, hy, hy'⟩ := List.any_eq_true.1 h
          exact List.any_eq_true.2 ⟨y, List.mem_of_mem_take hy, hy'⟩
        exact (this hsn).symm
      | false =>
        rw [ho] at hsn hcl
        go_wp2_with (go_at_call 131; refine stop ?_)
        refine hcl.mono ?_
        rintro e w' ⟨rfl, hx'⟩
        clear hcl
        go_wp2_with fail
        go_roundw
        case rel => exact ⟨k + 1, by omega, by go_num, hsn, hx.trans hx'⟩
        case measure => simp [intOf]; omega
    · have hd : decide ((k : Int) < (ys.length : Int)) = false := decide_eq_false (by omega)
      have hkl : k = ys.length := by omega
      subst hkl
      rw [List.take_length] at hno
      go_wp2_with fail
      go_ret
      exact ⟨⟨-1, rfl, by rw [hno]; rfl⟩, hx⟩

theorem containsUnderJ_calls (f : File) (fb : Nat) (A : Option Addr) (c : Nat) (ys : List File) (S : Fp) (w : World) (hO : Opn EF S w A c ys) (hn : ys.length ≤ 1000000) (hp : ∀ y ∈ ys, y.path.size ≤ 1000000) (hfb : w.cell? ⟨fb, 0, none⟩ = some (.string f.path)) (hl : fb < w.heap.size) :
    Calls Tryz.prog 67 #[.slice A ys.length c, .func (.func 131) #[] #[.pointer (some ⟨fb, 0, none⟩)]] w fun e w' => e = .returned (.bool (ys.any fun y => underB f.path y.path)) ∧ Ext w w' := by
  go_enter Tryz.func67, Tryz.ntmps67
  have HI := indexUnderJ_calls f fb A c ys S w hO hn hp hfb hl
  clear hO hp
  go_wp2_with fail
  refine HI.mono ?_
  rintro e w' ⟨⟨r, rfl, hr⟩, hx⟩
  have hr' : decide ((0 : Int) ≤ r) = ys.any fun y => underB f.path y.path := hr
  cases ha : (ys.any fun y => underB f.path y.path) with
  | true =>
    rw [ha] at hr'
    go_wp2_with fail
    go_ret
    exact ⟨by rw [ha]; rfl, hx⟩
  | false =>
    rw [ha] at hr'
    go_wp2_with fail
    go_ret
    exact ⟨by rw [ha]; rfl, hx⟩

/-- Under another one of them, of the first k. -/
def underK (t : List File) (k : Nat) : List ByteArray := ((t.take k).filter fun f => t.any fun g => underB f.path g.path).map File.path
theorem underK_snoc (t : List File) (k : Nat) (hk : k < t.length) : underK t (k + 1) = underK t k ++ if (t.any fun g => underB t[k].path g.path) = true then [t[k].path] else [] := by
  unfold underK
  rw [take_snoc t hk, List.filter_append, List.map_append]
  cases h : (t.any fun g => underB t[k].path g.path) <;> simp [h]

set_option maxHeartbeats 1000000 in
/-- join.under. -/
theorem underL_calls (v : Value) (t : List File) (S : Fp) (w : World) (hR : Rd EF S w v t) (hn : t.length ≤ 3000) (hp : ∀ y ∈ t, y.path.size ≤ 1000000) :
    Calls Tryz.prog 90 #[v] w fun e w' => ∃ u, e = .returned u ∧ New ES 9 w.heap.size w' u (underF t) ∧ Ext w w' := by
  obtain ⟨A, c, rfl, hO⟩ := hR.open_
  obtain ⟨n, hl⟩ : ∃ n, t.length = n := ⟨_, rfl⟩
  rw [hl] at hn ⊢
  have HN := Lib.hid hl
  have HP := Lib.hid hp
  have HO := Lib.hid fun W (hW : Ext w W) => hO.kp (hW.mono fun _ _ _ => trivial)
  clear hR hl hp hO
  go_enter Tryz.func90, Tryz.ntmps90
  go_wp2_with fail
  go_loopw [3, 8] (fun o i wr => ∃ k : Nat, k ≤ n ∧ i = .int .i64 k ∧ New ES 9 w.heap.size wr o (underK t k) ∧ Ext w wr) (fun _ i _ => n - (intOf i).toNat)
  case atStart => exact ⟨0, Nat.zero_le _, rfl, by simpa [underK] using New.nil _ _ _, Kp.refl _ _⟩
  case round =>
    obtain ⟨k, hk, rfl, hN, hx⟩ := hrel
    rename World => wo
    by_cases hlt : k < n
    · have hd : decide ((k : Int) < (n : Int)) = true := decide_eq_true (by omega)
      have hkt : k < t.length := by have := HN.out; omega
      obtain ⟨b, off, rfl, _, hb, c0, c1⟩ := (HO.out wo hx).rd.file hkt
      have hsn := underK_snoc t k hkt
      have hul : (underK t k).length ≤ 3000 := by
        unfold underK
        rw [List.length_map]
        exact Nat.le_trans (List.length_filter_le _ _) (by rw [List.length_take]; omega)
      have HUL := Lib.hid hul
      obtain ⟨f, hf⟩ : ∃ f, t[k] = f := ⟨_, rfl⟩
      rw [hf] at c0 c1 hsn
      have hHC := fun W (hW : Ext w W) (fb : Nat) (h1 : W.cell? ⟨fb, 0, none⟩ = some (.string f.path)) (h2 : fb < W.heap.size) => containsUnderJ_calls f fb _ c t S W (HO.out W hW) (by have := HN.out; omega) HP.out h1 h2
      rw [HN.out] at hHC
      have HS := Lib.hid hsn
      have HC := Lib.hid hHC
      obtain ⟨A', n', c', hv'⟩ := hN.1.slice
      subst hv'
      have hlt' : (k : Int) < (n : Int) := by omega
      have h0 : (0 : Int) ≤ (k : Int) := by omega
      have hw : IntKind.i64.wrap ((k : Int) + 1) = (k : Int) + 1 := IntWalk.i64_in _ (by omega)
      clear hkt hsn hul hHC hf
      obtain ⟨fp, fd⟩ := f
      dsimp only at c0 c1
      go_wp2_with fail
      have hxa : Ext wo (wo.alloc (.cells #[.string fp, .string fd] 39)) := (Kp.refl _ wo).alloc _
      have hB := Blk.new wo 39 #[.string fp, .string fd]
      refine (HC.out _ (hx.trans hxa) wo.heap.size (hB.cell 0) hB.lt).mono ?_
      rintro e w3 ⟨rfl, hx3⟩
      obtain ⟨u, hu⟩ : ∃ u, (t.any fun y => underB fp y.path) = u := ⟨_, rfl⟩
      have HS' : Hid (underK t (k + 1) = underK t k ++ if u = true then [fp] else []) := Lib.hid (by rw [← hu]; exact HS.out)
      rw [show (t.any fun y => underB (⟨fp, fd⟩ : File).path y.path) = u from hu]
      have hB3 := hB.ext hx3
      have d0 : w3.cell? ⟨wo.heap.size, 0, none⟩ = some (.string fp) := hB3.cell 0
      have hxw := (hx.trans hxa).trans hx3
      have hN3 := (hN.ext hxa).ext hx3
      clear hu HS HC hB hB3 hx hx3 hxa hN c0 c1
      cases u with
      | true =>
        go_wp2_with (at_builtin; refine stop ?_)
        refine list_append1 (u := .slice (some ⟨w3.heap.size, 0, none⟩) 1 1) tiS fp rfl rfl rfl hN3 hxw rfl rfl rfl (by have := HUL.out; omega) (by have := HUL.out; unfold maxLen; omega) ?_
        intro v' w' hN' hx'
        obtain ⟨A2, n2, c2, hv2⟩ := hN'.1.slice
        subst hv2
        clear d0 hN3 hxw
        go_wp2_with fail
        go_roundw
        case rel => exact ⟨k + 1, by omega, by go_num, by rw [HS'.out]; exact hN', hx'⟩
        case measure => simp [intOf]; omega
      | false =>
        go_wp2_with fail
        go_roundw
        case rel => exact ⟨k + 1, by omega, by go_num, by rw [HS'.out]; simpa using hN3, hxw⟩
        case measure => simp [intOf]; omega
    · have hd : decide ((k : Int) < (n : Int)) = false := decide_eq_false (by omega)
      have hall : underK t k = underF t := by
        unfold underK underF
        rw [List.take_of_length_le (by have := HN.out; omega)]
      rw [hall] at hN
      clear hall
      go_wp2_with fail
      go_ret
      exact ⟨_, rfl, hN, hx⟩

end Go.Proofs.YtgjbfkaepalkiaaGreatDoor
