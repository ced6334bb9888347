/-
  cortegelaw8.awake.
-/
import Derived.Test.YtinafpbdlblcaaaDoorOf
namespace Go.Proofs.YtinafpbdlblcaaaDoor
open Go.RowKit
set_option linter.unusedVariables false
set_option linter.unusedSimpArgs false
attribute [local go_sem] Oper.semAt_some

def bx : ByteArray := ⟨#[120]⟩
def by_ : ByteArray := ⟨#[121]⟩
def b_1 : ByteArray := ⟨#[49]⟩
def b_2 : ByteArray := ⟨#[50]⟩
def b_3 : ByteArray := ⟨#[51]⟩
def b_ : ByteArray := ⟨#[]⟩
theorem bx_l : bx.toList = [120] := by decide +kernel
theorem by_l : by_.toList = [121] := by decide +kernel
theorem b1_l : b_1.toList = [49] := by decide +kernel
theorem b2_l : b_2.toList = [50] := by decide +kernel
theorem b3_l : b_3.toList = [51] := by decide +kernel
theorem b0_l : b_.toList = [] := by decide +kernel
theorem b0_e : (⟨#[]⟩ : ByteArray) = b_ := rfl
theorem awake8_of : ofF [⟨bx, b_1⟩] [⟨bx, b_2⟩, ⟨by_, b_3⟩] = [⟨bx, true, true, b_1, b_2⟩, ⟨by_, false, true, b_, b_3⟩] := by
  simp [ofF, ofL, flatP, riseT, addT, insK, chg, getF, getD, diffB, bx_l, by_l, b1_l, b2_l, b3_l, b0_e, b0_l, ltB, Op.bytesLess]
theorem awake8_apply : applyF [⟨bx, b_1⟩] [⟨bx, true, true, b_1, b_2⟩, ⟨by_, false, true, b_, b_3⟩] = some [⟨bx, b_2⟩, ⟨by_, b_3⟩] := by
  simp [applyF, stepF, putF, sortK, insK, getF, getD, bx_l, by_l, b1_l, b2_l, b3_l, b0_e, b0_l, ltB, Op.bytesLess]

theorem stepF_len {t u : List File} {c : Ch} (h : stepF t c = some u) : u.length ≤ t.length + 1 := by
  unfold stepF at h
  split at h
  · injection h with h
    subst h
    split
    · unfold putF
      rw [sortK_length, List.length_append, List.length_singleton]
      have := List.length_filter_le (fun f : File => !(f.path.toList == c.path.toList)) t
      omega
    · unfold drF
      have := List.length_filter_le (fun f : File => !(f.path.toList == c.path.toList)) t
      omega
  · cases h
theorem applyF_len : ∀ (cs : List Ch) {t u : List File}, applyF t cs = some u → u.length ≤ t.length + cs.length
  | [], t, u, h => by
    have : some t = some u := h
    injection this with this
    subst this; simp
  | c :: cs, t, u, h => by
    have h' : (match stepF t c with | some v => applyF v cs | none => none) = some u := h
    cases hs : stepF t c with
    | none => rw [hs] at h'; cases h'
    | some v =>
      rw [hs] at h'
      have h1 := stepF_len hs
      have h2 := applyF_len cs h'
      simp only [List.length_cons]; omega
theorem applyF_small {xs : List File} {cs : List Ch} (h : xs.length + cs.length ≤ 38) : ∀ k t, applyF xs (cs.take k) = some t → t.length ≤ 38 := fun k t ht => by
  have := applyF_len _ ht
  have : (cs.take k).length ≤ cs.length := by rw [List.length_take]; omega
  omega

/-- A row of files that was built just now. -/
theorem builtF8 (W : World) (cs : Array Value) (xs : List File) (hc : (EF.flat xs).toArray = cs) (hl : xs.length ≤ maxLen) : Rd EF (fun k => W.heap.size ≤ k) (W.alloc (.cells cs 30)) (.slice (some ⟨W.heap.size, 0, none⟩) xs.length xs.length) xs := by
  rw [← hc]; exact (New.made W _ xs hl).rd

def chB (x y : Ch) : Bool := (x.path.toList == y.path.toList) && ((x.was == y.was) && ((x.is == y.is) && ((x.old.toList == y.old.toList) && (x.new.toList == y.new.toList))))
theorem chB_iff (x y : Ch) : chB x y = true ↔ x = y := by
  unfold chB
  cases x; cases y
  simp only [Bool.and_eq_true, beq_iff_eq, Ch.mk.injEq]
  constructor
  · rintro ⟨h1, h2, h3, h4, h5⟩; exact ⟨toList_inj h1, h2, h3, toList_inj h4, toList_inj h5⟩
  · rintro ⟨rfl, rfl, rfl, rfl, rfl⟩; exact ⟨rfl, rfl, rfl, rfl, rfl⟩
theorem run_eqIn_ch (x y : Ch) (W : World) : (Op.equalIn 10000 57 (.agg #[.string x.path, .bool x.was, .bool x.is, .string x.old, .string x.new]) (.agg #[.string y.path, .bool y.was, .bool y.is, .string y.old, .string y.new])).run Tryd.prog W = .ok (chB x y) W := by
  have h1 := Tryd.sizeOf9
  have h2 := Tryd.isAgg9
  have h3 := Tryd.underlying9
  have h4 := Tryd.zeroValue9
  have g1 := Tryd.sizeOf4
  have g2 := Tryd.isAgg4
  have g3 := Tryd.underlying4
  have g4 := Tryd.zeroValue4
  rw [run_equalIn_struct _ _ _ _ _ (by kernel_rfl) (by kernel_rfl), Program.fieldsOf, Tryd.underlying57]
  unfold chB
  cases q1 : x.path.toList == y.path.toList <;> cases q2 : x.was == y.was <;> cases q3 : x.is == y.is <;> cases q4 : x.old.toList == y.old.toList <;> cases q5 : x.new.toList == y.new.toList <;>
    simp [Op.eqFields, go_sem, h1, h2, h3, h4, g1, g2, g3, g4, q1, q2, q3, q4, q5]
theorem run_neq_ch (x y : Ch) (W : World) : (binOp .neq 57 (.agg #[.string x.path, .bool x.was, .bool x.is, .string x.old, .string x.new]) (.agg #[.string y.path, .bool y.was, .bool y.is, .string y.old, .string y.new])).run Tryd.prog W = .ok (.bool (!chB x y)) W := by
  rw [run_neq_struct, run_eqIn_ch]; rfl
theorem run_eql_ch (x y : Ch) (W : World) : (binOp .eql 57 (.agg #[.string x.path, .bool x.was, .bool x.is, .string x.old, .string x.new]) (.agg #[.string y.path, .bool y.was, .bool y.is, .string y.old, .string y.new])).run Tryd.prog W = .ok (.bool (chB x y)) W := by
  rw [run_eql_struct, run_eqIn_ch]; rfl

set_option maxHeartbeats 1000000 in
set_option maxRecDepth 100000 in
theorem awake8_calls (w : World) : Calls Tryd.prog 34 #[] w fun e w' => e = .returned (.bool true) ∧ Ext w w' := by
  go_enter Tryd.func34, Tryd.ntmps34
  go_wp2_with (go_at_call 35; refine stop ?_)
  have ra := (builtF8 w #[.string ⟨#[120]⟩, .string ⟨#[49]⟩] [⟨bx, b_1⟩] rfl (by decide)).kp (Kp.of_ext ((Kp.refl _ _).alloc (.cells #[.string ⟨#[120]⟩, .string ⟨#[50]⟩, .string ⟨#[121]⟩, .string ⟨#[51]⟩] 30)))
  have rb := builtF8 (w.alloc (.cells #[.string ⟨#[120]⟩, .string ⟨#[49]⟩] 30)) #[.string ⟨#[120]⟩, .string ⟨#[50]⟩, .string ⟨#[121]⟩, .string ⟨#[51]⟩] [⟨bx, b_2⟩, ⟨by_, b_3⟩] rfl (by decide)
  rw [show ([⟨bx, b_1⟩] : List File).length = 1 from rfl] at ra
  rw [show ([⟨bx, b_2⟩, ⟨by_, b_3⟩] : List File).length = 2 from rfl, show (w.alloc (.cells #[.string ⟨#[120]⟩, .string ⟨#[49]⟩] 30)).heap.size = w.heap.size + 1 by simp] at rb
  have hx0 : Ext w ((w.alloc (.cells #[.string ⟨#[120]⟩, .string ⟨#[49]⟩] 30)).alloc (.cells #[.string ⟨#[120]⟩, .string ⟨#[50]⟩, .string ⟨#[121]⟩, .string ⟨#[51]⟩] 30)) := ((Kp.refl _ w).alloc _).alloc _
  generalize ((w.alloc (.cells #[.string ⟨#[120]⟩, .string ⟨#[49]⟩] 30)).alloc (.cells #[.string ⟨#[120]⟩, .string ⟨#[50]⟩, .string ⟨#[121]⟩, .string ⟨#[51]⟩] 30)) = w0 at ra rb hx0 ⊢
  refine (of_patch_calls _ _ _ _ _ _ w0 ra rb (by simp) (by simp)).mono ?_
  rintro e w1 ⟨r1, rfl, hN1, hx1⟩
  rw [awake8_of] at hN1
  have hsl : ∃ g c, r1 = .slice (some ⟨g, 0, none⟩) 2 c := by
    rcases hN1.1.2 with ⟨_, h⟩ | ⟨g, cap, cur, h, _⟩
    · cases h
    · exact ⟨g, cap, h⟩
  obtain ⟨g, c, rfl⟩ := hsl
  have hrd1 := hN1.rd
  have hRA1 : RdA EC (fun k => w0.heap.size ≤ k) w1 (some ⟨g, 0, none⟩) [⟨bx, true, true, b_1, b_2⟩, ⟨by_, false, true, b_, b_3⟩] := by
    obtain ⟨A, c', hv, _, _, _, hA⟩ := hrd1
    injection hv with hv
    subst hv
    exact hA
  have ha1 := ra.kp (hx1.mono fun _ _ _ => trivial)
  go_wp2_with (go_at_call 36; refine stop ?_)
  refine (apply_calls _ _ _ _ _ _ w1 ha1 hrd1 (by simp) (by simp) (applyF_small (by simp))).mono ?_
  rintro e w2 ⟨r2, rfl, hN2, hx2⟩
  rw [awake8_apply] at hN2 ⊢
  have hw2 : Ext w0 w2 := hx1.trans hx2
  obtain ⟨b, off, hb, _, hbl, c0, c1, c2, c3, c4⟩ := (hRA1.kp (hx2.mono fun _ _ _ => trivial)).ch (i := 0) (by simp)
  cases hb
  have d0 : w2.cell? ⟨g, 0, none⟩ = some (.string ⟨#[120]⟩) := by simpa [bx] using c0
  have d1 : w2.cell? ⟨g, 1, none⟩ = some (.bool true) := by simpa using c1
  have d2 : w2.cell? ⟨g, 2, none⟩ = some (.bool true) := by simpa using c2
  have d3 : w2.cell? ⟨g, 3, none⟩ = some (.string ⟨#[49]⟩) := by simpa [b_1] using c3
  have d4 : w2.cell? ⟨g, 4, none⟩ = some (.string ⟨#[50]⟩) := by simpa [b_2] using c4
  have heq : ∀ W, (binOp .eql 57 (.agg #[.string ⟨#[120]⟩, .bool true, .bool true, .string ⟨#[49]⟩, .string ⟨#[50]⟩]) (.agg #[.string ⟨#[120]⟩, .bool true, .bool true, .string ⟨#[49]⟩, .string ⟨#[50]⟩])).run Tryd.prog W = .ok (.bool true) W := by
    intro W
    have h := run_eql_ch ⟨bx, true, true, b_1, b_2⟩ ⟨bx, true, true, b_1, b_2⟩ W
    rw [(chB_iff _ _).2 rfl] at h
    exact h
  have hgd := fun (x y : Operand) (W : World) => run_eqGuard_agg (P := Tryd.prog) W .eql 57 x y #[.string ⟨#[120]⟩, .bool true, .bool true, .string ⟨#[49]⟩, .string ⟨#[50]⟩] #[.string ⟨#[120]⟩, .bool true, .bool true, .string ⟨#[49]⟩, .string ⟨#[50]⟩] (by kernel_rfl)
  clear c0 c1 c2 c3 c4
  go_wp2_with (go_at_call 16; refine stop ?_)
  refine (sameFiles_calls _ _ _ _ _ _ w2 hN2.rd (rb.kp (hw2.mono fun _ _ _ => trivial))).mono ?_
  rintro e w3 ⟨rfl, hx3⟩
  rw [show sameB ((some [⟨bx, b_2⟩, ⟨by_, b_3⟩] : Option (List File)).getD []) [⟨bx, b_2⟩, ⟨by_, b_3⟩] = true from sameB_refl _]
  clear heq hgd d0 d1 d2 d3 d4
  go_wp2_with fail
  go_ret
  exact ⟨rfl, hx0.trans (hw2.trans hx3)⟩

end Go.Proofs.YtinafpbdlblcaaaDoor
