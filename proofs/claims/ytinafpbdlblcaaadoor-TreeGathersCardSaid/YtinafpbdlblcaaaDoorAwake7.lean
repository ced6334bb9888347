/-
  cortegelaw7.awake.
-/
import Derived.Test.YtinafpbdlblcaaaDoorLow
import Derived.Test.YtinafpbdlblcaaaDoorMay2
import Derived.Test.YtinafpbdlblcaaaDoorPlain2
namespace Go.Proofs.YtinafpbdlblcaaaDoor
open Go.RowKit
set_option linter.unusedVariables false
set_option linter.unusedSimpArgs false
attribute [local go_sem] Oper.semAt_some

/-- A row of files that was built just now. -/
theorem builtF (W : World) (cs : Array Value) (xs : List File) (hc : (EF.flat xs).toArray = cs) (hl : xs.length ≤ maxLen) : Rd EF (fun k => W.heap.size ≤ k) (W.alloc (.cells cs 30)) (.slice (some ⟨W.heap.size, 0, none⟩) xs.length xs.length) xs := by
  rw [← hc]; exact (New.made W _ xs hl).rd

set_option maxHeartbeats 1000000 in
theorem awake7_calls (w : World) : Calls Tryd.prog 12 #[] w fun e w' => e = .returned (.bool true) ∧ Ext w w' := by
  have hM1 := fun W => (may_calls (.slice (some ⟨W.heap.size, 0, none⟩) 2 2) [⟨bA, bNo⟩, ⟨bAB, bNo⟩] _ _ (builtF W _ [⟨bA, bNo⟩, ⟨bAB, bNo⟩] rfl (by decide)) (by decide) (by decide))
  have hM2 := fun W => (may_calls (.slice (some ⟨W.heap.size, 0, none⟩) 2 2) [⟨bA, bNo⟩, ⟨bAmB, bNo⟩] _ _ (builtF W _ [⟨bA, bNo⟩, ⟨bAmB, bNo⟩] rfl (by decide)) (by decide) (by decide))
  have hP1 := fun W => path_calls bAB W (by decide)
  have hP2 := fun W => path_calls bA2B W (by decide)
  have hPut := fun W => put_calls (.slice none 0 0) bX b1 [] (fun _ => False) W (Rd.nil _ _) (by decide)
  rw [awake_may1] at hM1
  rw [awake_may2] at hM2
  rw [awake_pathAB] at hP1
  rw [awake_pathA2B] at hP2
  rw [awake_put] at hPut
  have HM1 := Lib.hid hM1
  have HM2 := Lib.hid hM2
  have HP1 := Lib.hid hP1
  have HP2 := Lib.hid hP2
  have HPut := Lib.hid hPut
  clear hM1 hM2 hP1 hP2 hPut
  go_enter Tryd.func12, Tryd.ntmps12
  go_wp2_with fail
  refine (HM1.out _).mono ?_
  rintro e w1 ⟨rfl, hx1⟩
  go_wp2_with fail
  refine (HM2.out _).mono ?_
  rintro e w2 ⟨rfl, hx2⟩
  go_wp2_with fail
  refine (HP1.out _).mono ?_
  rintro e w3 ⟨rfl, hx3⟩
  go_wp2_with fail
  refine (HP2.out _).mono ?_
  rintro e w4 ⟨rfl, hx4⟩
  go_wp2_with fail
  refine (HPut.out _).mono ?_
  rintro e w5 ⟨u, rfl, hN, hx5⟩
  go_wp2_with fail
  refine (sameFiles_calls u (.slice (some ⟨w5.heap.size, 0, none⟩) 1 1) [⟨bX, b1⟩] [⟨bX, b1⟩] _ _ _ ((hN.ext ((Kp.refl _ _).alloc _)).rd) (builtF w5 _ [⟨bX, b1⟩] rfl (by decide))).mono ?_
  rw [sameB_refl]
  rintro e w6 ⟨rfl, hx6⟩
  go_wp2_with fail
  go_ret
  exact ⟨rfl, ((((((((Kp.refl _ w).alloc _).trans hx1).alloc _).trans hx2).trans hx3).trans hx4).trans hx5).alloc _ |>.trans hx6⟩

end Go.Proofs.YtinafpbdlblcaaaDoor
