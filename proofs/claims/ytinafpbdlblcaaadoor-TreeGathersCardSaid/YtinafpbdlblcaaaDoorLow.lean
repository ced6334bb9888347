/-
  cortegelaw0.Low.
-/
import Derived.Test.YtinafpbdlblcaaaDoorLaw0
namespace Go.Proofs.YtinafpbdlblcaaaDoor
open Go.RowKit
set_option linter.unusedVariables false
set_option linter.unusedSimpArgs false

theorem low_calls (x : Int) (n : Nat) (w : World) (hn : 0 < n) (hm : n ≤ 1000000) :
    Calls Tryd.prog 17 #[.int .i64 x, .int .i64 n] w fun e w' => (∃ k : Nat, k < n ∧ e = .returned (.int .i64 k)) ∧ w = w' := by
  obtain ⟨r, hr⟩ : ∃ r : Nat, IntKind.u64.wrap x = r := ⟨(IntKind.u64.wrap x).toNat, by
    have := IntKind.wrap_u64 x
    omega⟩
  have hlt : r % n < n := Nat.mod_lt _ hn
  have hmod : ((r : Int)).tmod (n : Int) = ((r % n : Nat) : Int) := rfl
  have hw : wrap64 ((r % n : Nat) : Int) = ((r % n : Nat) : Int) := IntWalk.wrap64_in _ (by omega)
  go_enter Tryd.func17, Tryd.ntmps17
  go_wp2_with fail
  go_ret
  refine ⟨⟨r % n, hlt, ?_⟩, rfl⟩
  first | rfl | (show Ending.returned (.int .i64 _) = _; rw [hw]) | (show Ending.returned (.int .i64 _) = _; rw [hmod, hw])

end Go.Proofs.YtinafpbdlblcaaaDoor
