/-
  From a walk to a row: what all rows of this seat share.
-/
import Derived.Test.YtddooggkcdloeaaGreatDoorOpen
import Derived.Test.YtddooggkcdloeaaGreatDoorRows
import Derived.Test.YtddooggkcdloeaaGreatDoorTie
import Derived.ProofKit
import Derived.ChangeSame
import Derived.JoinedOf
import Derived.LaidLaws
import Derived.SevenTiedAt
import Derived.Deep.DeepLaidRun
import Derived.Deep.SlicePairs
import Derived.Below
import Derived.Carry
namespace Go.Proofs.YtddooggkcdloeaaGreatDoor
open Go.ChangeShapes Go.WideShapes Go.RowKit
open Go.ChangeMaps (open_string shut_string)
set_option linter.unusedVariables false
set_option linter.unusedSimpArgs false
set_option linter.constructorNameAsVariable false

/-- The settled world, the tables laid. -/
noncomputable def laidWorld (os : Os) : World :=
  let w0 := World.holding Tryz.prog os ⟨#[], #[], []⟩
  { w0 with heap := (w0.heap.modify 1 fun
      | .cells _ t frozen => .cells (match Go.Pinned.utf8First with
        | .agg l => (l.map fun | .lit (.int k n) => Value.int k n | _ => undef).toArray
        | _ => #[]) t frozen
      | o => o).modify 2 fun
      | .cells _ t frozen => .cells (match (Rows.laid_unicode_utf8_acceptRanges : DataW Unit) with
        | .agg l => (l.flatMap fun | .agg m => m.map (fun | .lit (.int k n) => Value.int k n | _ => undef) | _ => []).toArray
        | _ => #[]) t frozen
      | o => o }
theorem laidWorld_met (os : Os) (args : Array Value) : laidMet Tryz.prog [("unicode/utf8.acceptRanges", Rows.laid_unicode_utf8_acceptRanges), ("unicode/utf8.first", Rows.laid_unicode_utf8_first)] ((laidWorld os).forCall (fun _ _ => 0) ⟨#[], args, []⟩).memory :=
  laidMet_of_run3 8 (by kernel_rfl) (by kernel_rfl) (by kernel_rfl)

end Go.Proofs.YtddooggkcdloeaaGreatDoor
