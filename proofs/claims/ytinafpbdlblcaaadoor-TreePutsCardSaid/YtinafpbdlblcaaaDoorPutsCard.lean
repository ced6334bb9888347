/-
  The statement TreePuts (chapter 7) holds of the given program: whatever files, path, data and number it is called with, it returns true, and its arguments read behind the call as they read before. Conditions: Go's two tables for UTF-8 read as the program's text lays them (tied to the text by the given ties).
-/
import Derived.Test.YtinafpbdlblcaaaDoorPutsRow
import Derived.Test.YtinafpbdlblcaaaDoorCards
namespace Go.Proofs.YtinafpbdlblcaaaDoor

theorem puts_card : Rows.TreePutsCardSaid :=
  Claim7.holds_tied_plain_at .later [] [.data, .pinned] true (true, "18e4a1e5e6947340fdc31b75cdbea7c4f47b32cb12bdb96e9405f818d08d84b0") false
    puts_holds (fun _ h => by cases h) (by kernel_rfl) (fun _ h => by cases h) treePuts_row_tie rfl ⟨rfl, rfl⟩ (by kernel_rfl) rfl
    (fun f fn hf hfn => by
      obtain rfl : f = 3 := Option.some.inj ((show Tryd.prog.funcNamed "cortege/cortegelaw7.TreePuts" = some 3 by kernel_rfl).symm.trans hf) |>.symm
      obtain rfl : fn = Tryd.f3 := (Option.some.inj (Tryd.func3.symm.trans hfn)).symm
      refine ⟨by kernel_rfl, fun j t ht => ?_⟩
      rw [Tryd.params3] at ht
      have hm : t ∈ #[22, 9, 9, 3] := Array.mem_of_getElem? ht
      have hall : #[22, 9, 9, 3].all (fun t => !Tryd.prog.wantsStandIn t) = true := by kernel_rfl
      have := Array.all_eq_true'.1 hall t hm
      exact (by simpa using this : Tryd.prog.wantsStandIn t = false))
    (by kernel_rfl)

end Go.Proofs.YtinafpbdlblcaaaDoor
