/-
  DERIVED. GIVEN WITH THE SEED: THE CARDS: each row of YtinafpbdlblcaaaDoorRows.lean that lists a variable, with what it lists TIED to the program's text (the seventh form; the later family's looks); each row that meets fmt, with fmt's text TOLD by the authors' own Lean function (tested against real Go, not proved from fmt's source: count such statements apart). THE CARD IS WHAT COUNTS. Prove the row's statement (the work); the ties are given (YtinafpbdlblcaaaDoorTie.lean); close each card by the builder's one call (the guide's Derived/Test/ToyasCard.lean, 'card_holds'). Laid BY PROGRAM, IN A SANDBOX (cutbox-door.mjs). By AI agents, Wed Nov 11 2026. No macro, syntax, notation, axiom, sorry.
-/
import Derived.Test.YtinafpbdlblcaaaDoorRows
import GoSem.ClaimSeven
namespace Go.Proofs.YtinafpbdlblcaaaDoor
namespace Rows

/-- THE TIED CARD OF 'cortegelaw7.TreePuts'. -/
def treePutsCard : Claim7 := { stood := { row := treePutsRow, standIns := [], harness := (true, "18e4a1e5e6947340fdc31b75cdbea7c4f47b32cb12bdb96e9405f818d08d84b0"), looks := false }, kinds := [], alts := [], laidByText := true, laidKinds := [.data, .pinned], laidTests := true, laidLooks := .later }
def TreePutsCardSaid : Prop := Claim7.holds Tryd.pinned (.plain (OpenSpec.ofChange treePutsSpec)) treePutsCard

/-- THE TIED CARD OF 'cortegelaw7.TreeUnder'. -/
def treeUnderCard : Claim7 := { stood := { row := treeUnderRow, standIns := [], harness := (true, "18e4a1e5e6947340fdc31b75cdbea7c4f47b32cb12bdb96e9405f818d08d84b0"), looks := false }, kinds := [], alts := [], laidByText := true, laidKinds := [.data, .pinned], laidTests := true, laidLooks := .later }
def TreeUnderCardSaid : Prop := Claim7.holds Tryd.pinned (.plain (OpenSpec.ofChange treeUnderSpec)) treeUnderCard

/-- THE TIED CARD OF 'cortegelaw7.TreeTells'. -/
def treeTellsCard : Claim7 := { stood := { row := treeTellsRow, standIns := [], harness := (true, "18e4a1e5e6947340fdc31b75cdbea7c4f47b32cb12bdb96e9405f818d08d84b0"), looks := false }, kinds := [], alts := [], laidByText := true, laidKinds := [.data, .pinned], laidTests := true, laidLooks := .later }
def TreeTellsCardSaid : Prop := Claim7.holds Tryd.pinned (.plain (OpenSpec.ofChange treeTellsSpec)) treeTellsCard

/-- THE TIED CARD OF 'cortegelaw7.TreeGathers'. -/
def treeGathersCard : Claim7 := { stood := { row := treeGathersRow, standIns := [], harness := (true, "18e4a1e5e6947340fdc31b75cdbea7c4f47b32cb12bdb96e9405f818d08d84b0"), looks := false }, kinds := [], alts := [], laidByText := true, laidKinds := [.data, .pinned], laidTests := true, laidLooks := .later }
def TreeGathersCardSaid : Prop := Claim7.holds Tryd.pinned (.plain (OpenSpec.ofChange treeGathersSpec)) treeGathersCard

/-- THE TIED CARD OF 'cortegelaw8.PatchSteps'. -/
def patchStepsCard : Claim7 := { stood := { row := patchStepsRow, standIns := [], harness := (true, "18e4a1e5e6947340fdc31b75cdbea7c4f47b32cb12bdb96e9405f818d08d84b0"), looks := false }, kinds := [], alts := [], laidByText := true, laidKinds := [.data, .pinned], laidTests := true, laidLooks := .later }
def PatchStepsCardSaid : Prop := Claim7.holds Tryd.pinned (.plain (OpenSpec.ofChange patchStepsSpec)) patchStepsCard

/-- THE TIED CARD OF 'cortegelaw8.PatchCounts'. -/
def patchCountsCard : Claim7 := { stood := { row := patchCountsRow, standIns := [], harness := (true, "18e4a1e5e6947340fdc31b75cdbea7c4f47b32cb12bdb96e9405f818d08d84b0"), looks := false }, kinds := [], alts := [], laidByText := true, laidKinds := [.data, .pinned], laidTests := true, laidLooks := .later }
def PatchCountsCardSaid : Prop := Claim7.holds Tryd.pinned (.plain (OpenSpec.ofChange patchCountsSpec)) patchCountsCard

/-- THE TIED CARD OF 'cortegelaw8.PatchBack'. -/
def patchBackCard : Claim7 := { stood := { row := patchBackRow, standIns := [], harness := (true, "18e4a1e5e6947340fdc31b75cdbea7c4f47b32cb12bdb96e9405f818d08d84b0"), looks := false }, kinds := [], alts := [], laidByText := true, laidKinds := [.data, .pinned], laidTests := true, laidLooks := .later }
def PatchBackCardSaid : Prop := Claim7.holds Tryd.pinned (.plain (OpenSpec.ofChange patchBackSpec)) patchBackCard

/-- THE SECOND FORM's CARD OF 'cortegelaw7.TreePuts'. -/
def treePutsUptoCard : Claim7 := { stood := { row := treePutsUptoRow, standIns := [], harness := (true, "18e4a1e5e6947340fdc31b75cdbea7c4f47b32cb12bdb96e9405f818d08d84b0"), looks := false }, kinds := [], alts := [], laidByText := true, laidKinds := [.data, .pinned], laidTests := true, laidLooks := .later }
def TreePutsUptoCardSaid : Prop := Claim7.holds Tryd.pinned (.plain (OpenSpec.upto treePutsSpec)) treePutsUptoCard

/-- THE SECOND FORM's CARD OF 'cortegelaw7.TreeUnder'. -/
def treeUnderUptoCard : Claim7 := { stood := { row := treeUnderUptoRow, standIns := [], harness := (true, "18e4a1e5e6947340fdc31b75cdbea7c4f47b32cb12bdb96e9405f818d08d84b0"), looks := false }, kinds := [], alts := [], laidByText := true, laidKinds := [.data, .pinned], laidTests := true, laidLooks := .later }
def TreeUnderUptoCardSaid : Prop := Claim7.holds Tryd.pinned (.plain (OpenSpec.upto treeUnderSpec)) treeUnderUptoCard

/-- THE SECOND FORM's CARD OF 'cortegelaw7.TreeTells'. -/
def treeTellsUptoCard : Claim7 := { stood := { row := treeTellsUptoRow, standIns := [], harness := (true, "18e4a1e5e6947340fdc31b75cdbea7c4f47b32cb12bdb96e9405f818d08d84b0"), looks := false }, kinds := [], alts := [], laidByText := true, laidKinds := [.data, .pinned], laidTests := true, laidLooks := .later }
def TreeTellsUptoCardSaid : Prop := Claim7.holds Tryd.pinned (.plain (OpenSpec.upto treeTellsSpec)) treeTellsUptoCard

/-- THE SECOND FORM's CARD OF 'cortegelaw7.TreeGathers'. -/
def treeGathersUptoCard : Claim7 := { stood := { row := treeGathersUptoRow, standIns := [], harness := (true, "18e4a1e5e6947340fdc31b75cdbea7c4f47b32cb12bdb96e9405f818d08d84b0"), looks := false }, kinds := [], alts := [], laidByText := true, laidKinds := [.data, .pinned], laidTests := true, laidLooks := .later }
def TreeGathersUptoCardSaid : Prop := Claim7.holds Tryd.pinned (.plain (OpenSpec.upto treeGathersSpec)) treeGathersUptoCard

/-- THE SECOND FORM's CARD OF 'cortegelaw8.PatchSteps'. -/
def patchStepsUptoCard : Claim7 := { stood := { row := patchStepsUptoRow, standIns := [], harness := (true, "18e4a1e5e6947340fdc31b75cdbea7c4f47b32cb12bdb96e9405f818d08d84b0"), looks := false }, kinds := [], alts := [], laidByText := true, laidKinds := [.data, .pinned], laidTests := true, laidLooks := .later }
def PatchStepsUptoCardSaid : Prop := Claim7.holds Tryd.pinned (.plain (OpenSpec.upto patchStepsSpec)) patchStepsUptoCard

/-- THE SECOND FORM's CARD OF 'cortegelaw8.PatchCounts'. -/
def patchCountsUptoCard : Claim7 := { stood := { row := patchCountsUptoRow, standIns := [], harness := (true, "18e4a1e5e6947340fdc31b75cdbea7c4f47b32cb12bdb96e9405f818d08d84b0"), looks := false }, kinds := [], alts := [], laidByText := true, laidKinds := [.data, .pinned], laidTests := true, laidLooks := .later }
def PatchCountsUptoCardSaid : Prop := Claim7.holds Tryd.pinned (.plain (OpenSpec.upto patchCountsSpec)) patchCountsUptoCard

/-- THE SECOND FORM's CARD OF 'cortegelaw8.PatchBack'. -/
def patchBackUptoCard : Claim7 := { stood := { row := patchBackUptoRow, standIns := [], harness := (true, "18e4a1e5e6947340fdc31b75cdbea7c4f47b32cb12bdb96e9405f818d08d84b0"), looks := false }, kinds := [], alts := [], laidByText := true, laidKinds := [.data, .pinned], laidTests := true, laidLooks := .later }
def PatchBackUptoCardSaid : Prop := Claim7.holds Tryd.pinned (.plain (OpenSpec.upto patchBackSpec)) patchBackUptoCard
end Rows
end Go.Proofs.YtinafpbdlblcaaaDoor
