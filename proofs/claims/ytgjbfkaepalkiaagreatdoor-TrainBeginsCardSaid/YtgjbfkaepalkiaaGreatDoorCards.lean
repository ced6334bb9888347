/-
  DERIVED. GIVEN WITH THE SEED: THE CARDS: each row of YtgjbfkaepalkiaaGreatDoorRows.lean that lists a variable, with what it lists TIED to the program's text (the seventh form; the later family's looks); each row that meets fmt, with fmt's text TOLD by the authors' own Lean function (tested against real Go, not proved from fmt's source: count such statements apart). THE CARD IS WHAT COUNTS. Prove the row's statement (the work); the ties are given (YtgjbfkaepalkiaaGreatDoorTie.lean); close each card by the builder's one call (the guide's Derived/Test/ToyasCard.lean, 'card_holds'). Laid BY PROGRAM, IN A SANDBOX (cutbox-door.mjs). By AI agents, Wed Nov 11 2026. No macro, syntax, notation, axiom, sorry.
-/
import Derived.Test.YtgjbfkaepalkiaaGreatDoorRows
import GoSem.ClaimSeven
namespace Go.Proofs.YtgjbfkaepalkiaaGreatDoor
namespace Rows

/-- THE TIED CARD OF 'cortegelaw13.FoldTells'. -/
def foldTellsCard : Claim7 := { stood := { row := foldTellsRow, standIns := [], harness := (true, "4708159603df6989e34a2b8ca53428086b737c458554e1411fe5176e8fe7b8cc"), looks := false }, kinds := [], alts := [], laidByText := true, laidKinds := [.data, .pinned], laidTests := true, laidLooks := .later }
def FoldTellsCardSaid : Prop := Claim7.holds Tryz.pinned (.plain (OpenSpec.ofChange foldTellsSpec)) foldTellsCard

/-- THE TIED CARD OF 'cortegelaw13.FoldCross'. -/
def foldCrossCard : Claim7 := { stood := { row := foldCrossRow, standIns := [], harness := (true, "4708159603df6989e34a2b8ca53428086b737c458554e1411fe5176e8fe7b8cc"), looks := false }, kinds := [], alts := [], laidByText := true, laidKinds := [.data, .pinned], laidTests := true, laidLooks := .later }
def FoldCrossCardSaid : Prop := Claim7.holds Tryz.pinned (.plain (OpenSpec.ofChange foldCrossSpec)) foldCrossCard

/-- THE TIED CARD OF 'cortegelaw13.FoldOnly'. -/
def foldOnlyCard : Claim7 := { stood := { row := foldOnlyRow, standIns := [], harness := (true, "4708159603df6989e34a2b8ca53428086b737c458554e1411fe5176e8fe7b8cc"), looks := false }, kinds := [], alts := [], laidByText := true, laidKinds := [.data, .pinned], laidTests := true, laidLooks := .later }
def FoldOnlyCardSaid : Prop := Claim7.holds Tryz.pinned (.plain (OpenSpec.ofChange foldOnlySpec)) foldOnlyCard

/-- THE TIED CARD OF 'cortegelaw14.MergeTells'. -/
def mergeTellsCard : Claim7 := { stood := { row := mergeTellsRow, standIns := [], harness := (true, "4708159603df6989e34a2b8ca53428086b737c458554e1411fe5176e8fe7b8cc"), looks := false }, kinds := [], alts := [], laidByText := true, laidKinds := [.data, .pinned], laidTests := true, laidLooks := .later }
def MergeTellsCardSaid : Prop := Claim7.holds Tryz.pinned (.plain (OpenSpec.ofChange mergeTellsSpec)) mergeTellsCard

/-- THE TIED CARD OF 'cortegelaw14.MergeSides'. -/
def mergeSidesCard : Claim7 := { stood := { row := mergeSidesRow, standIns := [], harness := (true, "4708159603df6989e34a2b8ca53428086b737c458554e1411fe5176e8fe7b8cc"), looks := false }, kinds := [], alts := [], laidByText := true, laidKinds := [.data, .pinned], laidTests := true, laidLooks := .later }
def MergeSidesCardSaid : Prop := Claim7.holds Tryz.pinned (.plain (OpenSpec.ofChange mergeSidesSpec)) mergeSidesCard

/-- THE TIED CARD OF 'cortegelaw14.MergeMany'. -/
def mergeManyCard : Claim7 := { stood := { row := mergeManyRow, standIns := [], harness := (true, "4708159603df6989e34a2b8ca53428086b737c458554e1411fe5176e8fe7b8cc"), looks := false }, kinds := [], alts := [], laidByText := true, laidKinds := [.data, .pinned], laidTests := true, laidLooks := .later }
def MergeManyCardSaid : Prop := Claim7.holds Tryz.pinned (.plain (OpenSpec.ofChange mergeManySpec)) mergeManyCard

/-- THE TIED CARD OF 'cortegelaw14.MergeAhead'. -/
def mergeAheadCard : Claim7 := { stood := { row := mergeAheadRow, standIns := [], harness := (true, "4708159603df6989e34a2b8ca53428086b737c458554e1411fe5176e8fe7b8cc"), looks := false }, kinds := [], alts := [], laidByText := true, laidKinds := [.data, .pinned], laidTests := true, laidLooks := .later }
def MergeAheadCardSaid : Prop := Claim7.holds Tryz.pinned (.plain (OpenSpec.ofChange mergeAheadSpec)) mergeAheadCard

/-- THE TIED CARD OF 'cortegelaw21.TrainBegins'. -/
def trainBeginsCard : Claim7 := { stood := { row := trainBeginsRow, standIns := [], harness := (true, "4708159603df6989e34a2b8ca53428086b737c458554e1411fe5176e8fe7b8cc"), looks := false }, kinds := [], alts := [], laidByText := true, laidKinds := [.data, .pinned], laidTests := true, laidLooks := .later }
def TrainBeginsCardSaid : Prop := Claim7.holds Tryz.pinned (.plain (OpenSpec.ofChange trainBeginsSpec)) trainBeginsCard

/-- THE TIED CARD OF 'cortegelaw21.TrainEarly'. -/
def trainEarlyCard : Claim7 := { stood := { row := trainEarlyRow, standIns := [], harness := (true, "4708159603df6989e34a2b8ca53428086b737c458554e1411fe5176e8fe7b8cc"), looks := false }, kinds := [], alts := [], laidByText := true, laidKinds := [.data, .pinned], laidTests := true, laidLooks := .later }
def TrainEarlyCardSaid : Prop := Claim7.holds Tryz.pinned (.plain (OpenSpec.ofChange trainEarlySpec)) trainEarlyCard

/-- THE TIED CARD OF 'cortegelaw21.TrainApart'. -/
def trainApartCard : Claim7 := { stood := { row := trainApartRow, standIns := [], harness := (true, "4708159603df6989e34a2b8ca53428086b737c458554e1411fe5176e8fe7b8cc"), looks := false }, kinds := [], alts := [], laidByText := true, laidKinds := [.data, .pinned], laidTests := true, laidLooks := .later }
def TrainApartCardSaid : Prop := Claim7.holds Tryz.pinned (.plain (OpenSpec.ofChange trainApartSpec)) trainApartCard

/-- THE TIED CARD OF 'cortegelaw21.TrainTells'. -/
def trainTellsCard : Claim7 := { stood := { row := trainTellsRow, standIns := [], harness := (true, "4708159603df6989e34a2b8ca53428086b737c458554e1411fe5176e8fe7b8cc"), looks := false }, kinds := [], alts := [], laidByText := true, laidKinds := [.data, .pinned], laidTests := true, laidLooks := .later }
def TrainTellsCardSaid : Prop := Claim7.holds Tryz.pinned (.plain (OpenSpec.ofChange trainTellsSpec)) trainTellsCard

/-- THE TIED CARD OF 'cortegelaw21.TrainFull'. -/
def trainFullCard : Claim7 := { stood := { row := trainFullRow, standIns := [], harness := (true, "4708159603df6989e34a2b8ca53428086b737c458554e1411fe5176e8fe7b8cc"), looks := false }, kinds := [], alts := [], laidByText := true, laidKinds := [.data, .pinned], laidTests := true, laidLooks := .later }
def TrainFullCardSaid : Prop := Claim7.holds Tryz.pinned (.plain (OpenSpec.ofChange trainFullSpec)) trainFullCard

/-- THE SECOND FORM's CARD OF 'cortegelaw13.FoldTells'. -/
def foldTellsUptoCard : Claim7 := { stood := { row := foldTellsUptoRow, standIns := [], harness := (true, "4708159603df6989e34a2b8ca53428086b737c458554e1411fe5176e8fe7b8cc"), looks := false }, kinds := [], alts := [], laidByText := true, laidKinds := [.data, .pinned], laidTests := true, laidLooks := .later }
def FoldTellsUptoCardSaid : Prop := Claim7.holds Tryz.pinned (.plain (OpenSpec.upto foldTellsSpec)) foldTellsUptoCard

/-- THE SECOND FORM's CARD OF 'cortegelaw13.FoldCross'. -/
def foldCrossUptoCard : Claim7 := { stood := { row := foldCrossUptoRow, standIns := [], harness := (true, "4708159603df6989e34a2b8ca53428086b737c458554e1411fe5176e8fe7b8cc"), looks := false }, kinds := [], alts := [], laidByText := true, laidKinds := [.data, .pinned], laidTests := true, laidLooks := .later }
def FoldCrossUptoCardSaid : Prop := Claim7.holds Tryz.pinned (.plain (OpenSpec.upto foldCrossSpec)) foldCrossUptoCard

/-- THE SECOND FORM's CARD OF 'cortegelaw13.FoldOnly'. -/
def foldOnlyUptoCard : Claim7 := { stood := { row := foldOnlyUptoRow, standIns := [], harness := (true, "4708159603df6989e34a2b8ca53428086b737c458554e1411fe5176e8fe7b8cc"), looks := false }, kinds := [], alts := [], laidByText := true, laidKinds := [.data, .pinned], laidTests := true, laidLooks := .later }
def FoldOnlyUptoCardSaid : Prop := Claim7.holds Tryz.pinned (.plain (OpenSpec.upto foldOnlySpec)) foldOnlyUptoCard

/-- THE SECOND FORM's CARD OF 'cortegelaw14.MergeTells'. -/
def mergeTellsUptoCard : Claim7 := { stood := { row := mergeTellsUptoRow, standIns := [], harness := (true, "4708159603df6989e34a2b8ca53428086b737c458554e1411fe5176e8fe7b8cc"), looks := false }, kinds := [], alts := [], laidByText := true, laidKinds := [.data, .pinned], laidTests := true, laidLooks := .later }
def MergeTellsUptoCardSaid : Prop := Claim7.holds Tryz.pinned (.plain (OpenSpec.upto mergeTellsSpec)) mergeTellsUptoCard

/-- THE SECOND FORM's CARD OF 'cortegelaw14.MergeSides'. -/
def mergeSidesUptoCard : Claim7 := { stood := { row := mergeSidesUptoRow, standIns := [], harness := (true, "4708159603df6989e34a2b8ca53428086b737c458554e1411fe5176e8fe7b8cc"), looks := false }, kinds := [], alts := [], laidByText := true, laidKinds := [.data, .pinned], laidTests := true, laidLooks := .later }
def MergeSidesUptoCardSaid : Prop := Claim7.holds Tryz.pinned (.plain (OpenSpec.upto mergeSidesSpec)) mergeSidesUptoCard

/-- THE SECOND FORM's CARD OF 'cortegelaw14.MergeMany'. -/
def mergeManyUptoCard : Claim7 := { stood := { row := mergeManyUptoRow, standIns := [], harness := (true, "4708159603df6989e34a2b8ca53428086b737c458554e1411fe5176e8fe7b8cc"), looks := false }, kinds := [], alts := [], laidByText := true, laidKinds := [.data, .pinned], laidTests := true, laidLooks := .later }
def MergeManyUptoCardSaid : Prop := Claim7.holds Tryz.pinned (.plain (OpenSpec.upto mergeManySpec)) mergeManyUptoCard

/-- THE SECOND FORM's CARD OF 'cortegelaw14.MergeAhead'. -/
def mergeAheadUptoCard : Claim7 := { stood := { row := mergeAheadUptoRow, standIns := [], harness := (true, "4708159603df6989e34a2b8ca53428086b737c458554e1411fe5176e8fe7b8cc"), looks := false }, kinds := [], alts := [], laidByText := true, laidKinds := [.data, .pinned], laidTests := true, laidLooks := .later }
def MergeAheadUptoCardSaid : Prop := Claim7.holds Tryz.pinned (.plain (OpenSpec.upto mergeAheadSpec)) mergeAheadUptoCard

/-- THE SECOND FORM's CARD OF 'cortegelaw21.TrainBegins'. -/
def trainBeginsUptoCard : Claim7 := { stood := { row := trainBeginsUptoRow, standIns := [], harness := (true, "4708159603df6989e34a2b8ca53428086b737c458554e1411fe5176e8fe7b8cc"), looks := false }, kinds := [], alts := [], laidByText := true, laidKinds := [.data, .pinned], laidTests := true, laidLooks := .later }
def TrainBeginsUptoCardSaid : Prop := Claim7.holds Tryz.pinned (.plain (OpenSpec.upto trainBeginsSpec)) trainBeginsUptoCard

/-- THE SECOND FORM's CARD OF 'cortegelaw21.TrainEarly'. -/
def trainEarlyUptoCard : Claim7 := { stood := { row := trainEarlyUptoRow, standIns := [], harness := (true, "4708159603df6989e34a2b8ca53428086b737c458554e1411fe5176e8fe7b8cc"), looks := false }, kinds := [], alts := [], laidByText := true, laidKinds := [.data, .pinned], laidTests := true, laidLooks := .later }
def TrainEarlyUptoCardSaid : Prop := Claim7.holds Tryz.pinned (.plain (OpenSpec.upto trainEarlySpec)) trainEarlyUptoCard

/-- THE SECOND FORM's CARD OF 'cortegelaw21.TrainApart'. -/
def trainApartUptoCard : Claim7 := { stood := { row := trainApartUptoRow, standIns := [], harness := (true, "4708159603df6989e34a2b8ca53428086b737c458554e1411fe5176e8fe7b8cc"), looks := false }, kinds := [], alts := [], laidByText := true, laidKinds := [.data, .pinned], laidTests := true, laidLooks := .later }
def TrainApartUptoCardSaid : Prop := Claim7.holds Tryz.pinned (.plain (OpenSpec.upto trainApartSpec)) trainApartUptoCard

/-- THE SECOND FORM's CARD OF 'cortegelaw21.TrainTells'. -/
def trainTellsUptoCard : Claim7 := { stood := { row := trainTellsUptoRow, standIns := [], harness := (true, "4708159603df6989e34a2b8ca53428086b737c458554e1411fe5176e8fe7b8cc"), looks := false }, kinds := [], alts := [], laidByText := true, laidKinds := [.data, .pinned], laidTests := true, laidLooks := .later }
def TrainTellsUptoCardSaid : Prop := Claim7.holds Tryz.pinned (.plain (OpenSpec.upto trainTellsSpec)) trainTellsUptoCard

/-- THE SECOND FORM's CARD OF 'cortegelaw21.TrainFull'. -/
def trainFullUptoCard : Claim7 := { stood := { row := trainFullUptoRow, standIns := [], harness := (true, "4708159603df6989e34a2b8ca53428086b737c458554e1411fe5176e8fe7b8cc"), looks := false }, kinds := [], alts := [], laidByText := true, laidKinds := [.data, .pinned], laidTests := true, laidLooks := .later }
def TrainFullUptoCardSaid : Prop := Claim7.holds Tryz.pinned (.plain (OpenSpec.upto trainFullSpec)) trainFullUptoCard
end Rows
end Go.Proofs.YtgjbfkaepalkiaaGreatDoor
