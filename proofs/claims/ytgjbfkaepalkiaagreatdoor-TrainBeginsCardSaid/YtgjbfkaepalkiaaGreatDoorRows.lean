/-
  NARROWER THAN 'FOR EVERY INPUT', by the rows' own cells (each row's printed sentence says how): FoldTells: laid · FoldCross: laid · FoldOnly: laid · MergeTells: laid · MergeSides: laid · MergeMany: laid · MergeAhead: laid · TrainBegins: laid · TrainEarly: laid · TrainApart: laid · TrainTells: laid · TrainFull: laid.
  DERIVED. THE GIVEN ROWS OF THIS SEAT. 12 by the template 'for every input the law returns true; each argument reads behind the call as it read before'; 0 by the template 'total and deterministic' (their statements: YtgjbfkaepalkiaaGreatDoorTotals.lean).
  GIVEN WITH THE SEED: the statements are not yours to turn. If you find one false, say at which input.
  Laid BY PROGRAM, IN A SANDBOX (cutbox-rows.mjs): the forced cells as the released guide's own fill.sh prints them over the translation bbae95ae46cbe664… (all of the seat's roots in one cut). By AI agents, Wed Nov 11 2026. No macro, syntax, notation, axiom, sorry.
-/
import Derived.Test.YtgjbfkaepalkiaaGreatDoorChecked
import GoSem.PinnedTables
import GoSem.Claim
import GoSem.ClaimJoined
import GoSem.ClaimMapViews
import Derived.JoinedTies
import Derived.KernelRfl
namespace Go.Proofs.YtgjbfkaepalkiaaGreatDoor
/- THE CELL 'sum', in the pinned program and in every row, IS THE sha256 OF THE DUMP (.gsa) THAT YtgjbfkaepalkiaaGreatDoorProg.lean LOADS. Nothing in Lean hashes anything: it is a label: what it is worth is what the hold of that sum in a sandbox is worth. -/
noncomputable def Tryz.pinned : Pinned := { name := "ytgjbfkaepalkiaagreatdoor", sum := "bbae95ae46cbe6649a8ac45a6140489273010ac6eca555dbe36a27e1cd980d25", checked := Tryz.checked }
namespace Rows
def none {H : Type} : Left H := { results := [], args := [] }

/- WHAT THE LISTED PACKAGE-LEVEL VARIABLES READ AS WHEN THE CALL BEGINS. Each datum BY PROGRAM (the guide's laid-datum.mjs) off the statement by which the dump's own 'gosem.cut.vars' lays the variable. In a bare row this is a premise. The card (YtgjbfkaepalkiaaGreatDoorCards.lean) ties it to the program's text. -/
def laid_unicode_utf8_acceptRanges {H : Type} : DataW H := .agg [.agg [.lit (.int .u8 128), .lit (.int .u8 191)], .agg [.lit (.int .u8 160), .lit (.int .u8 191)], .agg [.lit (.int .u8 128), .lit (.int .u8 159)], .agg [.lit (.int .u8 144), .lit (.int .u8 191)], .agg [.lit (.int .u8 128), .lit (.int .u8 143)], .agg [.lit (.int .u8 0), .lit (.int .u8 0)], .agg [.lit (.int .u8 0), .lit (.int .u8 0)], .agg [.lit (.int .u8 0), .lit (.int .u8 0)], .agg [.lit (.int .u8 0), .lit (.int .u8 0)], .agg [.lit (.int .u8 0), .lit (.int .u8 0)], .agg [.lit (.int .u8 0), .lit (.int .u8 0)], .agg [.lit (.int .u8 0), .lit (.int .u8 0)], .agg [.lit (.int .u8 0), .lit (.int .u8 0)], .agg [.lit (.int .u8 0), .lit (.int .u8 0)], .agg [.lit (.int .u8 0), .lit (.int .u8 0)], .agg [.lit (.int .u8 0), .lit (.int .u8 0)]]
/-- One of Go's own tables, pinned by name: the form's constant. -/
def laid_unicode_utf8_first : DataW Unit := Go.Pinned.utf8First

/-- 'cortegelaw13.FoldTells': WHATEVER THE INPUT: true; the input reads as it did. -/
def foldTellsSpec : ChangeSpec := { name := "foldTells", fn := fun _ => fun
  | [d1, d2, d3, d4] => { results := [.lit (.bool true)], args := [d1, d2, d3, d4] }
  | _ => none }
def foldTellsRow : OpenClaim := { program := "ytgjbfkaepalkiaagreatdoor", sum := "bbae95ae46cbe6649a8ac45a6140489273010ac6eca555dbe36a27e1cd980d25", func := "cortege/cortegelaw13.FoldTells", spec := "foldTells", inPlace := ["internal/bytealg.CountString", "internal/bytealg.IndexByteString", "internal/bytealg.IndexString", "slices.overlaps[int]", "internal/abi.NoEscape", "internal/bytealg.MakeNoZero"], unfollowed := true, recurses := true, named := ["unicode/utf8.first", "unicode/utf8.acceptRanges", "internal/bytealg.MaxLen"], apart := false, laid := [("unicode/utf8.acceptRanges", laid_unicode_utf8_acceptRanges), ("unicode/utf8.first", laid_unicode_utf8_first)] }
def FoldTellsSaid : Prop := foldTellsRow.holds Tryz.pinned (OpenSpec.ofChange foldTellsSpec)

/-- ITS FALSE NEIGHBOUR: 'it returns false'. Refute it at one input. -/
def foldTellsWrong : ChangeSpec := { name := "foldTells", fn := fun _ => fun
  | [d1, d2, d3, d4] => { results := [.lit (.bool false)], args := [d1, d2, d3, d4] }
  | _ => none }
def FoldTellsWrongFalsely : Prop := foldTellsRow.holds Tryz.pinned (OpenSpec.ofChange foldTellsWrong)

/-- 'cortegelaw13.FoldCross': WHATEVER THE INPUT: true; the input reads as it did. -/
def foldCrossSpec : ChangeSpec := { name := "foldCross", fn := fun _ => fun
  | [d1, d2, d3] => { results := [.lit (.bool true)], args := [d1, d2, d3] }
  | _ => none }
def foldCrossRow : OpenClaim := { program := "ytgjbfkaepalkiaagreatdoor", sum := "bbae95ae46cbe6649a8ac45a6140489273010ac6eca555dbe36a27e1cd980d25", func := "cortege/cortegelaw13.FoldCross", spec := "foldCross", inPlace := ["internal/bytealg.CountString", "internal/bytealg.IndexByteString", "internal/bytealg.IndexString", "slices.overlaps[int]", "internal/abi.NoEscape", "internal/bytealg.MakeNoZero"], unfollowed := true, recurses := true, named := ["unicode/utf8.first", "unicode/utf8.acceptRanges", "internal/bytealg.MaxLen"], apart := false, laid := [("unicode/utf8.acceptRanges", laid_unicode_utf8_acceptRanges), ("unicode/utf8.first", laid_unicode_utf8_first)] }
def FoldCrossSaid : Prop := foldCrossRow.holds Tryz.pinned (OpenSpec.ofChange foldCrossSpec)

/-- ITS FALSE NEIGHBOUR: 'it returns false'. Refute it at one input. -/
def foldCrossWrong : ChangeSpec := { name := "foldCross", fn := fun _ => fun
  | [d1, d2, d3] => { results := [.lit (.bool false)], args := [d1, d2, d3] }
  | _ => none }
def FoldCrossWrongFalsely : Prop := foldCrossRow.holds Tryz.pinned (OpenSpec.ofChange foldCrossWrong)

/-- 'cortegelaw13.FoldOnly': WHATEVER THE INPUT: true; the input reads as it did. -/
def foldOnlySpec : ChangeSpec := { name := "foldOnly", fn := fun _ => fun
  | [d1, d2, d3] => { results := [.lit (.bool true)], args := [d1, d2, d3] }
  | _ => none }
def foldOnlyRow : OpenClaim := { program := "ytgjbfkaepalkiaagreatdoor", sum := "bbae95ae46cbe6649a8ac45a6140489273010ac6eca555dbe36a27e1cd980d25", func := "cortege/cortegelaw13.FoldOnly", spec := "foldOnly", inPlace := ["internal/bytealg.CountString", "internal/bytealg.IndexByteString", "internal/bytealg.IndexString", "slices.overlaps[int]", "internal/abi.NoEscape", "internal/bytealg.MakeNoZero"], unfollowed := true, recurses := true, named := ["unicode/utf8.first", "unicode/utf8.acceptRanges", "internal/bytealg.MaxLen"], apart := false, laid := [("unicode/utf8.acceptRanges", laid_unicode_utf8_acceptRanges), ("unicode/utf8.first", laid_unicode_utf8_first)] }
def FoldOnlySaid : Prop := foldOnlyRow.holds Tryz.pinned (OpenSpec.ofChange foldOnlySpec)

/-- ITS FALSE NEIGHBOUR: 'it returns false'. Refute it at one input. -/
def foldOnlyWrong : ChangeSpec := { name := "foldOnly", fn := fun _ => fun
  | [d1, d2, d3] => { results := [.lit (.bool false)], args := [d1, d2, d3] }
  | _ => none }
def FoldOnlyWrongFalsely : Prop := foldOnlyRow.holds Tryz.pinned (OpenSpec.ofChange foldOnlyWrong)

/-- 'cortegelaw14.MergeTells': WHATEVER THE INPUT: true; the input reads as it did. -/
def mergeTellsSpec : ChangeSpec := { name := "mergeTells", fn := fun _ => fun
  | [d1, d2, d3] => { results := [.lit (.bool true)], args := [d1, d2, d3] }
  | _ => none }
def mergeTellsRow : OpenClaim := { program := "ytgjbfkaepalkiaagreatdoor", sum := "bbae95ae46cbe6649a8ac45a6140489273010ac6eca555dbe36a27e1cd980d25", func := "cortege/cortegelaw14.MergeTells", spec := "mergeTells", inPlace := ["internal/bytealg.CountString", "internal/bytealg.IndexByteString", "internal/bytealg.IndexString", "slices.overlaps[int]", "internal/abi.NoEscape", "internal/bytealg.MakeNoZero"], unfollowed := true, recurses := true, named := ["unicode/utf8.first", "unicode/utf8.acceptRanges", "internal/bytealg.MaxLen"], apart := false, laid := [("unicode/utf8.acceptRanges", laid_unicode_utf8_acceptRanges), ("unicode/utf8.first", laid_unicode_utf8_first)] }
def MergeTellsSaid : Prop := mergeTellsRow.holds Tryz.pinned (OpenSpec.ofChange mergeTellsSpec)

/-- ITS FALSE NEIGHBOUR: 'it returns false'. Refute it at one input. -/
def mergeTellsWrong : ChangeSpec := { name := "mergeTells", fn := fun _ => fun
  | [d1, d2, d3] => { results := [.lit (.bool false)], args := [d1, d2, d3] }
  | _ => none }
def MergeTellsWrongFalsely : Prop := mergeTellsRow.holds Tryz.pinned (OpenSpec.ofChange mergeTellsWrong)

/-- 'cortegelaw14.MergeSides': WHATEVER THE INPUT: true; the input reads as it did. -/
def mergeSidesSpec : ChangeSpec := { name := "mergeSides", fn := fun _ => fun
  | [d1, d2, d3] => { results := [.lit (.bool true)], args := [d1, d2, d3] }
  | _ => none }
def mergeSidesRow : OpenClaim := { program := "ytgjbfkaepalkiaagreatdoor", sum := "bbae95ae46cbe6649a8ac45a6140489273010ac6eca555dbe36a27e1cd980d25", func := "cortege/cortegelaw14.MergeSides", spec := "mergeSides", inPlace := ["internal/bytealg.CountString", "internal/bytealg.IndexByteString", "internal/bytealg.IndexString", "slices.overlaps[int]", "internal/abi.NoEscape", "internal/bytealg.MakeNoZero"], unfollowed := true, recurses := true, named := ["unicode/utf8.first", "unicode/utf8.acceptRanges", "internal/bytealg.MaxLen"], apart := false, laid := [("unicode/utf8.acceptRanges", laid_unicode_utf8_acceptRanges), ("unicode/utf8.first", laid_unicode_utf8_first)] }
def MergeSidesSaid : Prop := mergeSidesRow.holds Tryz.pinned (OpenSpec.ofChange mergeSidesSpec)

/-- ITS FALSE NEIGHBOUR: 'it returns false'. Refute it at one input. -/
def mergeSidesWrong : ChangeSpec := { name := "mergeSides", fn := fun _ => fun
  | [d1, d2, d3] => { results := [.lit (.bool false)], args := [d1, d2, d3] }
  | _ => none }
def MergeSidesWrongFalsely : Prop := mergeSidesRow.holds Tryz.pinned (OpenSpec.ofChange mergeSidesWrong)

/-- 'cortegelaw14.MergeMany': WHATEVER THE INPUT: true; the input reads as it did. -/
def mergeManySpec : ChangeSpec := { name := "mergeMany", fn := fun _ => fun
  | [d1, d2] => { results := [.lit (.bool true)], args := [d1, d2] }
  | _ => none }
def mergeManyRow : OpenClaim := { program := "ytgjbfkaepalkiaagreatdoor", sum := "bbae95ae46cbe6649a8ac45a6140489273010ac6eca555dbe36a27e1cd980d25", func := "cortege/cortegelaw14.MergeMany", spec := "mergeMany", inPlace := ["internal/bytealg.CountString", "internal/bytealg.IndexByteString", "internal/bytealg.IndexString", "slices.overlaps[int]", "internal/abi.NoEscape", "internal/bytealg.MakeNoZero"], unfollowed := true, recurses := true, named := ["unicode/utf8.first", "unicode/utf8.acceptRanges", "internal/bytealg.MaxLen"], apart := false, laid := [("unicode/utf8.acceptRanges", laid_unicode_utf8_acceptRanges), ("unicode/utf8.first", laid_unicode_utf8_first)] }
def MergeManySaid : Prop := mergeManyRow.holds Tryz.pinned (OpenSpec.ofChange mergeManySpec)

/-- ITS FALSE NEIGHBOUR: 'it returns false'. Refute it at one input. -/
def mergeManyWrong : ChangeSpec := { name := "mergeMany", fn := fun _ => fun
  | [d1, d2] => { results := [.lit (.bool false)], args := [d1, d2] }
  | _ => none }
def MergeManyWrongFalsely : Prop := mergeManyRow.holds Tryz.pinned (OpenSpec.ofChange mergeManyWrong)

/-- 'cortegelaw14.MergeAhead': WHATEVER THE INPUT: true; the input reads as it did. -/
def mergeAheadSpec : ChangeSpec := { name := "mergeAhead", fn := fun _ => fun
  | [d1, d2, d3] => { results := [.lit (.bool true)], args := [d1, d2, d3] }
  | _ => none }
def mergeAheadRow : OpenClaim := { program := "ytgjbfkaepalkiaagreatdoor", sum := "bbae95ae46cbe6649a8ac45a6140489273010ac6eca555dbe36a27e1cd980d25", func := "cortege/cortegelaw14.MergeAhead", spec := "mergeAhead", inPlace := ["internal/bytealg.CountString", "internal/bytealg.IndexByteString", "internal/bytealg.IndexString", "slices.overlaps[int]", "internal/abi.NoEscape", "internal/bytealg.MakeNoZero"], unfollowed := true, recurses := true, named := ["unicode/utf8.first", "unicode/utf8.acceptRanges", "internal/bytealg.MaxLen"], apart := false, laid := [("unicode/utf8.acceptRanges", laid_unicode_utf8_acceptRanges), ("unicode/utf8.first", laid_unicode_utf8_first)] }
def MergeAheadSaid : Prop := mergeAheadRow.holds Tryz.pinned (OpenSpec.ofChange mergeAheadSpec)

/-- ITS FALSE NEIGHBOUR: 'it returns false'. Refute it at one input. -/
def mergeAheadWrong : ChangeSpec := { name := "mergeAhead", fn := fun _ => fun
  | [d1, d2, d3] => { results := [.lit (.bool false)], args := [d1, d2, d3] }
  | _ => none }
def MergeAheadWrongFalsely : Prop := mergeAheadRow.holds Tryz.pinned (OpenSpec.ofChange mergeAheadWrong)

/-- 'cortegelaw21.TrainBegins': WHATEVER THE INPUT: true; the input reads as it did. -/
def trainBeginsSpec : ChangeSpec := { name := "trainBegins", fn := fun _ => fun
  | [d1, d2, d3, d4, d5] => { results := [.lit (.bool true)], args := [d1, d2, d3, d4, d5] }
  | _ => none }
def trainBeginsRow : OpenClaim := { program := "ytgjbfkaepalkiaagreatdoor", sum := "bbae95ae46cbe6649a8ac45a6140489273010ac6eca555dbe36a27e1cd980d25", func := "cortege/cortegelaw21.TrainBegins", spec := "trainBegins", inPlace := ["internal/bytealg.CountString", "internal/bytealg.IndexByteString", "internal/bytealg.IndexString", "slices.overlaps[int]", "internal/abi.NoEscape", "internal/bytealg.MakeNoZero"], unfollowed := true, recurses := true, named := ["unicode/utf8.first", "unicode/utf8.acceptRanges", "internal/bytealg.MaxLen"], apart := false, laid := [("unicode/utf8.acceptRanges", laid_unicode_utf8_acceptRanges), ("unicode/utf8.first", laid_unicode_utf8_first)] }
def TrainBeginsSaid : Prop := trainBeginsRow.holds Tryz.pinned (OpenSpec.ofChange trainBeginsSpec)

/-- ITS FALSE NEIGHBOUR: 'it returns false'. Refute it at one input. -/
def trainBeginsWrong : ChangeSpec := { name := "trainBegins", fn := fun _ => fun
  | [d1, d2, d3, d4, d5] => { results := [.lit (.bool false)], args := [d1, d2, d3, d4, d5] }
  | _ => none }
def TrainBeginsWrongFalsely : Prop := trainBeginsRow.holds Tryz.pinned (OpenSpec.ofChange trainBeginsWrong)

/-- 'cortegelaw21.TrainEarly': WHATEVER THE INPUT: true; the input reads as it did. -/
def trainEarlySpec : ChangeSpec := { name := "trainEarly", fn := fun _ => fun
  | [d1, d2, d3, d4] => { results := [.lit (.bool true)], args := [d1, d2, d3, d4] }
  | _ => none }
def trainEarlyRow : OpenClaim := { program := "ytgjbfkaepalkiaagreatdoor", sum := "bbae95ae46cbe6649a8ac45a6140489273010ac6eca555dbe36a27e1cd980d25", func := "cortege/cortegelaw21.TrainEarly", spec := "trainEarly", inPlace := ["internal/bytealg.CountString", "internal/bytealg.IndexByteString", "internal/bytealg.IndexString", "slices.overlaps[int]", "internal/abi.NoEscape", "internal/bytealg.MakeNoZero"], unfollowed := true, recurses := true, named := ["unicode/utf8.first", "unicode/utf8.acceptRanges", "internal/bytealg.MaxLen"], apart := false, laid := [("unicode/utf8.acceptRanges", laid_unicode_utf8_acceptRanges), ("unicode/utf8.first", laid_unicode_utf8_first)] }
def TrainEarlySaid : Prop := trainEarlyRow.holds Tryz.pinned (OpenSpec.ofChange trainEarlySpec)

/-- ITS FALSE NEIGHBOUR: 'it returns false'. Refute it at one input. -/
def trainEarlyWrong : ChangeSpec := { name := "trainEarly", fn := fun _ => fun
  | [d1, d2, d3, d4] => { results := [.lit (.bool false)], args := [d1, d2, d3, d4] }
  | _ => none }
def TrainEarlyWrongFalsely : Prop := trainEarlyRow.holds Tryz.pinned (OpenSpec.ofChange trainEarlyWrong)

/-- 'cortegelaw21.TrainApart': WHATEVER THE INPUT: true; the input reads as it did. -/
def trainApartSpec : ChangeSpec := { name := "trainApart", fn := fun _ => fun
  | [d1, d2] => { results := [.lit (.bool true)], args := [d1, d2] }
  | _ => none }
def trainApartRow : OpenClaim := { program := "ytgjbfkaepalkiaagreatdoor", sum := "bbae95ae46cbe6649a8ac45a6140489273010ac6eca555dbe36a27e1cd980d25", func := "cortege/cortegelaw21.TrainApart", spec := "trainApart", inPlace := ["internal/bytealg.CountString", "internal/bytealg.IndexByteString", "internal/bytealg.IndexString", "slices.overlaps[int]", "internal/abi.NoEscape", "internal/bytealg.MakeNoZero"], unfollowed := true, recurses := true, named := ["unicode/utf8.first", "unicode/utf8.acceptRanges", "internal/bytealg.MaxLen"], apart := false, laid := [("unicode/utf8.acceptRanges", laid_unicode_utf8_acceptRanges), ("unicode/utf8.first", laid_unicode_utf8_first)] }
def TrainApartSaid : Prop := trainApartRow.holds Tryz.pinned (OpenSpec.ofChange trainApartSpec)

/-- ITS FALSE NEIGHBOUR: 'it returns false'. Refute it at one input. -/
def trainApartWrong : ChangeSpec := { name := "trainApart", fn := fun _ => fun
  | [d1, d2] => { results := [.lit (.bool false)], args := [d1, d2] }
  | _ => none }
def TrainApartWrongFalsely : Prop := trainApartRow.holds Tryz.pinned (OpenSpec.ofChange trainApartWrong)

/-- 'cortegelaw21.TrainTells': WHATEVER THE INPUT: true; the input reads as it did. -/
def trainTellsSpec : ChangeSpec := { name := "trainTells", fn := fun _ => fun
  | [d1, d2, d3, d4] => { results := [.lit (.bool true)], args := [d1, d2, d3, d4] }
  | _ => none }
def trainTellsRow : OpenClaim := { program := "ytgjbfkaepalkiaagreatdoor", sum := "bbae95ae46cbe6649a8ac45a6140489273010ac6eca555dbe36a27e1cd980d25", func := "cortege/cortegelaw21.TrainTells", spec := "trainTells", inPlace := ["internal/bytealg.CountString", "internal/bytealg.IndexByteString", "internal/bytealg.IndexString", "slices.overlaps[int]", "internal/abi.NoEscape", "internal/bytealg.MakeNoZero"], unfollowed := true, recurses := true, named := ["unicode/utf8.first", "unicode/utf8.acceptRanges", "internal/bytealg.MaxLen"], apart := false, laid := [("unicode/utf8.acceptRanges", laid_unicode_utf8_acceptRanges), ("unicode/utf8.first", laid_unicode_utf8_first)] }
def TrainTellsSaid : Prop := trainTellsRow.holds Tryz.pinned (OpenSpec.ofChange trainTellsSpec)

/-- ITS FALSE NEIGHBOUR: 'it returns false'. Refute it at one input. -/
def trainTellsWrong : ChangeSpec := { name := "trainTells", fn := fun _ => fun
  | [d1, d2, d3, d4] => { results := [.lit (.bool false)], args := [d1, d2, d3, d4] }
  | _ => none }
def TrainTellsWrongFalsely : Prop := trainTellsRow.holds Tryz.pinned (OpenSpec.ofChange trainTellsWrong)

/-- 'cortegelaw21.TrainFull': WHATEVER THE INPUT: true; the input reads as it did. -/
def trainFullSpec : ChangeSpec := { name := "trainFull", fn := fun _ => fun
  | [d1, d2] => { results := [.lit (.bool true)], args := [d1, d2] }
  | _ => none }
def trainFullRow : OpenClaim := { program := "ytgjbfkaepalkiaagreatdoor", sum := "bbae95ae46cbe6649a8ac45a6140489273010ac6eca555dbe36a27e1cd980d25", func := "cortege/cortegelaw21.TrainFull", spec := "trainFull", inPlace := ["internal/bytealg.CountString", "internal/bytealg.IndexByteString", "internal/bytealg.IndexString", "slices.overlaps[int]", "internal/abi.NoEscape", "internal/bytealg.MakeNoZero"], unfollowed := true, recurses := true, named := ["unicode/utf8.first", "unicode/utf8.acceptRanges", "internal/bytealg.MaxLen"], apart := false, laid := [("unicode/utf8.acceptRanges", laid_unicode_utf8_acceptRanges), ("unicode/utf8.first", laid_unicode_utf8_first)] }
def TrainFullSaid : Prop := trainFullRow.holds Tryz.pinned (OpenSpec.ofChange trainFullSpec)

/-- ITS FALSE NEIGHBOUR: 'it returns false'. Refute it at one input. -/
def trainFullWrong : ChangeSpec := { name := "trainFull", fn := fun _ => fun
  | [d1, d2] => { results := [.lit (.bool false)], args := [d1, d2] }
  | _ => none }
def TrainFullWrongFalsely : Prop := trainFullRow.holds Tryz.pinned (OpenSpec.ofChange trainFullWrong)

/- THE SECOND FORM. 'bulk': how many values and letters a reading holds, each counted each time it is reached (what is shared counts as often as it is met; a slice's spare places count too). A statement '..UptoSaid' is the law's where the arguments, and the package variables that the reading takes, are together of bulk at most 1048576: NARROWER than '..Said'. Prove '..Said' where nothing that the law and all that it calls make is longer than what came in: it says more and counts as full. Else prove '..UptoSaid'. A law counts once. -/
mutual
def uptoBulk {H : Type} : DataW H → Nat
  | .lit (.string bytes) => bytes.length + 1
  | .lit _ => 1
  | .nil => 1
  | .ptr d => uptoBulk d + 1
  | .slice elems spare => uptoBulkAll elems + uptoBulkAll spare + 1
  | .agg parts => uptoBulkAll parts + 1
  | .iface _ d => uptoBulk d + 1
  | .map entries => uptoBulkEntries entries + 1
  | .held _ => 1
def uptoBulkAll {H : Type} : List (DataW H) → Nat
  | [] => 0
  | d :: r => uptoBulk d + uptoBulkAll r
def uptoBulkEntries {H : Type} : List (Lit × DataW H) → Nat
  | [] => 0
  | x :: r => uptoBulkEntry x + uptoBulkEntries r
def uptoBulkEntry {H : Type} : Lit × DataW H → Nat
  | (.string bytes, d) => bytes.length + uptoBulk d + 1
  | (_, d) => uptoBulk d + 1
 end
def uptoSmall : (H : Type) → List (DataW H) → Bool := fun _ ds => decide (uptoBulkAll ds ≤ 1048576)
def OpenSpec.upto (s : _root_.Go.ChangeSpec) : _root_.Go.OpenSpec := { _root_.Go.OpenSpec.ofChange s with cond := some uptoSmall }

/-- 'cortegelaw13.FoldTells', WHERE WHAT IT READS IS OF BULK AT MOST 1048576: true; the input reads as it did. -/
def foldTellsUptoRow : OpenClaim := { program := "ytgjbfkaepalkiaagreatdoor", sum := "bbae95ae46cbe6649a8ac45a6140489273010ac6eca555dbe36a27e1cd980d25", func := "cortege/cortegelaw13.FoldTells", spec := "foldTells", inPlace := ["internal/bytealg.CountString", "internal/bytealg.IndexByteString", "internal/bytealg.IndexString", "slices.overlaps[int]", "internal/abi.NoEscape", "internal/bytealg.MakeNoZero"], unfollowed := true, recurses := true, named := ["unicode/utf8.first", "unicode/utf8.acceptRanges", "internal/bytealg.MaxLen"], apart := false, laid := [("unicode/utf8.acceptRanges", laid_unicode_utf8_acceptRanges), ("unicode/utf8.first", laid_unicode_utf8_first)], narrowed := true }
def FoldTellsUptoSaid : Prop := foldTellsUptoRow.holds Tryz.pinned (OpenSpec.upto foldTellsSpec)

/-- 'cortegelaw13.FoldCross', WHERE WHAT IT READS IS OF BULK AT MOST 1048576: true; the input reads as it did. -/
def foldCrossUptoRow : OpenClaim := { program := "ytgjbfkaepalkiaagreatdoor", sum := "bbae95ae46cbe6649a8ac45a6140489273010ac6eca555dbe36a27e1cd980d25", func := "cortege/cortegelaw13.FoldCross", spec := "foldCross", inPlace := ["internal/bytealg.CountString", "internal/bytealg.IndexByteString", "internal/bytealg.IndexString", "slices.overlaps[int]", "internal/abi.NoEscape", "internal/bytealg.MakeNoZero"], unfollowed := true, recurses := true, named := ["unicode/utf8.first", "unicode/utf8.acceptRanges", "internal/bytealg.MaxLen"], apart := false, laid := [("unicode/utf8.acceptRanges", laid_unicode_utf8_acceptRanges), ("unicode/utf8.first", laid_unicode_utf8_first)], narrowed := true }
def FoldCrossUptoSaid : Prop := foldCrossUptoRow.holds Tryz.pinned (OpenSpec.upto foldCrossSpec)

/-- 'cortegelaw13.FoldOnly', WHERE WHAT IT READS IS OF BULK AT MOST 1048576: true; the input reads as it did. -/
def foldOnlyUptoRow : OpenClaim := { program := "ytgjbfkaepalkiaagreatdoor", sum := "bbae95ae46cbe6649a8ac45a6140489273010ac6eca555dbe36a27e1cd980d25", func := "cortege/cortegelaw13.FoldOnly", spec := "foldOnly", inPlace := ["internal/bytealg.CountString", "internal/bytealg.IndexByteString", "internal/bytealg.IndexString", "slices.overlaps[int]", "internal/abi.NoEscape", "internal/bytealg.MakeNoZero"], unfollowed := true, recurses := true, named := ["unicode/utf8.first", "unicode/utf8.acceptRanges", "internal/bytealg.MaxLen"], apart := false, laid := [("unicode/utf8.acceptRanges", laid_unicode_utf8_acceptRanges), ("unicode/utf8.first", laid_unicode_utf8_first)], narrowed := true }
def FoldOnlyUptoSaid : Prop := foldOnlyUptoRow.holds Tryz.pinned (OpenSpec.upto foldOnlySpec)

/-- 'cortegelaw14.MergeTells', WHERE WHAT IT READS IS OF BULK AT MOST 1048576: true; the input reads as it did. -/
def mergeTellsUptoRow : OpenClaim := { program := "ytgjbfkaepalkiaagreatdoor", sum := "bbae95ae46cbe6649a8ac45a6140489273010ac6eca555dbe36a27e1cd980d25", func := "cortege/cortegelaw14.MergeTells", spec := "mergeTells", inPlace := ["internal/bytealg.CountString", "internal/bytealg.IndexByteString", "internal/bytealg.IndexString", "slices.overlaps[int]", "internal/abi.NoEscape", "internal/bytealg.MakeNoZero"], unfollowed := true, recurses := true, named := ["unicode/utf8.first", "unicode/utf8.acceptRanges", "internal/bytealg.MaxLen"], apart := false, laid := [("unicode/utf8.acceptRanges", laid_unicode_utf8_acceptRanges), ("unicode/utf8.first", laid_unicode_utf8_first)], narrowed := true }
def MergeTellsUptoSaid : Prop := mergeTellsUptoRow.holds Tryz.pinned (OpenSpec.upto mergeTellsSpec)

/-- 'cortegelaw14.MergeSides', WHERE WHAT IT READS IS OF BULK AT MOST 1048576: true; the input reads as it did. -/
def mergeSidesUptoRow : OpenClaim := { program := "ytgjbfkaepalkiaagreatdoor", sum := "bbae95ae46cbe6649a8ac45a6140489273010ac6eca555dbe36a27e1cd980d25", func := "cortege/cortegelaw14.MergeSides", spec := "mergeSides", inPlace := ["internal/bytealg.CountString", "internal/bytealg.IndexByteString", "internal/bytealg.IndexString", "slices.overlaps[int]", "internal/abi.NoEscape", "internal/bytealg.MakeNoZero"], unfollowed := true, recurses := true, named := ["unicode/utf8.first", "unicode/utf8.acceptRanges", "internal/bytealg.MaxLen"], apart := false, laid := [("unicode/utf8.acceptRanges", laid_unicode_utf8_acceptRanges), ("unicode/utf8.first", laid_unicode_utf8_first)], narrowed := true }
def MergeSidesUptoSaid : Prop := mergeSidesUptoRow.holds Tryz.pinned (OpenSpec.upto mergeSidesSpec)

/-- 'cortegelaw14.MergeMany', WHERE WHAT IT READS IS OF BULK AT MOST 1048576: true; the input reads as it did. -/
def mergeManyUptoRow : OpenClaim := { program := "ytgjbfkaepalkiaagreatdoor", sum := "bbae95ae46cbe6649a8ac45a6140489273010ac6eca555dbe36a27e1cd980d25", func := "cortege/cortegelaw14.MergeMany", spec := "mergeMany", inPlace := ["internal/bytealg.CountString", "internal/bytealg.IndexByteString", "internal/bytealg.IndexString", "slices.overlaps[int]", "internal/abi.NoEscape", "internal/bytealg.MakeNoZero"], unfollowed := true, recurses := true, named := ["unicode/utf8.first", "unicode/utf8.acceptRanges", "internal/bytealg.MaxLen"], apart := false, laid := [("unicode/utf8.acceptRanges", laid_unicode_utf8_acceptRanges), ("unicode/utf8.first", laid_unicode_utf8_first)], narrowed := true }
def MergeManyUptoSaid : Prop := mergeManyUptoRow.holds Tryz.pinned (OpenSpec.upto mergeManySpec)

/-- 'cortegelaw14.MergeAhead', WHERE WHAT IT READS IS OF BULK AT MOST 1048576: true; the input reads as it did. -/
def mergeAheadUptoRow : OpenClaim := { program := "ytgjbfkaepalkiaagreatdoor", sum := "bbae95ae46cbe6649a8ac45a6140489273010ac6eca555dbe36a27e1cd980d25", func := "cortege/cortegelaw14.MergeAhead", spec := "mergeAhead", inPlace := ["internal/bytealg.CountString", "internal/bytealg.IndexByteString", "internal/bytealg.IndexString", "slices.overlaps[int]", "internal/abi.NoEscape", "internal/bytealg.MakeNoZero"], unfollowed := true, recurses := true, named := ["unicode/utf8.first", "unicode/utf8.acceptRanges", "internal/bytealg.MaxLen"], apart := false, laid := [("unicode/utf8.acceptRanges", laid_unicode_utf8_acceptRanges), ("unicode/utf8.first", laid_unicode_utf8_first)], narrowed := true }
def MergeAheadUptoSaid : Prop := mergeAheadUptoRow.holds Tryz.pinned (OpenSpec.upto mergeAheadSpec)

/-- 'cortegelaw21.TrainBegins', WHERE WHAT IT READS IS OF BULK AT MOST 1048576: true; the input reads as it did. -/
def trainBeginsUptoRow : OpenClaim := { program := "ytgjbfkaepalkiaagreatdoor", sum := "bbae95ae46cbe6649a8ac45a6140489273010ac6eca555dbe36a27e1cd980d25", func := "cortege/cortegelaw21.TrainBegins", spec := "trainBegins", inPlace := ["internal/bytealg.CountString", "internal/bytealg.IndexByteString", "internal/bytealg.IndexString", "slices.overlaps[int]", "internal/abi.NoEscape", "internal/bytealg.MakeNoZero"], unfollowed := true, recurses := true, named := ["unicode/utf8.first", "unicode/utf8.acceptRanges", "internal/bytealg.MaxLen"], apart := false, laid := [("unicode/utf8.acceptRanges", laid_unicode_utf8_acceptRanges), ("unicode/utf8.first", laid_unicode_utf8_first)], narrowed := true }
def TrainBeginsUptoSaid : Prop := trainBeginsUptoRow.holds Tryz.pinned (OpenSpec.upto trainBeginsSpec)

/-- 'cortegelaw21.TrainEarly', WHERE WHAT IT READS IS OF BULK AT MOST 1048576: true; the input reads as it did. -/
def trainEarlyUptoRow : OpenClaim := { program := "ytgjbfkaepalkiaagreatdoor", sum := "bbae95ae46cbe6649a8ac45a6140489273010ac6eca555dbe36a27e1cd980d25", func := "cortege/cortegelaw21.TrainEarly", spec := "trainEarly", inPlace := ["internal/bytealg.CountString", "internal/bytealg.IndexByteString", "internal/bytealg.IndexString", "slices.overlaps[int]", "internal/abi.NoEscape", "internal/bytealg.MakeNoZero"], unfollowed := true, recurses := true, named := ["unicode/utf8.first", "unicode/utf8.acceptRanges", "internal/bytealg.MaxLen"], apart := false, laid := [("unicode/utf8.acceptRanges", laid_unicode_utf8_acceptRanges), ("unicode/utf8.first", laid_unicode_utf8_first)], narrowed := true }
def TrainEarlyUptoSaid : Prop := trainEarlyUptoRow.holds Tryz.pinned (OpenSpec.upto trainEarlySpec)

/-- 'cortegelaw21.TrainApart', WHERE WHAT IT READS IS OF BULK AT MOST 1048576: true; the input reads as it did. -/
def trainApartUptoRow : OpenClaim := { program := "ytgjbfkaepalkiaagreatdoor", sum := "bbae95ae46cbe6649a8ac45a6140489273010ac6eca555dbe36a27e1cd980d25", func := "cortege/cortegelaw21.TrainApart", spec := "trainApart", inPlace := ["internal/bytealg.CountString", "internal/bytealg.IndexByteString", "internal/bytealg.IndexString", "slices.overlaps[int]", "internal/abi.NoEscape", "internal/bytealg.MakeNoZero"], unfollowed := true, recurses := true, named := ["unicode/utf8.first", "unicode/utf8.acceptRanges", "internal/bytealg.MaxLen"], apart := false, laid := [("unicode/utf8.acceptRanges", laid_unicode_utf8_acceptRanges), ("unicode/utf8.first", laid_unicode_utf8_first)], narrowed := true }
def TrainApartUptoSaid : Prop := trainApartUptoRow.holds Tryz.pinned (OpenSpec.upto trainApartSpec)

/-- 'cortegelaw21.TrainTells', WHERE WHAT IT READS IS OF BULK AT MOST 1048576: true; the input reads as it did. -/
def trainTellsUptoRow : OpenClaim := { program := "ytgjbfkaepalkiaagreatdoor", sum := "bbae95ae46cbe6649a8ac45a6140489273010ac6eca555dbe36a27e1cd980d25", func := "cortege/cortegelaw21.TrainTells", spec := "trainTells", inPlace := ["internal/bytealg.CountString", "internal/bytealg.IndexByteString", "internal/bytealg.IndexString", "slices.overlaps[int]", "internal/abi.NoEscape", "internal/bytealg.MakeNoZero"], unfollowed := true, recurses := true, named := ["unicode/utf8.first", "unicode/utf8.acceptRanges", "internal/bytealg.MaxLen"], apart := false, laid := [("unicode/utf8.acceptRanges", laid_unicode_utf8_acceptRanges), ("unicode/utf8.first", laid_unicode_utf8_first)], narrowed := true }
def TrainTellsUptoSaid : Prop := trainTellsUptoRow.holds Tryz.pinned (OpenSpec.upto trainTellsSpec)

/-- 'cortegelaw21.TrainFull', WHERE WHAT IT READS IS OF BULK AT MOST 1048576: true; the input reads as it did. -/
def trainFullUptoRow : OpenClaim := { program := "ytgjbfkaepalkiaagreatdoor", sum := "bbae95ae46cbe6649a8ac45a6140489273010ac6eca555dbe36a27e1cd980d25", func := "cortege/cortegelaw21.TrainFull", spec := "trainFull", inPlace := ["internal/bytealg.CountString", "internal/bytealg.IndexByteString", "internal/bytealg.IndexString", "slices.overlaps[int]", "internal/abi.NoEscape", "internal/bytealg.MakeNoZero"], unfollowed := true, recurses := true, named := ["unicode/utf8.first", "unicode/utf8.acceptRanges", "internal/bytealg.MaxLen"], apart := false, laid := [("unicode/utf8.acceptRanges", laid_unicode_utf8_acceptRanges), ("unicode/utf8.first", laid_unicode_utf8_first)], narrowed := true }
def TrainFullUptoSaid : Prop := trainFullUptoRow.holds Tryz.pinned (OpenSpec.upto trainFullSpec)

end Rows
end Go.Proofs.YtgjbfkaepalkiaaGreatDoor
