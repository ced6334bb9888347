/-
  DERIVED. GIVEN WITH THE SEED: THE CARDS: each row of YtddooggkcdloeaaGreatDoorRows.lean that lists a variable, with what it lists TIED to the program's text (the seventh form; the later family's looks); each row that meets fmt, with fmt's text TOLD by the authors' own Lean function (tested against real Go, not proved from fmt's source: count such statements apart). THE CARD IS WHAT COUNTS. Prove the row's statement (the work); the ties are given (YtddooggkcdloeaaGreatDoorTie.lean); close each card by the builder's one call (the guide's Derived/Test/ToyasCard.lean, 'card_holds'). Laid BY PROGRAM, IN A SANDBOX (cutbox-door.mjs). By AI agents, Wed Nov 11 2026. No macro, syntax, notation, axiom, sorry.
-/
import Derived.Test.YtddooggkcdloeaaGreatDoorRows
import GoSem.ClaimSeven
namespace Go.Proofs.YtddooggkcdloeaaGreatDoor
namespace Rows

/-- THE TIED CARD OF 'cortegelaw9.JoinTells'. -/
def joinTellsCard : Claim7 := { stood := { row := joinTellsRow, standIns := [], harness := (true, "7373f7f16007939bb71f32847e2372efcd6c026dc34bba0b27951447455d5426"), looks := false }, kinds := [], alts := [], laidByText := true, laidKinds := [.data, .pinned], laidTests := true, laidLooks := .later }
def JoinTellsCardSaid : Prop := Claim7.holds Tryz.pinned (.plain (OpenSpec.ofChange joinTellsSpec)) joinTellsCard

/-- THE TIED CARD OF 'cortegelaw9.JoinSides'. -/
def joinSidesCard : Claim7 := { stood := { row := joinSidesRow, standIns := [], harness := (true, "7373f7f16007939bb71f32847e2372efcd6c026dc34bba0b27951447455d5426"), looks := false }, kinds := [], alts := [], laidByText := true, laidKinds := [.data, .pinned], laidTests := true, laidLooks := .later }
def JoinSidesCardSaid : Prop := Claim7.holds Tryz.pinned (.plain (OpenSpec.ofChange joinSidesSpec)) joinSidesCard

/-- THE TIED CARD OF 'cortegelaw9.JoinPaths'. -/
def joinPathsCard : Claim7 := { stood := { row := joinPathsRow, standIns := [], harness := (true, "7373f7f16007939bb71f32847e2372efcd6c026dc34bba0b27951447455d5426"), looks := false }, kinds := [], alts := [], laidByText := true, laidKinds := [.data, .pinned], laidTests := true, laidLooks := .later }
def JoinPathsCardSaid : Prop := Claim7.holds Tryz.pinned (.plain (OpenSpec.ofChange joinPathsSpec)) joinPathsCard

/-- THE TIED CARD OF 'cortegelaw9.JoinUnder'. -/
def joinUnderCard : Claim7 := { stood := { row := joinUnderRow, standIns := [], harness := (true, "7373f7f16007939bb71f32847e2372efcd6c026dc34bba0b27951447455d5426"), looks := false }, kinds := [], alts := [], laidByText := true, laidKinds := [.data, .pinned], laidTests := true, laidLooks := .later }
def JoinUnderCardSaid : Prop := Claim7.holds Tryz.pinned (.plain (OpenSpec.ofChange joinUnderSpec)) joinUnderCard

/-- THE TIED CARD OF 'cortegelaw9.JoinEach'. -/
def joinEachCard : Claim7 := { stood := { row := joinEachRow, standIns := [], harness := (true, "7373f7f16007939bb71f32847e2372efcd6c026dc34bba0b27951447455d5426"), looks := false }, kinds := [], alts := [], laidByText := true, laidKinds := [.data, .pinned], laidTests := true, laidLooks := .later }
def JoinEachCardSaid : Prop := Claim7.holds Tryz.pinned (.plain (OpenSpec.ofChange joinEachSpec)) joinEachCard

/-- THE TIED CARD OF 'cortegelaw9.JoinApart'. -/
def joinApartCard : Claim7 := { stood := { row := joinApartRow, standIns := [], harness := (true, "7373f7f16007939bb71f32847e2372efcd6c026dc34bba0b27951447455d5426"), looks := false }, kinds := [], alts := [], laidByText := true, laidKinds := [.data, .pinned], laidTests := true, laidLooks := .later }
def JoinApartCardSaid : Prop := Claim7.holds Tryz.pinned (.plain (OpenSpec.ofChange joinApartSpec)) joinApartCard

/-- THE SECOND FORM's CARD OF 'cortegelaw9.JoinTells'. -/
def joinTellsUptoCard : Claim7 := { stood := { row := joinTellsUptoRow, standIns := [], harness := (true, "7373f7f16007939bb71f32847e2372efcd6c026dc34bba0b27951447455d5426"), looks := false }, kinds := [], alts := [], laidByText := true, laidKinds := [.data, .pinned], laidTests := true, laidLooks := .later }
def JoinTellsUptoCardSaid : Prop := Claim7.holds Tryz.pinned (.plain (OpenSpec.upto joinTellsSpec)) joinTellsUptoCard

/-- THE SECOND FORM's CARD OF 'cortegelaw9.JoinSides'. -/
def joinSidesUptoCard : Claim7 := { stood := { row := joinSidesUptoRow, standIns := [], harness := (true, "7373f7f16007939bb71f32847e2372efcd6c026dc34bba0b27951447455d5426"), looks := false }, kinds := [], alts := [], laidByText := true, laidKinds := [.data, .pinned], laidTests := true, laidLooks := .later }
def JoinSidesUptoCardSaid : Prop := Claim7.holds Tryz.pinned (.plain (OpenSpec.upto joinSidesSpec)) joinSidesUptoCard

/-- THE SECOND FORM's CARD OF 'cortegelaw9.JoinPaths'. -/
def joinPathsUptoCard : Claim7 := { stood := { row := joinPathsUptoRow, standIns := [], harness := (true, "7373f7f16007939bb71f32847e2372efcd6c026dc34bba0b27951447455d5426"), looks := false }, kinds := [], alts := [], laidByText := true, laidKinds := [.data, .pinned], laidTests := true, laidLooks := .later }
def JoinPathsUptoCardSaid : Prop := Claim7.holds Tryz.pinned (.plain (OpenSpec.upto joinPathsSpec)) joinPathsUptoCard

/-- THE SECOND FORM's CARD OF 'cortegelaw9.JoinUnder'. -/
def joinUnderUptoCard : Claim7 := { stood := { row := joinUnderUptoRow, standIns := [], harness := (true, "7373f7f16007939bb71f32847e2372efcd6c026dc34bba0b27951447455d5426"), looks := false }, kinds := [], alts := [], laidByText := true, laidKinds := [.data, .pinned], laidTests := true, laidLooks := .later }
def JoinUnderUptoCardSaid : Prop := Claim7.holds Tryz.pinned (.plain (OpenSpec.upto joinUnderSpec)) joinUnderUptoCard

/-- THE SECOND FORM's CARD OF 'cortegelaw9.JoinEach'. -/
def joinEachUptoCard : Claim7 := { stood := { row := joinEachUptoRow, standIns := [], harness := (true, "7373f7f16007939bb71f32847e2372efcd6c026dc34bba0b27951447455d5426"), looks := false }, kinds := [], alts := [], laidByText := true, laidKinds := [.data, .pinned], laidTests := true, laidLooks := .later }
def JoinEachUptoCardSaid : Prop := Claim7.holds Tryz.pinned (.plain (OpenSpec.upto joinEachSpec)) joinEachUptoCard

/-- THE SECOND FORM's CARD OF 'cortegelaw9.JoinApart'. -/
def joinApartUptoCard : Claim7 := { stood := { row := joinApartUptoRow, standIns := [], harness := (true, "7373f7f16007939bb71f32847e2372efcd6c026dc34bba0b27951447455d5426"), looks := false }, kinds := [], alts := [], laidByText := true, laidKinds := [.data, .pinned], laidTests := true, laidLooks := .later }
def JoinApartUptoCardSaid : Prop := Claim7.holds Tryz.pinned (.plain (OpenSpec.upto joinApartSpec)) joinApartUptoCard
end Rows
end Go.Proofs.YtddooggkcdloeaaGreatDoor
