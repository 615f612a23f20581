/-
  DERIVED. GIVEN WITH THE SEED: THE CARDS: each row of YtlccfcbifplhkaaGreatDoorRows.lean that lists a variable, with what it lists TIED to the program's text (the seventh form; the later family's looks); each row that meets fmt, with fmt's text TOLD by the authors' own Lean function (tested against real Go, not proved from fmt's source: count such statements apart). THE CARD IS WHAT COUNTS. Prove the row's statement (the work); the ties are given (YtlccfcbifplhkaaGreatDoorTie.lean); close each card by the builder's one call (the guide's Derived/Test/ToyasCard.lean, 'card_holds'). Laid BY PROGRAM, IN A SANDBOX (cutbox-door.mjs). By AI agents, Wed Nov 11 2026. No macro, syntax, notation, axiom, sorry.
-/
import Derived.Test.YtlccfcbifplhkaaGreatDoorRows
import GoSem.ClaimSeven
namespace Go.Proofs.YtlccfcbifplhkaaGreatDoor
namespace Rows

/-- THE TIED CARD OF 'chisellaw29.SortsNumbers'. -/
def sortsNumbersCard : Claim7 := { stood := { row := sortsNumbersRow, standIns := [], harness := (true, "d36e18078f2e82c9474abdc7710a3d359389b7dbe37a7d3eaaee917c87e091f9"), looks := true }, kinds := [], alts := [], laidByText := true, laidKinds := [.data, .data, .widerDeep, .widerDeep, .data, .data, .data, .data, .data, .data, .sentinel, .sentinel, .data, .pinned, .pinned, .pinned, .pinned], laidTests := true, laidLooks := .later }
def SortsNumbersCardSaid : Prop := Claim7.holds Tryz.pinned (.plain (OpenSpec.ofChange sortsNumbersSpec)) sortsNumbersCard

/-- THE TIED CARD OF 'chisellaw31.MergesMany'. -/
def mergesManyCard : Claim7 := { stood := { row := mergesManyRow, standIns := [], harness := (true, "d36e18078f2e82c9474abdc7710a3d359389b7dbe37a7d3eaaee917c87e091f9"), looks := true }, kinds := [], alts := [], laidByText := true, laidKinds := [.data, .data, .widerDeep, .widerDeep, .data, .data, .data, .data, .data, .data, .sentinel, .sentinel, .data, .pinned, .pinned, .pinned, .pinned], laidTests := true, laidLooks := .later }
def MergesManyCardSaid : Prop := Claim7.holds Tryz.pinned (.plain (OpenSpec.ofChange mergesManySpec)) mergesManyCard

/-- THE TIED CARD OF 'chisellaw31.MergesKnown'. -/
def mergesKnownCard : Claim7 := { stood := { row := mergesKnownRow, standIns := [], harness := (true, "d36e18078f2e82c9474abdc7710a3d359389b7dbe37a7d3eaaee917c87e091f9"), looks := true }, kinds := [], alts := [], laidByText := true, laidKinds := [.data, .data, .widerDeep, .widerDeep, .data, .data, .data, .data, .data, .data, .sentinel, .sentinel, .data, .pinned, .pinned, .pinned, .pinned], laidTests := true, laidLooks := .later }
def MergesKnownCardSaid : Prop := Claim7.holds Tryz.pinned (.plain (OpenSpec.ofChange mergesKnownSpec)) mergesKnownCard

/-- THE TIED CARD OF 'chisellaw29.SortsStable'. -/
def sortsStableCard : Claim7 := { stood := { row := sortsStableRow, standIns := [], harness := (true, "d36e18078f2e82c9474abdc7710a3d359389b7dbe37a7d3eaaee917c87e091f9"), looks := true }, kinds := [], alts := [], laidByText := true, laidKinds := [.data, .data, .widerDeep, .widerDeep, .data, .data, .data, .data, .data, .data, .sentinel, .sentinel, .data, .pinned, .pinned, .pinned, .pinned], laidTests := true, laidLooks := .later }
def SortsStableCardSaid : Prop := Claim7.holds Tryz.pinned (.plain (OpenSpec.ofChange sortsStableSpec)) sortsStableCard

/-- THE TIED CARD OF 'chisellaw29.SortsTotal'. -/
def sortsTotalCard : Claim7 := { stood := { row := sortsTotalRow, standIns := [], harness := (true, "d36e18078f2e82c9474abdc7710a3d359389b7dbe37a7d3eaaee917c87e091f9"), looks := true }, kinds := [], alts := [], laidByText := true, laidKinds := [.data, .data, .widerDeep, .widerDeep, .data, .data, .data, .data, .data, .data, .sentinel, .sentinel, .data, .pinned, .pinned, .pinned, .pinned], laidTests := true, laidLooks := .later }
def SortsTotalCardSaid : Prop := Claim7.holds Tryz.pinned (.plain (OpenSpec.ofChange sortsTotalSpec)) sortsTotalCard

/-- THE TIED CARD OF 'chisellaw29.SortsOpposite'. -/
def sortsOppositeCard : Claim7 := { stood := { row := sortsOppositeRow, standIns := [], harness := (true, "d36e18078f2e82c9474abdc7710a3d359389b7dbe37a7d3eaaee917c87e091f9"), looks := true }, kinds := [], alts := [], laidByText := true, laidKinds := [.data, .data, .widerDeep, .widerDeep, .data, .data, .data, .data, .data, .data, .sentinel, .sentinel, .data, .pinned, .pinned, .pinned, .pinned], laidTests := true, laidLooks := .later }
def SortsOppositeCardSaid : Prop := Claim7.holds Tryz.pinned (.plain (OpenSpec.ofChange sortsOppositeSpec)) sortsOppositeCard

/-- THE TIED CARD OF 'chisellaw29.SortsSteps'. -/
def sortsStepsCard : Claim7 := { stood := { row := sortsStepsRow, standIns := [], harness := (true, "d36e18078f2e82c9474abdc7710a3d359389b7dbe37a7d3eaaee917c87e091f9"), looks := true }, kinds := [], alts := [], laidByText := true, laidKinds := [.data, .data, .widerDeep, .widerDeep, .data, .data, .data, .data, .data, .data, .sentinel, .sentinel, .data, .pinned, .pinned, .pinned, .pinned], laidTests := true, laidLooks := .later }
def SortsStepsCardSaid : Prop := Claim7.holds Tryz.pinned (.plain (OpenSpec.ofChange sortsStepsSpec)) sortsStepsCard

/-- THE TIED CARD OF 'chisellaw29.SortsKnown'. -/
def sortsKnownCard : Claim7 := { stood := { row := sortsKnownRow, standIns := [], harness := (true, "d36e18078f2e82c9474abdc7710a3d359389b7dbe37a7d3eaaee917c87e091f9"), looks := true }, kinds := [], alts := [], laidByText := true, laidKinds := [.data, .data, .widerDeep, .widerDeep, .data, .data, .data, .data, .data, .data, .sentinel, .sentinel, .data, .pinned, .pinned, .pinned, .pinned], laidTests := true, laidLooks := .later }
def SortsKnownCardSaid : Prop := Claim7.holds Tryz.pinned (.plain (OpenSpec.ofChange sortsKnownSpec)) sortsKnownCard

/-- THE TIED CARD OF 'chisellaw31.MergesEach'. -/
def mergesEachCard : Claim7 := { stood := { row := mergesEachRow, standIns := [], harness := (true, "d36e18078f2e82c9474abdc7710a3d359389b7dbe37a7d3eaaee917c87e091f9"), looks := true }, kinds := [], alts := [], laidByText := true, laidKinds := [.data, .data, .widerDeep, .widerDeep, .data, .data, .data, .data, .data, .data, .sentinel, .sentinel, .data, .pinned, .pinned, .pinned, .pinned], laidTests := true, laidLooks := .later }
def MergesEachCardSaid : Prop := Claim7.holds Tryz.pinned (.plain (OpenSpec.ofChange mergesEachSpec)) mergesEachCard

/-- THE TIED CARD OF 'chisellaw31.MergesSorts'. -/
def mergesSortsCard : Claim7 := { stood := { row := mergesSortsRow, standIns := [], harness := (true, "d36e18078f2e82c9474abdc7710a3d359389b7dbe37a7d3eaaee917c87e091f9"), looks := true }, kinds := [], alts := [], laidByText := true, laidKinds := [.data, .data, .widerDeep, .widerDeep, .data, .data, .data, .data, .data, .data, .sentinel, .sentinel, .data, .pinned, .pinned, .pinned, .pinned], laidTests := true, laidLooks := .later }
def MergesSortsCardSaid : Prop := Claim7.holds Tryz.pinned (.plain (OpenSpec.ofChange mergesSortsSpec)) mergesSortsCard

/-- THE TIED CARD OF 'chisellaw31.MergesParts'. -/
def mergesPartsCard : Claim7 := { stood := { row := mergesPartsRow, standIns := [], harness := (true, "d36e18078f2e82c9474abdc7710a3d359389b7dbe37a7d3eaaee917c87e091f9"), looks := true }, kinds := [], alts := [], laidByText := true, laidKinds := [.data, .data, .widerDeep, .widerDeep, .data, .data, .data, .data, .data, .data, .sentinel, .sentinel, .data, .pinned, .pinned, .pinned, .pinned], laidTests := true, laidLooks := .later }
def MergesPartsCardSaid : Prop := Claim7.holds Tryz.pinned (.plain (OpenSpec.ofChange mergesPartsSpec)) mergesPartsCard

/-- THE TIED CARD OF 'chisellaw31.MergesAgain'. -/
def mergesAgainCard : Claim7 := { stood := { row := mergesAgainRow, standIns := [], harness := (true, "d36e18078f2e82c9474abdc7710a3d359389b7dbe37a7d3eaaee917c87e091f9"), looks := true }, kinds := [], alts := [], laidByText := true, laidKinds := [.data, .data, .widerDeep, .widerDeep, .data, .data, .data, .data, .data, .data, .sentinel, .sentinel, .data, .pinned, .pinned, .pinned, .pinned], laidTests := true, laidLooks := .later }
def MergesAgainCardSaid : Prop := Claim7.holds Tryz.pinned (.plain (OpenSpec.ofChange mergesAgainSpec)) mergesAgainCard

/-- THE SECOND FORM's CARD OF 'chisellaw29.SortsNumbers'. -/
def sortsNumbersUptoCard : Claim7 := { stood := { row := sortsNumbersUptoRow, standIns := [], harness := (true, "d36e18078f2e82c9474abdc7710a3d359389b7dbe37a7d3eaaee917c87e091f9"), looks := true }, kinds := [], alts := [], laidByText := true, laidKinds := [.data, .data, .widerDeep, .widerDeep, .data, .data, .data, .data, .data, .data, .sentinel, .sentinel, .data, .pinned, .pinned, .pinned, .pinned], laidTests := true, laidLooks := .later }
def SortsNumbersUptoCardSaid : Prop := Claim7.holds Tryz.pinned (.plain (OpenSpec.upto sortsNumbersSpec)) sortsNumbersUptoCard

/-- THE SECOND FORM's CARD OF 'chisellaw31.MergesMany'. -/
def mergesManyUptoCard : Claim7 := { stood := { row := mergesManyUptoRow, standIns := [], harness := (true, "d36e18078f2e82c9474abdc7710a3d359389b7dbe37a7d3eaaee917c87e091f9"), looks := true }, kinds := [], alts := [], laidByText := true, laidKinds := [.data, .data, .widerDeep, .widerDeep, .data, .data, .data, .data, .data, .data, .sentinel, .sentinel, .data, .pinned, .pinned, .pinned, .pinned], laidTests := true, laidLooks := .later }
def MergesManyUptoCardSaid : Prop := Claim7.holds Tryz.pinned (.plain (OpenSpec.upto mergesManySpec)) mergesManyUptoCard

/-- THE SECOND FORM's CARD OF 'chisellaw31.MergesKnown'. -/
def mergesKnownUptoCard : Claim7 := { stood := { row := mergesKnownUptoRow, standIns := [], harness := (true, "d36e18078f2e82c9474abdc7710a3d359389b7dbe37a7d3eaaee917c87e091f9"), looks := true }, kinds := [], alts := [], laidByText := true, laidKinds := [.data, .data, .widerDeep, .widerDeep, .data, .data, .data, .data, .data, .data, .sentinel, .sentinel, .data, .pinned, .pinned, .pinned, .pinned], laidTests := true, laidLooks := .later }
def MergesKnownUptoCardSaid : Prop := Claim7.holds Tryz.pinned (.plain (OpenSpec.upto mergesKnownSpec)) mergesKnownUptoCard

/-- THE SECOND FORM's CARD OF 'chisellaw29.SortsStable'. -/
def sortsStableUptoCard : Claim7 := { stood := { row := sortsStableUptoRow, standIns := [], harness := (true, "d36e18078f2e82c9474abdc7710a3d359389b7dbe37a7d3eaaee917c87e091f9"), looks := true }, kinds := [], alts := [], laidByText := true, laidKinds := [.data, .data, .widerDeep, .widerDeep, .data, .data, .data, .data, .data, .data, .sentinel, .sentinel, .data, .pinned, .pinned, .pinned, .pinned], laidTests := true, laidLooks := .later }
def SortsStableUptoCardSaid : Prop := Claim7.holds Tryz.pinned (.plain (OpenSpec.upto sortsStableSpec)) sortsStableUptoCard

/-- THE SECOND FORM's CARD OF 'chisellaw29.SortsTotal'. -/
def sortsTotalUptoCard : Claim7 := { stood := { row := sortsTotalUptoRow, standIns := [], harness := (true, "d36e18078f2e82c9474abdc7710a3d359389b7dbe37a7d3eaaee917c87e091f9"), looks := true }, kinds := [], alts := [], laidByText := true, laidKinds := [.data, .data, .widerDeep, .widerDeep, .data, .data, .data, .data, .data, .data, .sentinel, .sentinel, .data, .pinned, .pinned, .pinned, .pinned], laidTests := true, laidLooks := .later }
def SortsTotalUptoCardSaid : Prop := Claim7.holds Tryz.pinned (.plain (OpenSpec.upto sortsTotalSpec)) sortsTotalUptoCard

/-- THE SECOND FORM's CARD OF 'chisellaw29.SortsOpposite'. -/
def sortsOppositeUptoCard : Claim7 := { stood := { row := sortsOppositeUptoRow, standIns := [], harness := (true, "d36e18078f2e82c9474abdc7710a3d359389b7dbe37a7d3eaaee917c87e091f9"), looks := true }, kinds := [], alts := [], laidByText := true, laidKinds := [.data, .data, .widerDeep, .widerDeep, .data, .data, .data, .data, .data, .data, .sentinel, .sentinel, .data, .pinned, .pinned, .pinned, .pinned], laidTests := true, laidLooks := .later }
def SortsOppositeUptoCardSaid : Prop := Claim7.holds Tryz.pinned (.plain (OpenSpec.upto sortsOppositeSpec)) sortsOppositeUptoCard

/-- THE SECOND FORM's CARD OF 'chisellaw29.SortsSteps'. -/
def sortsStepsUptoCard : Claim7 := { stood := { row := sortsStepsUptoRow, standIns := [], harness := (true, "d36e18078f2e82c9474abdc7710a3d359389b7dbe37a7d3eaaee917c87e091f9"), looks := true }, kinds := [], alts := [], laidByText := true, laidKinds := [.data, .data, .widerDeep, .widerDeep, .data, .data, .data, .data, .data, .data, .sentinel, .sentinel, .data, .pinned, .pinned, .pinned, .pinned], laidTests := true, laidLooks := .later }
def SortsStepsUptoCardSaid : Prop := Claim7.holds Tryz.pinned (.plain (OpenSpec.upto sortsStepsSpec)) sortsStepsUptoCard

/-- THE SECOND FORM's CARD OF 'chisellaw29.SortsKnown'. -/
def sortsKnownUptoCard : Claim7 := { stood := { row := sortsKnownUptoRow, standIns := [], harness := (true, "d36e18078f2e82c9474abdc7710a3d359389b7dbe37a7d3eaaee917c87e091f9"), looks := true }, kinds := [], alts := [], laidByText := true, laidKinds := [.data, .data, .widerDeep, .widerDeep, .data, .data, .data, .data, .data, .data, .sentinel, .sentinel, .data, .pinned, .pinned, .pinned, .pinned], laidTests := true, laidLooks := .later }
def SortsKnownUptoCardSaid : Prop := Claim7.holds Tryz.pinned (.plain (OpenSpec.upto sortsKnownSpec)) sortsKnownUptoCard

/-- THE SECOND FORM's CARD OF 'chisellaw31.MergesEach'. -/
def mergesEachUptoCard : Claim7 := { stood := { row := mergesEachUptoRow, standIns := [], harness := (true, "d36e18078f2e82c9474abdc7710a3d359389b7dbe37a7d3eaaee917c87e091f9"), looks := true }, kinds := [], alts := [], laidByText := true, laidKinds := [.data, .data, .widerDeep, .widerDeep, .data, .data, .data, .data, .data, .data, .sentinel, .sentinel, .data, .pinned, .pinned, .pinned, .pinned], laidTests := true, laidLooks := .later }
def MergesEachUptoCardSaid : Prop := Claim7.holds Tryz.pinned (.plain (OpenSpec.upto mergesEachSpec)) mergesEachUptoCard

/-- THE SECOND FORM's CARD OF 'chisellaw31.MergesSorts'. -/
def mergesSortsUptoCard : Claim7 := { stood := { row := mergesSortsUptoRow, standIns := [], harness := (true, "d36e18078f2e82c9474abdc7710a3d359389b7dbe37a7d3eaaee917c87e091f9"), looks := true }, kinds := [], alts := [], laidByText := true, laidKinds := [.data, .data, .widerDeep, .widerDeep, .data, .data, .data, .data, .data, .data, .sentinel, .sentinel, .data, .pinned, .pinned, .pinned, .pinned], laidTests := true, laidLooks := .later }
def MergesSortsUptoCardSaid : Prop := Claim7.holds Tryz.pinned (.plain (OpenSpec.upto mergesSortsSpec)) mergesSortsUptoCard

/-- THE SECOND FORM's CARD OF 'chisellaw31.MergesParts'. -/
def mergesPartsUptoCard : Claim7 := { stood := { row := mergesPartsUptoRow, standIns := [], harness := (true, "d36e18078f2e82c9474abdc7710a3d359389b7dbe37a7d3eaaee917c87e091f9"), looks := true }, kinds := [], alts := [], laidByText := true, laidKinds := [.data, .data, .widerDeep, .widerDeep, .data, .data, .data, .data, .data, .data, .sentinel, .sentinel, .data, .pinned, .pinned, .pinned, .pinned], laidTests := true, laidLooks := .later }
def MergesPartsUptoCardSaid : Prop := Claim7.holds Tryz.pinned (.plain (OpenSpec.upto mergesPartsSpec)) mergesPartsUptoCard

/-- THE SECOND FORM's CARD OF 'chisellaw31.MergesAgain'. -/
def mergesAgainUptoCard : Claim7 := { stood := { row := mergesAgainUptoRow, standIns := [], harness := (true, "d36e18078f2e82c9474abdc7710a3d359389b7dbe37a7d3eaaee917c87e091f9"), looks := true }, kinds := [], alts := [], laidByText := true, laidKinds := [.data, .data, .widerDeep, .widerDeep, .data, .data, .data, .data, .data, .data, .sentinel, .sentinel, .data, .pinned, .pinned, .pinned, .pinned], laidTests := true, laidLooks := .later }
def MergesAgainUptoCardSaid : Prop := Claim7.holds Tryz.pinned (.plain (OpenSpec.upto mergesAgainSpec)) mergesAgainUptoCard
end Rows
end Go.Proofs.YtlccfcbifplhkaaGreatDoor
