/-
  DERIVED. GIVEN WITH THE SEED: THE CARDS: each row of YtebaekbmminjnaaGreatDoorRows.lean that lists a variable, with what it lists TIED to the program's text (the seventh form; the later family's looks); each row that meets fmt, with fmt's text TOLD by the authors' own Lean function (tested against real Go, not proved from fmt's source: count such statements apart). THE CARD IS WHAT COUNTS. Prove the row's statement (the work); the ties are given (YtebaekbmminjnaaGreatDoorTie.lean); close each card by the builder's one call (the guide's Derived/Test/ToyasCard.lean, 'card_holds'). Laid BY PROGRAM, IN A SANDBOX (cutbox-door.mjs). By AI agents, Wed Nov 11 2026. No macro, syntax, notation, axiom, sorry.
-/
import Derived.Test.YtebaekbmminjnaaGreatDoorRows
import GoSem.ClaimSeven
namespace Go.Proofs.YtebaekbmminjnaaGreatDoor
namespace Rows

/-- THE TIED CARD OF 'chisellaw28.BuildLong'. -/
def buildLongCard : Claim7 := { stood := { row := buildLongRow, standIns := [], harness := (true, "297b965b575ddd2c04602a68a32c2d0180454387b94b5f59b4ba77ed9fca47f9"), looks := true }, kinds := [], alts := [], laidByText := true, laidKinds := [.data, .data, .widerDeep, .widerDeep, .data, .data, .data, .data, .data, .data, .sentinel, .sentinel, .data, .pinned, .pinned, .pinned, .pinned], laidTests := true, laidLooks := .later }
def BuildLongCardSaid : Prop := Claim7.holds Tryz.pinned (.plain (OpenSpec.ofChange buildLongSpec)) buildLongCard

/-- THE TIED CARD OF 'chisellaw28.BuildPieces'. -/
def buildPiecesCard : Claim7 := { stood := { row := buildPiecesRow, standIns := [], harness := (true, "297b965b575ddd2c04602a68a32c2d0180454387b94b5f59b4ba77ed9fca47f9"), looks := true }, kinds := [], alts := [], laidByText := true, laidKinds := [.data, .data, .widerDeep, .widerDeep, .data, .data, .data, .data, .data, .data, .sentinel, .sentinel, .data, .pinned, .pinned, .pinned, .pinned], laidTests := true, laidLooks := .later }
def BuildPiecesCardSaid : Prop := Claim7.holds Tryz.pinned (.plain (OpenSpec.ofChange buildPiecesSpec)) buildPiecesCard

/-- THE TIED CARD OF 'chisellaw28.BuildTraces'. -/
def buildTracesCard : Claim7 := { stood := { row := buildTracesRow, standIns := [], harness := (true, "297b965b575ddd2c04602a68a32c2d0180454387b94b5f59b4ba77ed9fca47f9"), looks := true }, kinds := [], alts := [], laidByText := true, laidKinds := [.data, .data, .widerDeep, .widerDeep, .data, .data, .data, .data, .data, .data, .sentinel, .sentinel, .data, .pinned, .pinned, .pinned, .pinned], laidTests := true, laidLooks := .later }
def BuildTracesCardSaid : Prop := Claim7.holds Tryz.pinned (.plain (OpenSpec.ofChange buildTracesSpec)) buildTracesCard

/-- THE TIED CARD OF 'chisellaw28.BuildKnown'. -/
def buildKnownCard : Claim7 := { stood := { row := buildKnownRow, standIns := [], harness := (true, "297b965b575ddd2c04602a68a32c2d0180454387b94b5f59b4ba77ed9fca47f9"), looks := true }, kinds := [], alts := [], laidByText := true, laidKinds := [.data, .data, .widerDeep, .widerDeep, .data, .data, .data, .data, .data, .data, .sentinel, .sentinel, .data, .pinned, .pinned, .pinned, .pinned], laidTests := true, laidLooks := .later }
def BuildKnownCardSaid : Prop := Claim7.holds Tryz.pinned (.plain (OpenSpec.ofChange buildKnownSpec)) buildKnownCard

/-- THE TIED CARD OF 'chisellaw28.BuildBack'. -/
def buildBackCard : Claim7 := { stood := { row := buildBackRow, standIns := [], harness := (true, "297b965b575ddd2c04602a68a32c2d0180454387b94b5f59b4ba77ed9fca47f9"), looks := true }, kinds := [], alts := [], laidByText := true, laidKinds := [.data, .data, .widerDeep, .widerDeep, .data, .data, .data, .data, .data, .data, .sentinel, .sentinel, .data, .pinned, .pinned, .pinned, .pinned], laidTests := true, laidLooks := .later }
def BuildBackCardSaid : Prop := Claim7.holds Tryz.pinned (.plain (OpenSpec.ofChange buildBackSpec)) buildBackCard

/-- THE SECOND FORM's CARD OF 'chisellaw28.BuildLong'. -/
def buildLongUptoCard : Claim7 := { stood := { row := buildLongUptoRow, standIns := [], harness := (true, "297b965b575ddd2c04602a68a32c2d0180454387b94b5f59b4ba77ed9fca47f9"), looks := true }, kinds := [], alts := [], laidByText := true, laidKinds := [.data, .data, .widerDeep, .widerDeep, .data, .data, .data, .data, .data, .data, .sentinel, .sentinel, .data, .pinned, .pinned, .pinned, .pinned], laidTests := true, laidLooks := .later }
def BuildLongUptoCardSaid : Prop := Claim7.holds Tryz.pinned (.plain (OpenSpec.upto buildLongSpec)) buildLongUptoCard

/-- THE SECOND FORM's CARD OF 'chisellaw28.BuildPieces'. -/
def buildPiecesUptoCard : Claim7 := { stood := { row := buildPiecesUptoRow, standIns := [], harness := (true, "297b965b575ddd2c04602a68a32c2d0180454387b94b5f59b4ba77ed9fca47f9"), looks := true }, kinds := [], alts := [], laidByText := true, laidKinds := [.data, .data, .widerDeep, .widerDeep, .data, .data, .data, .data, .data, .data, .sentinel, .sentinel, .data, .pinned, .pinned, .pinned, .pinned], laidTests := true, laidLooks := .later }
def BuildPiecesUptoCardSaid : Prop := Claim7.holds Tryz.pinned (.plain (OpenSpec.upto buildPiecesSpec)) buildPiecesUptoCard

/-- THE SECOND FORM's CARD OF 'chisellaw28.BuildTraces'. -/
def buildTracesUptoCard : Claim7 := { stood := { row := buildTracesUptoRow, standIns := [], harness := (true, "297b965b575ddd2c04602a68a32c2d0180454387b94b5f59b4ba77ed9fca47f9"), looks := true }, kinds := [], alts := [], laidByText := true, laidKinds := [.data, .data, .widerDeep, .widerDeep, .data, .data, .data, .data, .data, .data, .sentinel, .sentinel, .data, .pinned, .pinned, .pinned, .pinned], laidTests := true, laidLooks := .later }
def BuildTracesUptoCardSaid : Prop := Claim7.holds Tryz.pinned (.plain (OpenSpec.upto buildTracesSpec)) buildTracesUptoCard

/-- THE SECOND FORM's CARD OF 'chisellaw28.BuildKnown'. -/
def buildKnownUptoCard : Claim7 := { stood := { row := buildKnownUptoRow, standIns := [], harness := (true, "297b965b575ddd2c04602a68a32c2d0180454387b94b5f59b4ba77ed9fca47f9"), looks := true }, kinds := [], alts := [], laidByText := true, laidKinds := [.data, .data, .widerDeep, .widerDeep, .data, .data, .data, .data, .data, .data, .sentinel, .sentinel, .data, .pinned, .pinned, .pinned, .pinned], laidTests := true, laidLooks := .later }
def BuildKnownUptoCardSaid : Prop := Claim7.holds Tryz.pinned (.plain (OpenSpec.upto buildKnownSpec)) buildKnownUptoCard

/-- THE SECOND FORM's CARD OF 'chisellaw28.BuildBack'. -/
def buildBackUptoCard : Claim7 := { stood := { row := buildBackUptoRow, standIns := [], harness := (true, "297b965b575ddd2c04602a68a32c2d0180454387b94b5f59b4ba77ed9fca47f9"), looks := true }, kinds := [], alts := [], laidByText := true, laidKinds := [.data, .data, .widerDeep, .widerDeep, .data, .data, .data, .data, .data, .data, .sentinel, .sentinel, .data, .pinned, .pinned, .pinned, .pinned], laidTests := true, laidLooks := .later }
def BuildBackUptoCardSaid : Prop := Claim7.holds Tryz.pinned (.plain (OpenSpec.upto buildBackSpec)) buildBackUptoCard
end Rows
end Go.Proofs.YtebaekbmminjnaaGreatDoor
