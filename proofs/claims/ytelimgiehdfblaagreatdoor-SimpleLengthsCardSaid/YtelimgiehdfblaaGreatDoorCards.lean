/-
  DERIVED. GIVEN WITH THE SEED: THE CARDS: each row of YtelimgiehdfblaaGreatDoorRows.lean that lists a variable, with what it lists TIED to the program's text (the seventh form; the later family's looks); each row that meets fmt, with fmt's text TOLD by the authors' own Lean function (tested against real Go, not proved from fmt's source: count such statements apart). THE CARD IS WHAT COUNTS. Prove the row's statement (the work); the ties are given (YtelimgiehdfblaaGreatDoorTie.lean); close each card by the builder's one call (the guide's Derived/Test/ToyasCard.lean, 'card_holds'). Laid BY PROGRAM, IN A SANDBOX (cutbox-door.mjs). By AI agents, Wed Nov 11 2026. No macro, syntax, notation, axiom, sorry.
-/
import Derived.Test.YtelimgiehdfblaaGreatDoorRows
import GoSem.ClaimSeven
namespace Go.Proofs.YtelimgiehdfblaaGreatDoor
namespace Rows

/-- THE TIED CARD OF 'chisellaw13.SimpleFewer'. -/
def simpleFewerCard : Claim7 := { stood := { row := simpleFewerRow, standIns := [], harness := (true, "a302b7a7a552fd1dca0525ac27b9abec41af114b2414d22bf15b78e8b92f5f9d"), looks := true }, kinds := [], alts := [], laidByText := true, laidKinds := [.data, .data, .widerDeep, .widerDeep, .data, .data, .data, .data, .data, .data, .sentinel, .sentinel, .data, .pinned, .pinned, .pinned, .pinned], laidTests := true, laidLooks := .later }
def SimpleFewerCardSaid : Prop := Claim7.holds Tryz.pinned (.plain (OpenSpec.ofChange simpleFewerSpec)) simpleFewerCard

/-- THE TIED CARD OF 'chisellaw13.SimpleListed'. -/
def simpleListedCard : Claim7 := { stood := { row := simpleListedRow, standIns := [], harness := (true, "a302b7a7a552fd1dca0525ac27b9abec41af114b2414d22bf15b78e8b92f5f9d"), looks := true }, kinds := [], alts := [], laidByText := true, laidKinds := [.data, .data, .widerDeep, .widerDeep, .data, .data, .data, .data, .data, .data, .sentinel, .sentinel, .data, .pinned, .pinned, .pinned, .pinned], laidTests := true, laidLooks := .later }
def SimpleListedCardSaid : Prop := Claim7.holds Tryz.pinned (.plain (OpenSpec.ofChange simpleListedSpec)) simpleListedCard

/-- THE TIED CARD OF 'chisellaw13.SimpleLengths'. -/
def simpleLengthsCard : Claim7 := { stood := { row := simpleLengthsRow, standIns := [], harness := (true, "a302b7a7a552fd1dca0525ac27b9abec41af114b2414d22bf15b78e8b92f5f9d"), looks := true }, kinds := [], alts := [], laidByText := true, laidKinds := [.data, .data, .widerDeep, .widerDeep, .data, .data, .data, .data, .data, .data, .sentinel, .sentinel, .data, .pinned, .pinned, .pinned, .pinned], laidTests := true, laidLooks := .later }
def SimpleLengthsCardSaid : Prop := Claim7.holds Tryz.pinned (.plain (OpenSpec.ofChange simpleLengthsSpec)) simpleLengthsCard

/-- THE TIED CARD OF 'chisellaw13.SimpleKnown'. -/
def simpleKnownCard : Claim7 := { stood := { row := simpleKnownRow, standIns := [], harness := (true, "a302b7a7a552fd1dca0525ac27b9abec41af114b2414d22bf15b78e8b92f5f9d"), looks := true }, kinds := [], alts := [], laidByText := true, laidKinds := [.data, .data, .widerDeep, .widerDeep, .data, .data, .data, .data, .data, .data, .sentinel, .sentinel, .data, .pinned, .pinned, .pinned, .pinned], laidTests := true, laidLooks := .later }
def SimpleKnownCardSaid : Prop := Claim7.holds Tryz.pinned (.plain (OpenSpec.ofChange simpleKnownSpec)) simpleKnownCard

/-- THE TIED CARD OF 'chisellaw13.SimpleSpaces'. -/
def simpleSpacesCard : Claim7 := { stood := { row := simpleSpacesRow, standIns := [], harness := (true, "a302b7a7a552fd1dca0525ac27b9abec41af114b2414d22bf15b78e8b92f5f9d"), looks := true }, kinds := [], alts := [], laidByText := true, laidKinds := [.data, .data, .widerDeep, .widerDeep, .data, .data, .data, .data, .data, .data, .sentinel, .sentinel, .data, .pinned, .pinned, .pinned, .pinned], laidTests := true, laidLooks := .later }
def SimpleSpacesCardSaid : Prop := Claim7.holds Tryz.pinned (.plain (OpenSpec.ofChange simpleSpacesSpec)) simpleSpacesCard

/-- THE TIED CARD OF 'chisellaw13.SimpleLists'. -/
def simpleListsCard : Claim7 := { stood := { row := simpleListsRow, standIns := [], harness := (true, "a302b7a7a552fd1dca0525ac27b9abec41af114b2414d22bf15b78e8b92f5f9d"), looks := true }, kinds := [], alts := [], laidByText := true, laidKinds := [.data, .data, .widerDeep, .widerDeep, .data, .data, .data, .data, .data, .data, .sentinel, .sentinel, .data, .pinned, .pinned, .pinned, .pinned], laidTests := true, laidLooks := .later }
def SimpleListsCardSaid : Prop := Claim7.holds Tryz.pinned (.plain (OpenSpec.ofChange simpleListsSpec)) simpleListsCard

/-- THE SECOND FORM's CARD OF 'chisellaw13.SimpleFewer'. -/
def simpleFewerUptoCard : Claim7 := { stood := { row := simpleFewerUptoRow, standIns := [], harness := (true, "a302b7a7a552fd1dca0525ac27b9abec41af114b2414d22bf15b78e8b92f5f9d"), looks := true }, kinds := [], alts := [], laidByText := true, laidKinds := [.data, .data, .widerDeep, .widerDeep, .data, .data, .data, .data, .data, .data, .sentinel, .sentinel, .data, .pinned, .pinned, .pinned, .pinned], laidTests := true, laidLooks := .later }
def SimpleFewerUptoCardSaid : Prop := Claim7.holds Tryz.pinned (.plain (OpenSpec.upto simpleFewerSpec)) simpleFewerUptoCard

/-- THE SECOND FORM's CARD OF 'chisellaw13.SimpleListed'. -/
def simpleListedUptoCard : Claim7 := { stood := { row := simpleListedUptoRow, standIns := [], harness := (true, "a302b7a7a552fd1dca0525ac27b9abec41af114b2414d22bf15b78e8b92f5f9d"), looks := true }, kinds := [], alts := [], laidByText := true, laidKinds := [.data, .data, .widerDeep, .widerDeep, .data, .data, .data, .data, .data, .data, .sentinel, .sentinel, .data, .pinned, .pinned, .pinned, .pinned], laidTests := true, laidLooks := .later }
def SimpleListedUptoCardSaid : Prop := Claim7.holds Tryz.pinned (.plain (OpenSpec.upto simpleListedSpec)) simpleListedUptoCard

/-- THE SECOND FORM's CARD OF 'chisellaw13.SimpleLengths'. -/
def simpleLengthsUptoCard : Claim7 := { stood := { row := simpleLengthsUptoRow, standIns := [], harness := (true, "a302b7a7a552fd1dca0525ac27b9abec41af114b2414d22bf15b78e8b92f5f9d"), looks := true }, kinds := [], alts := [], laidByText := true, laidKinds := [.data, .data, .widerDeep, .widerDeep, .data, .data, .data, .data, .data, .data, .sentinel, .sentinel, .data, .pinned, .pinned, .pinned, .pinned], laidTests := true, laidLooks := .later }
def SimpleLengthsUptoCardSaid : Prop := Claim7.holds Tryz.pinned (.plain (OpenSpec.upto simpleLengthsSpec)) simpleLengthsUptoCard

/-- THE SECOND FORM's CARD OF 'chisellaw13.SimpleKnown'. -/
def simpleKnownUptoCard : Claim7 := { stood := { row := simpleKnownUptoRow, standIns := [], harness := (true, "a302b7a7a552fd1dca0525ac27b9abec41af114b2414d22bf15b78e8b92f5f9d"), looks := true }, kinds := [], alts := [], laidByText := true, laidKinds := [.data, .data, .widerDeep, .widerDeep, .data, .data, .data, .data, .data, .data, .sentinel, .sentinel, .data, .pinned, .pinned, .pinned, .pinned], laidTests := true, laidLooks := .later }
def SimpleKnownUptoCardSaid : Prop := Claim7.holds Tryz.pinned (.plain (OpenSpec.upto simpleKnownSpec)) simpleKnownUptoCard

/-- THE SECOND FORM's CARD OF 'chisellaw13.SimpleSpaces'. -/
def simpleSpacesUptoCard : Claim7 := { stood := { row := simpleSpacesUptoRow, standIns := [], harness := (true, "a302b7a7a552fd1dca0525ac27b9abec41af114b2414d22bf15b78e8b92f5f9d"), looks := true }, kinds := [], alts := [], laidByText := true, laidKinds := [.data, .data, .widerDeep, .widerDeep, .data, .data, .data, .data, .data, .data, .sentinel, .sentinel, .data, .pinned, .pinned, .pinned, .pinned], laidTests := true, laidLooks := .later }
def SimpleSpacesUptoCardSaid : Prop := Claim7.holds Tryz.pinned (.plain (OpenSpec.upto simpleSpacesSpec)) simpleSpacesUptoCard

/-- THE SECOND FORM's CARD OF 'chisellaw13.SimpleLists'. -/
def simpleListsUptoCard : Claim7 := { stood := { row := simpleListsUptoRow, standIns := [], harness := (true, "a302b7a7a552fd1dca0525ac27b9abec41af114b2414d22bf15b78e8b92f5f9d"), looks := true }, kinds := [], alts := [], laidByText := true, laidKinds := [.data, .data, .widerDeep, .widerDeep, .data, .data, .data, .data, .data, .data, .sentinel, .sentinel, .data, .pinned, .pinned, .pinned, .pinned], laidTests := true, laidLooks := .later }
def SimpleListsUptoCardSaid : Prop := Claim7.holds Tryz.pinned (.plain (OpenSpec.upto simpleListsSpec)) simpleListsUptoCard
end Rows
end Go.Proofs.YtelimgiehdfblaaGreatDoor
