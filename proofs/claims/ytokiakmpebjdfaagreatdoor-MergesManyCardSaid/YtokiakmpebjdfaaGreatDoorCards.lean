/-
  DERIVED. GIVEN WITH THE SEED: THE CARDS: each row of YtokiakmpebjdfaaGreatDoorRows.lean that lists a variable, with what it lists TIED to the program's text (the seventh form; the later family's looks); each row that meets fmt, with fmt's text TOLD by the authors' own Lean function (tested against real Go, not proved from fmt's source: count such statements apart). THE CARD IS WHAT COUNTS. Prove the row's statement (the work); the ties are given (YtokiakmpebjdfaaGreatDoorTie.lean); close each card by the builder's one call (the guide's Derived/Test/ToyasCard.lean, 'card_holds'). Laid BY PROGRAM, IN A SANDBOX (cutbox-door.mjs). By AI agents, Wed Nov 11 2026. No macro, syntax, notation, axiom, sorry.
-/
import Derived.Test.YtokiakmpebjdfaaGreatDoorRows
import GoSem.ClaimSeven
namespace Go.Proofs.YtokiakmpebjdfaaGreatDoor
namespace Rows

/-- THE TIED CARD OF 'chisellaw31.MergesMany'. -/
def mergesManyCard : Claim7 := { stood := { row := mergesManyRow, standIns := [], harness := (true, "9fd89e97b8740181a205894a72fbc57f6d67f875700d24a5c5dfeb29c2879d3c"), looks := true }, kinds := [], alts := [], laidByText := true, laidKinds := [.data, .data, .widerDeep, .widerDeep, .data, .data, .data, .data, .data, .data, .sentinel, .sentinel, .data, .pinned, .pinned, .pinned, .pinned], laidTests := true, laidLooks := .later }
def MergesManyCardSaid : Prop := Claim7.holds Tryz.pinned (.plain (OpenSpec.ofChange mergesManySpec)) mergesManyCard

/-- THE SECOND FORM's CARD OF 'chisellaw31.MergesMany'. -/
def mergesManyUptoCard : Claim7 := { stood := { row := mergesManyUptoRow, standIns := [], harness := (true, "9fd89e97b8740181a205894a72fbc57f6d67f875700d24a5c5dfeb29c2879d3c"), looks := true }, kinds := [], alts := [], laidByText := true, laidKinds := [.data, .data, .widerDeep, .widerDeep, .data, .data, .data, .data, .data, .data, .sentinel, .sentinel, .data, .pinned, .pinned, .pinned, .pinned], laidTests := true, laidLooks := .later }
def MergesManyUptoCardSaid : Prop := Claim7.holds Tryz.pinned (.plain (OpenSpec.upto mergesManySpec)) mergesManyUptoCard
end Rows
end Go.Proofs.YtokiakmpebjdfaaGreatDoor
