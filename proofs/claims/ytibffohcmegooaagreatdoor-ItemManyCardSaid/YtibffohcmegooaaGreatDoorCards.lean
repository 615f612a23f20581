/-
  DERIVED. GIVEN WITH THE SEED: THE CARDS: each row of YtibffohcmegooaaGreatDoorRows.lean that lists a variable, with what it lists TIED to the program's text (the seventh form; the later family's looks); each row that meets fmt, with fmt's text TOLD by the authors' own Lean function (tested against real Go, not proved from fmt's source: count such statements apart). THE CARD IS WHAT COUNTS. Prove the row's statement (the work); the ties are given (YtibffohcmegooaaGreatDoorTie.lean); close each card by the builder's one call (the guide's Derived/Test/ToyasCard.lean, 'card_holds'). Laid BY PROGRAM, IN A SANDBOX (cutbox-door.mjs). By AI agents, Wed Nov 11 2026. No macro, syntax, notation, axiom, sorry.
-/
import Derived.Test.YtibffohcmegooaaGreatDoorRows
import GoSem.ClaimSeven
namespace Go.Proofs.YtibffohcmegooaaGreatDoor
namespace Rows

/-- THE TIED CARD OF 'chisellaw17.ItemMany'. -/
def itemManyCard : Claim7 := { stood := { row := itemManyRow, standIns := [], harness := (true, "47d2f57453ff42ea115f58a27749398751aa90e3debbd5af54d4c9764046727e"), looks := true }, kinds := [], alts := [], laidByText := true, laidKinds := [.data, .data, .widerDeep, .widerDeep, .data, .data, .data, .data, .data, .data, .sentinel, .sentinel, .data, .pinned, .pinned, .pinned, .pinned], laidTests := true, laidLooks := .later }
def ItemManyCardSaid : Prop := Claim7.holds Tryz.pinned (.plain (OpenSpec.ofChange itemManySpec)) itemManyCard

/-- THE TIED CARD OF 'chisellaw17.ItemShared'. -/
def itemSharedCard : Claim7 := { stood := { row := itemSharedRow, standIns := [], harness := (true, "47d2f57453ff42ea115f58a27749398751aa90e3debbd5af54d4c9764046727e"), looks := true }, kinds := [], alts := [], laidByText := true, laidKinds := [.data, .data, .widerDeep, .widerDeep, .data, .data, .data, .data, .data, .data, .sentinel, .sentinel, .data, .pinned, .pinned, .pinned, .pinned], laidTests := true, laidLooks := .later }
def ItemSharedCardSaid : Prop := Claim7.holds Tryz.pinned (.plain (OpenSpec.ofChange itemSharedSpec)) itemSharedCard

/-- THE SECOND FORM's CARD OF 'chisellaw17.ItemMany'. -/
def itemManyUptoCard : Claim7 := { stood := { row := itemManyUptoRow, standIns := [], harness := (true, "47d2f57453ff42ea115f58a27749398751aa90e3debbd5af54d4c9764046727e"), looks := true }, kinds := [], alts := [], laidByText := true, laidKinds := [.data, .data, .widerDeep, .widerDeep, .data, .data, .data, .data, .data, .data, .sentinel, .sentinel, .data, .pinned, .pinned, .pinned, .pinned], laidTests := true, laidLooks := .later }
def ItemManyUptoCardSaid : Prop := Claim7.holds Tryz.pinned (.plain (OpenSpec.upto itemManySpec)) itemManyUptoCard

/-- THE SECOND FORM's CARD OF 'chisellaw17.ItemShared'. -/
def itemSharedUptoCard : Claim7 := { stood := { row := itemSharedUptoRow, standIns := [], harness := (true, "47d2f57453ff42ea115f58a27749398751aa90e3debbd5af54d4c9764046727e"), looks := true }, kinds := [], alts := [], laidByText := true, laidKinds := [.data, .data, .widerDeep, .widerDeep, .data, .data, .data, .data, .data, .data, .sentinel, .sentinel, .data, .pinned, .pinned, .pinned, .pinned], laidTests := true, laidLooks := .later }
def ItemSharedUptoCardSaid : Prop := Claim7.holds Tryz.pinned (.plain (OpenSpec.upto itemSharedSpec)) itemSharedUptoCard
end Rows
end Go.Proofs.YtibffohcmegooaaGreatDoor
