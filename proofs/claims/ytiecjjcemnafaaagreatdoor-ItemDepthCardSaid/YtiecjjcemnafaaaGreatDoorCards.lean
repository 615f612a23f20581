/-
  DERIVED. GIVEN WITH THE SEED: THE CARDS: each row of YtiecjjcemnafaaaGreatDoorRows.lean that lists a variable, with what it lists TIED to the program's text (the seventh form; the later family's looks); each row that meets fmt, with fmt's text TOLD by the authors' own Lean function (tested against real Go, not proved from fmt's source: count such statements apart). THE CARD IS WHAT COUNTS. Prove the row's statement (the work); the ties are given (YtiecjjcemnafaaaGreatDoorTie.lean); close each card by the builder's one call (the guide's Derived/Test/ToyasCard.lean, 'card_holds'). Laid BY PROGRAM, IN A SANDBOX (cutbox-door.mjs). By AI agents, Wed Nov 11 2026. No macro, syntax, notation, axiom, sorry.
-/
import Derived.Test.YtiecjjcemnafaaaGreatDoorRows
import GoSem.ClaimSeven
namespace Go.Proofs.YtiecjjcemnafaaaGreatDoor
namespace Rows

/-- THE TIED CARD OF 'chisellaw17.ItemOrder'. -/
def itemOrderCard : Claim7 := { stood := { row := itemOrderRow, standIns := [], harness := (true, "8f81b6e48c7d420f503710a5cf07723534af0752731324a3294d1d7362bc4435"), looks := true }, kinds := [], alts := [], laidByText := true, laidKinds := [.data, .data, .widerDeep, .widerDeep, .data, .data, .data, .data, .data, .data, .sentinel, .sentinel, .data, .pinned, .pinned, .pinned, .pinned], laidTests := true, laidLooks := .later }
def ItemOrderCardSaid : Prop := Claim7.holds Tryz.pinned (.plain (OpenSpec.ofChange itemOrderSpec)) itemOrderCard

/-- THE TIED CARD OF 'chisellaw17.ItemEquals'. -/
def itemEqualsCard : Claim7 := { stood := { row := itemEqualsRow, standIns := [], harness := (true, "8f81b6e48c7d420f503710a5cf07723534af0752731324a3294d1d7362bc4435"), looks := true }, kinds := [], alts := [], laidByText := true, laidKinds := [.data, .data, .widerDeep, .widerDeep, .data, .data, .data, .data, .data, .data, .sentinel, .sentinel, .data, .pinned, .pinned, .pinned, .pinned], laidTests := true, laidLooks := .later }
def ItemEqualsCardSaid : Prop := Claim7.holds Tryz.pinned (.plain (OpenSpec.ofChange itemEqualsSpec)) itemEqualsCard

/-- THE TIED CARD OF 'chisellaw17.ItemFlat'. -/
def itemFlatCard : Claim7 := { stood := { row := itemFlatRow, standIns := [], harness := (true, "8f81b6e48c7d420f503710a5cf07723534af0752731324a3294d1d7362bc4435"), looks := true }, kinds := [], alts := [], laidByText := true, laidKinds := [.data, .data, .widerDeep, .widerDeep, .data, .data, .data, .data, .data, .data, .sentinel, .sentinel, .data, .pinned, .pinned, .pinned, .pinned], laidTests := true, laidLooks := .later }
def ItemFlatCardSaid : Prop := Claim7.holds Tryz.pinned (.plain (OpenSpec.ofChange itemFlatSpec)) itemFlatCard

/-- THE TIED CARD OF 'chisellaw17.ItemDepth'. -/
def itemDepthCard : Claim7 := { stood := { row := itemDepthRow, standIns := [], harness := (true, "8f81b6e48c7d420f503710a5cf07723534af0752731324a3294d1d7362bc4435"), looks := true }, kinds := [], alts := [], laidByText := true, laidKinds := [.data, .data, .widerDeep, .widerDeep, .data, .data, .data, .data, .data, .data, .sentinel, .sentinel, .data, .pinned, .pinned, .pinned, .pinned], laidTests := true, laidLooks := .later }
def ItemDepthCardSaid : Prop := Claim7.holds Tryz.pinned (.plain (OpenSpec.ofChange itemDepthSpec)) itemDepthCard

/-- THE TIED CARD OF 'chisellaw17.ItemMany'. -/
def itemManyCard : Claim7 := { stood := { row := itemManyRow, standIns := [], harness := (true, "8f81b6e48c7d420f503710a5cf07723534af0752731324a3294d1d7362bc4435"), looks := true }, kinds := [], alts := [], laidByText := true, laidKinds := [.data, .data, .widerDeep, .widerDeep, .data, .data, .data, .data, .data, .data, .sentinel, .sentinel, .data, .pinned, .pinned, .pinned, .pinned], laidTests := true, laidLooks := .later }
def ItemManyCardSaid : Prop := Claim7.holds Tryz.pinned (.plain (OpenSpec.ofChange itemManySpec)) itemManyCard

/-- THE TIED CARD OF 'chisellaw17.ItemShared'. -/
def itemSharedCard : Claim7 := { stood := { row := itemSharedRow, standIns := [], harness := (true, "8f81b6e48c7d420f503710a5cf07723534af0752731324a3294d1d7362bc4435"), looks := true }, kinds := [], alts := [], laidByText := true, laidKinds := [.data, .data, .widerDeep, .widerDeep, .data, .data, .data, .data, .data, .data, .sentinel, .sentinel, .data, .pinned, .pinned, .pinned, .pinned], laidTests := true, laidLooks := .later }
def ItemSharedCardSaid : Prop := Claim7.holds Tryz.pinned (.plain (OpenSpec.ofChange itemSharedSpec)) itemSharedCard

/-- THE TIED CARD OF 'chisellaw17.ItemLong'. -/
def itemLongCard : Claim7 := { stood := { row := itemLongRow, standIns := [], harness := (true, "8f81b6e48c7d420f503710a5cf07723534af0752731324a3294d1d7362bc4435"), looks := true }, kinds := [], alts := [], laidByText := true, laidKinds := [.data, .data, .widerDeep, .widerDeep, .data, .data, .data, .data, .data, .data, .sentinel, .sentinel, .data, .pinned, .pinned, .pinned, .pinned], laidTests := true, laidLooks := .later }
def ItemLongCardSaid : Prop := Claim7.holds Tryz.pinned (.plain (OpenSpec.ofChange itemLongSpec)) itemLongCard

/-- THE TIED CARD OF 'chisellaw17.ItemSums'. -/
def itemSumsCard : Claim7 := { stood := { row := itemSumsRow, standIns := [], harness := (true, "8f81b6e48c7d420f503710a5cf07723534af0752731324a3294d1d7362bc4435"), looks := true }, kinds := [], alts := [], laidByText := true, laidKinds := [.data, .data, .widerDeep, .widerDeep, .data, .data, .data, .data, .data, .data, .sentinel, .sentinel, .data, .pinned, .pinned, .pinned, .pinned], laidTests := true, laidLooks := .later }
def ItemSumsCardSaid : Prop := Claim7.holds Tryz.pinned (.plain (OpenSpec.ofChange itemSumsSpec)) itemSumsCard

/-- THE TIED CARD OF 'chisellaw17.ItemKnown'. -/
def itemKnownCard : Claim7 := { stood := { row := itemKnownRow, standIns := [], harness := (true, "8f81b6e48c7d420f503710a5cf07723534af0752731324a3294d1d7362bc4435"), looks := true }, kinds := [], alts := [], laidByText := true, laidKinds := [.data, .data, .widerDeep, .widerDeep, .data, .data, .data, .data, .data, .data, .sentinel, .sentinel, .data, .pinned, .pinned, .pinned, .pinned], laidTests := true, laidLooks := .later }
def ItemKnownCardSaid : Prop := Claim7.holds Tryz.pinned (.plain (OpenSpec.ofChange itemKnownSpec)) itemKnownCard

/-- THE TIED CARD OF 'chisellaw17.ItemCopies'. -/
def itemCopiesCard : Claim7 := { stood := { row := itemCopiesRow, standIns := [], harness := (true, "8f81b6e48c7d420f503710a5cf07723534af0752731324a3294d1d7362bc4435"), looks := true }, kinds := [], alts := [], laidByText := true, laidKinds := [.data, .data, .widerDeep, .widerDeep, .data, .data, .data, .data, .data, .data, .sentinel, .sentinel, .data, .pinned, .pinned, .pinned, .pinned], laidTests := true, laidLooks := .later }
def ItemCopiesCardSaid : Prop := Claim7.holds Tryz.pinned (.plain (OpenSpec.ofChange itemCopiesSpec)) itemCopiesCard

/-- THE SECOND FORM's CARD OF 'chisellaw17.ItemOrder'. -/
def itemOrderUptoCard : Claim7 := { stood := { row := itemOrderUptoRow, standIns := [], harness := (true, "8f81b6e48c7d420f503710a5cf07723534af0752731324a3294d1d7362bc4435"), looks := true }, kinds := [], alts := [], laidByText := true, laidKinds := [.data, .data, .widerDeep, .widerDeep, .data, .data, .data, .data, .data, .data, .sentinel, .sentinel, .data, .pinned, .pinned, .pinned, .pinned], laidTests := true, laidLooks := .later }
def ItemOrderUptoCardSaid : Prop := Claim7.holds Tryz.pinned (.plain (OpenSpec.upto itemOrderSpec)) itemOrderUptoCard

/-- THE SECOND FORM's CARD OF 'chisellaw17.ItemEquals'. -/
def itemEqualsUptoCard : Claim7 := { stood := { row := itemEqualsUptoRow, standIns := [], harness := (true, "8f81b6e48c7d420f503710a5cf07723534af0752731324a3294d1d7362bc4435"), looks := true }, kinds := [], alts := [], laidByText := true, laidKinds := [.data, .data, .widerDeep, .widerDeep, .data, .data, .data, .data, .data, .data, .sentinel, .sentinel, .data, .pinned, .pinned, .pinned, .pinned], laidTests := true, laidLooks := .later }
def ItemEqualsUptoCardSaid : Prop := Claim7.holds Tryz.pinned (.plain (OpenSpec.upto itemEqualsSpec)) itemEqualsUptoCard

/-- THE SECOND FORM's CARD OF 'chisellaw17.ItemFlat'. -/
def itemFlatUptoCard : Claim7 := { stood := { row := itemFlatUptoRow, standIns := [], harness := (true, "8f81b6e48c7d420f503710a5cf07723534af0752731324a3294d1d7362bc4435"), looks := true }, kinds := [], alts := [], laidByText := true, laidKinds := [.data, .data, .widerDeep, .widerDeep, .data, .data, .data, .data, .data, .data, .sentinel, .sentinel, .data, .pinned, .pinned, .pinned, .pinned], laidTests := true, laidLooks := .later }
def ItemFlatUptoCardSaid : Prop := Claim7.holds Tryz.pinned (.plain (OpenSpec.upto itemFlatSpec)) itemFlatUptoCard

/-- THE SECOND FORM's CARD OF 'chisellaw17.ItemDepth'. -/
def itemDepthUptoCard : Claim7 := { stood := { row := itemDepthUptoRow, standIns := [], harness := (true, "8f81b6e48c7d420f503710a5cf07723534af0752731324a3294d1d7362bc4435"), looks := true }, kinds := [], alts := [], laidByText := true, laidKinds := [.data, .data, .widerDeep, .widerDeep, .data, .data, .data, .data, .data, .data, .sentinel, .sentinel, .data, .pinned, .pinned, .pinned, .pinned], laidTests := true, laidLooks := .later }
def ItemDepthUptoCardSaid : Prop := Claim7.holds Tryz.pinned (.plain (OpenSpec.upto itemDepthSpec)) itemDepthUptoCard

/-- THE SECOND FORM's CARD OF 'chisellaw17.ItemMany'. -/
def itemManyUptoCard : Claim7 := { stood := { row := itemManyUptoRow, standIns := [], harness := (true, "8f81b6e48c7d420f503710a5cf07723534af0752731324a3294d1d7362bc4435"), looks := true }, kinds := [], alts := [], laidByText := true, laidKinds := [.data, .data, .widerDeep, .widerDeep, .data, .data, .data, .data, .data, .data, .sentinel, .sentinel, .data, .pinned, .pinned, .pinned, .pinned], laidTests := true, laidLooks := .later }
def ItemManyUptoCardSaid : Prop := Claim7.holds Tryz.pinned (.plain (OpenSpec.upto itemManySpec)) itemManyUptoCard

/-- THE SECOND FORM's CARD OF 'chisellaw17.ItemShared'. -/
def itemSharedUptoCard : Claim7 := { stood := { row := itemSharedUptoRow, standIns := [], harness := (true, "8f81b6e48c7d420f503710a5cf07723534af0752731324a3294d1d7362bc4435"), looks := true }, kinds := [], alts := [], laidByText := true, laidKinds := [.data, .data, .widerDeep, .widerDeep, .data, .data, .data, .data, .data, .data, .sentinel, .sentinel, .data, .pinned, .pinned, .pinned, .pinned], laidTests := true, laidLooks := .later }
def ItemSharedUptoCardSaid : Prop := Claim7.holds Tryz.pinned (.plain (OpenSpec.upto itemSharedSpec)) itemSharedUptoCard

/-- THE SECOND FORM's CARD OF 'chisellaw17.ItemLong'. -/
def itemLongUptoCard : Claim7 := { stood := { row := itemLongUptoRow, standIns := [], harness := (true, "8f81b6e48c7d420f503710a5cf07723534af0752731324a3294d1d7362bc4435"), looks := true }, kinds := [], alts := [], laidByText := true, laidKinds := [.data, .data, .widerDeep, .widerDeep, .data, .data, .data, .data, .data, .data, .sentinel, .sentinel, .data, .pinned, .pinned, .pinned, .pinned], laidTests := true, laidLooks := .later }
def ItemLongUptoCardSaid : Prop := Claim7.holds Tryz.pinned (.plain (OpenSpec.upto itemLongSpec)) itemLongUptoCard

/-- THE SECOND FORM's CARD OF 'chisellaw17.ItemSums'. -/
def itemSumsUptoCard : Claim7 := { stood := { row := itemSumsUptoRow, standIns := [], harness := (true, "8f81b6e48c7d420f503710a5cf07723534af0752731324a3294d1d7362bc4435"), looks := true }, kinds := [], alts := [], laidByText := true, laidKinds := [.data, .data, .widerDeep, .widerDeep, .data, .data, .data, .data, .data, .data, .sentinel, .sentinel, .data, .pinned, .pinned, .pinned, .pinned], laidTests := true, laidLooks := .later }
def ItemSumsUptoCardSaid : Prop := Claim7.holds Tryz.pinned (.plain (OpenSpec.upto itemSumsSpec)) itemSumsUptoCard

/-- THE SECOND FORM's CARD OF 'chisellaw17.ItemKnown'. -/
def itemKnownUptoCard : Claim7 := { stood := { row := itemKnownUptoRow, standIns := [], harness := (true, "8f81b6e48c7d420f503710a5cf07723534af0752731324a3294d1d7362bc4435"), looks := true }, kinds := [], alts := [], laidByText := true, laidKinds := [.data, .data, .widerDeep, .widerDeep, .data, .data, .data, .data, .data, .data, .sentinel, .sentinel, .data, .pinned, .pinned, .pinned, .pinned], laidTests := true, laidLooks := .later }
def ItemKnownUptoCardSaid : Prop := Claim7.holds Tryz.pinned (.plain (OpenSpec.upto itemKnownSpec)) itemKnownUptoCard

/-- THE SECOND FORM's CARD OF 'chisellaw17.ItemCopies'. -/
def itemCopiesUptoCard : Claim7 := { stood := { row := itemCopiesUptoRow, standIns := [], harness := (true, "8f81b6e48c7d420f503710a5cf07723534af0752731324a3294d1d7362bc4435"), looks := true }, kinds := [], alts := [], laidByText := true, laidKinds := [.data, .data, .widerDeep, .widerDeep, .data, .data, .data, .data, .data, .data, .sentinel, .sentinel, .data, .pinned, .pinned, .pinned, .pinned], laidTests := true, laidLooks := .later }
def ItemCopiesUptoCardSaid : Prop := Claim7.holds Tryz.pinned (.plain (OpenSpec.upto itemCopiesSpec)) itemCopiesUptoCard
end Rows
end Go.Proofs.YtiecjjcemnafaaaGreatDoor
