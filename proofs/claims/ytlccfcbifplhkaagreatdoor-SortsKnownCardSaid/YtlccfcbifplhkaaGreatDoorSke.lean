/- The card of chisellaw29.SortsKnown: at every start at which the listed variables hold what the program's text lays in them, the call returns true and leaves what was there. Conditions: those of the given row (its listed variables). -/
import Derived.Test.YtlccfcbifplhkaaGreatDoorSkd
import Derived.Test.YtlccfcbifplhkaaGreatDoorKh
import Derived.Test.YtlccfcbifplhkaaGreatDoorSki
import Derived.Test.YtlccfcbifplhkaaGreatDoorTie
import Derived.Test.YtlccfcbifplhkaaGreatDoorCards
namespace Go.Proofs.YtlccfcbifplhkaaGreatDoor
open Go.ChangeShapes Go.WideShapes Go.ChangeAt Go.RowKit

theorem known_card : Rows.SortsKnownCardSaid :=
  Claim7.holds_tied_plain_at .later [] [.data, .data, .widerDeep, .widerDeep, .data, .data, .data, .data, .data, .data, .sentinel, .sentinel, .data, .pinned, .pinned, .pinned, .pinned] true (true, "d36e18078f2e82c9474abdc7710a3d359389b7dbe37a7d3eaaee917c87e091f9") true known_holds (fun _ h => by cases h) V.f10_wfByText (fun _ h => by cases h) sortsKnown_row_tie rfl ⟨rfl, rfl⟩ V.f_mainIs rfl
    (fun f fn hf hfn => by
      obtain rfl : f = 10 := Option.some.inj (V.f10_funcNamed.symm.trans hf) |>.symm
      obtain rfl : fn = Tryz.f10 := (Option.some.inj (Tryz.func10.symm.trans hfn)).symm
      exact ⟨V.f_looks, fun j t ht => by
        rw [Tryz.params10] at ht
        simp at ht⟩)
    V.f10_goesBy
#print axioms known_card
end Go.Proofs.YtlccfcbifplhkaaGreatDoor
