/- The card of chisellaw31.MergesKnown: at every start at which the listed variables hold what the program's text lays in them, the call returns true and leaves what was there. Conditions: those of the given row (its listed variables). -/
import Derived.Test.YtlccfcbifplhkaaGreatDoorKd
import Derived.Test.YtlccfcbifplhkaaGreatDoorKh
import Derived.Test.YtlccfcbifplhkaaGreatDoorKi
import Derived.Test.YtlccfcbifplhkaaGreatDoorTie
import Derived.Test.YtlccfcbifplhkaaGreatDoorCards
namespace Go.Proofs.YtlccfcbifplhkaaGreatDoor
open Go.ChangeShapes Go.WideShapes Go.ChangeAt Go.RowKit

theorem known_card : Rows.MergesKnownCardSaid :=
  Claim7.holds_tied_plain_at .later [] [.data, .data, .widerDeep, .widerDeep, .data, .data, .data, .data, .data, .data, .sentinel, .sentinel, .data, .pinned, .pinned, .pinned, .pinned] true (true, "d36e18078f2e82c9474abdc7710a3d359389b7dbe37a7d3eaaee917c87e091f9") true known_holds (fun _ h => by cases h) V.f5_wfByText (fun _ h => by cases h) mergesKnown_row_tie rfl ⟨rfl, rfl⟩ V.f_mainIs rfl
    (fun f fn hf hfn => by
      obtain rfl : f = 5 := Option.some.inj (V.f5_funcNamed.symm.trans hf) |>.symm
      obtain rfl : fn = Tryz.f5 := (Option.some.inj (Tryz.func5.symm.trans hfn)).symm
      exact ⟨V.f_looks, fun j t ht => by
        rw [Tryz.params5] at ht
        simp at ht⟩)
    V.f5_goesBy
#print axioms known_card
end Go.Proofs.YtlccfcbifplhkaaGreatDoor
