/- The card of chisellaw13.SimpleKnown: at every start at which the listed variables hold what the program's text lays in them, the call returns true and leaves what was there. Conditions: those of the given row (its listed variables). -/
import Derived.Test.YtelimgiehdfblaaGreatDoorSkd
import Derived.Test.YtelimgiehdfblaaGreatDoorKh
import Derived.Test.YtelimgiehdfblaaGreatDoorSki
import Derived.Test.YtelimgiehdfblaaGreatDoorSkj
import Derived.Test.YtelimgiehdfblaaGreatDoorTie
import Derived.Test.YtelimgiehdfblaaGreatDoorCards
namespace Go.Proofs.YtelimgiehdfblaaGreatDoor
open Go.ChangeShapes Go.WideShapes Go.ChangeAt Go.RowKit

theorem known_card : Rows.SimpleKnownCardSaid :=
  Claim7.holds_tied_plain_at .later [] [.data, .data, .widerDeep, .widerDeep, .data, .data, .data, .data, .data, .data, .sentinel, .sentinel, .data, .pinned, .pinned, .pinned, .pinned] true (true, "a302b7a7a552fd1dca0525ac27b9abec41af114b2414d22bf15b78e8b92f5f9d") true known_holds (fun _ h => by cases h) V.f6_wfByText (fun _ h => by cases h) simpleKnown_row_tie rfl ⟨rfl, rfl⟩ V.f_mainIs rfl
    (fun f fn hf hfn => by
      obtain rfl : f = 6 := Option.some.inj (V.f6_funcNamed.symm.trans hf) |>.symm
      obtain rfl : fn = Tryz.f6 := (Option.some.inj (Tryz.func6.symm.trans hfn)).symm
      exact ⟨V.f_looks, fun j t ht => by
        rw [Tryz.params6] at ht
        simp at ht⟩)
    V.f6_goesBy
#print axioms known_card
end Go.Proofs.YtelimgiehdfblaaGreatDoor
