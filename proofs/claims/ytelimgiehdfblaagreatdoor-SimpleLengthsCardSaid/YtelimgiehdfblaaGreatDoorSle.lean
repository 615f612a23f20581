/- The card of chisellaw13.SimpleLengths: at every start at which the listed variables hold what the program's text lays in them, the call returns true and leaves what was there. Conditions: those of the given row (its listed variables). -/
import Derived.Test.YtelimgiehdfblaaGreatDoorSld
import Derived.Test.YtelimgiehdfblaaGreatDoorKh
import Derived.Test.YtelimgiehdfblaaGreatDoorSli
import Derived.Test.YtelimgiehdfblaaGreatDoorSlj
import Derived.Test.YtelimgiehdfblaaGreatDoorTie
import Derived.Test.YtelimgiehdfblaaGreatDoorCards
namespace Go.Proofs.YtelimgiehdfblaaGreatDoor
set_option linter.all false
open Go.ChangeShapes Go.WideShapes Go.ChangeAt Go.RowKit

theorem known_card : Rows.SimpleLengthsCardSaid :=
  Claim7.holds_tied_plain_at .later [] [.data, .data, .widerDeep, .widerDeep, .data, .data, .data, .data, .data, .data, .sentinel, .sentinel, .data, .pinned, .pinned, .pinned, .pinned] true (true, "a302b7a7a552fd1dca0525ac27b9abec41af114b2414d22bf15b78e8b92f5f9d") true known_holds (fun _ h => by cases h) V.f5_wfByText (fun _ h => by cases h) simpleLengths_row_tie rfl ⟨rfl, rfl⟩ V.f_mainIs rfl
    (fun f fn hf hfn => by
      obtain rfl : f = 5 := Option.some.inj (V.f5_funcNamed.symm.trans hf) |>.symm
      obtain rfl : fn = Tryz.f5 := (Option.some.inj (Tryz.func5.symm.trans hfn)).symm
      exact ⟨V.f_looks, fun j t ht => by
        rw [Tryz.params5] at ht
        have h9 : Tryz.prog.wantsStandIn 9 = false := by kernel_rfl
        have h3 : Tryz.prog.wantsStandIn 3 = false := by kernel_rfl
        match j, ht with
        | 0, ht => cases ht; exact h9
        | 1, ht => cases ht; exact h3
        | 2, ht => cases ht; exact h3
        | j + 3, ht => simp at ht⟩)
    V.f5_goesBy
#print axioms known_card
end Go.Proofs.YtelimgiehdfblaaGreatDoor
