/- The card of chisellaw28.BuildKnown: at every start at which the listed variables hold what the program's text lays in them, the call returns true and leaves what was there. Conditions: those of the given row (its listed variables). -/
import Derived.Test.YtebaekbmminjnaaGreatDoorBkd
import Derived.Test.YtebaekbmminjnaaGreatDoorKh
import Derived.Test.YtebaekbmminjnaaGreatDoorBki
import Derived.Test.YtebaekbmminjnaaGreatDoorBkj
import Derived.Test.YtebaekbmminjnaaGreatDoorTie
import Derived.Test.YtebaekbmminjnaaGreatDoorCards
namespace Go.Proofs.YtebaekbmminjnaaGreatDoor
open Go.ChangeShapes Go.WideShapes Go.ChangeAt Go.RowKit

theorem known_card : Rows.BuildKnownCardSaid :=
  Claim7.holds_tied_plain_at .later [] [.data, .data, .widerDeep, .widerDeep, .data, .data, .data, .data, .data, .data, .sentinel, .sentinel, .data, .pinned, .pinned, .pinned, .pinned] true (true, "297b965b575ddd2c04602a68a32c2d0180454387b94b5f59b4ba77ed9fca47f9") true known_holds (fun _ h => by cases h) V.f6_wfByText (fun _ h => by cases h) buildKnown_row_tie rfl ⟨rfl, rfl⟩ V.f_mainIs rfl
    (fun f fn hf hfn => by
      obtain rfl : f = 6 := Option.some.inj (V.f6_funcNamed.symm.trans hf) |>.symm
      obtain rfl : fn = Tryz.f6 := (Option.some.inj (Tryz.func6.symm.trans hfn)).symm
      exact ⟨V.f_looks, fun j t ht => by
        rw [Tryz.params6] at ht
        simp at ht⟩)
    V.f6_goesBy
#print axioms known_card
end Go.Proofs.YtebaekbmminjnaaGreatDoor
