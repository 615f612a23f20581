/- The card of chisellaw17.ItemMany: at every start at which the listed variables hold what the program's text lays in them, the call returns true and leaves what was there. Conditions: those of the given row (its listed variables). -/
import Derived.Test.YtibffohcmegooaaGreatDoorImd
import Derived.Test.YtibffohcmegooaaGreatDoorKh
import Derived.Test.YtibffohcmegooaaGreatDoorImi
import Derived.Test.YtibffohcmegooaaGreatDoorImj
import Derived.Test.YtibffohcmegooaaGreatDoorTie
import Derived.Test.YtibffohcmegooaaGreatDoorCards
namespace Go.Proofs.YtibffohcmegooaaGreatDoor
set_option linter.all false
open Go.ChangeShapes Go.WideShapes Go.ChangeAt Go.RowKit

theorem known_card : Rows.ItemManyCardSaid :=
  Claim7.holds_tied_plain_at .later [] [.data, .data, .widerDeep, .widerDeep, .data, .data, .data, .data, .data, .data, .sentinel, .sentinel, .data, .pinned, .pinned, .pinned, .pinned] true (true, "47d2f57453ff42ea115f58a27749398751aa90e3debbd5af54d4c9764046727e") true known_holds (fun _ h => by cases h) V.f3_wfByText (fun _ h => by cases h) itemMany_row_tie rfl ⟨rfl, rfl⟩ V.f_mainIs rfl
    (fun f fn hf hfn => by
      obtain rfl : f = 3 := Option.some.inj (V.f3_funcNamed.symm.trans hf) |>.symm
      obtain rfl : fn = Tryz.f3 := (Option.some.inj (Tryz.func3.symm.trans hfn)).symm
      exact ⟨V.f_looks, fun j t ht => by
        rw [Tryz.params3] at ht
        have h5 : Tryz.prog.wantsStandIn 5 = false := by kernel_rfl
        have h4 : Tryz.prog.wantsStandIn 4 = false := by kernel_rfl
        match j, ht with
        | 0, ht => cases ht; exact h5
        | 1, ht => cases ht; exact h4
        | j + 2, ht => simp at ht⟩)
    V.f3_goesBy
#print axioms known_card
end Go.Proofs.YtibffohcmegooaaGreatDoor
