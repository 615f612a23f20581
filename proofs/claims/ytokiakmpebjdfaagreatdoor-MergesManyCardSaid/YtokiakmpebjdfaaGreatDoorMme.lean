/- The card of chisellaw31.MergesMany: at every start at which the listed variables hold what the program's text lays in them, the call returns true and leaves what was there. Conditions: those of the given row (its listed variables). -/
import Derived.Test.YtokiakmpebjdfaaGreatDoorMmd
import Derived.Test.YtokiakmpebjdfaaGreatDoorKh
import Derived.Test.YtokiakmpebjdfaaGreatDoorMmi
import Derived.Test.YtokiakmpebjdfaaGreatDoorMmj
import Derived.Test.YtokiakmpebjdfaaGreatDoorTie
import Derived.Test.YtokiakmpebjdfaaGreatDoorCards
namespace Go.Proofs.YtokiakmpebjdfaaGreatDoor
set_option linter.all false
open Go.ChangeShapes Go.WideShapes Go.ChangeAt Go.RowKit

theorem known_card : Rows.MergesManyCardSaid :=
  Claim7.holds_tied_plain_at .later [] [.data, .data, .widerDeep, .widerDeep, .data, .data, .data, .data, .data, .data, .sentinel, .sentinel, .data, .pinned, .pinned, .pinned, .pinned] true (true, "9fd89e97b8740181a205894a72fbc57f6d67f875700d24a5c5dfeb29c2879d3c") true known_holds (fun _ h => by cases h) V.f3_wfByText (fun _ h => by cases h) mergesMany_row_tie rfl ⟨rfl, rfl⟩ V.f_mainIs rfl
    (fun f fn hf hfn => by
      obtain rfl : f = 3 := Option.some.inj (V.f3_funcNamed.symm.trans hf) |>.symm
      obtain rfl : fn = Tryz.f3 := (Option.some.inj (Tryz.func3.symm.trans hfn)).symm
      exact ⟨V.f_looks, fun j t ht => by
        rw [Tryz.params3] at ht
        have h5 : Tryz.prog.wantsStandIn 5 = false := by kernel_rfl
        match j, ht with
        | 0, ht => cases ht; exact h5
        | 1, ht => cases ht; exact h5
        | j + 2, ht => simp at ht⟩)
    V.f3_goesBy
#print axioms known_card
end Go.Proofs.YtokiakmpebjdfaaGreatDoor
