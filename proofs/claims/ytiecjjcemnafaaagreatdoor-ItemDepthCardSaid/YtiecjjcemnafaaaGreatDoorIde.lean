/- The card of chisellaw17.ItemDepth: at every start at which the listed variables hold what the program's text lays in them, the call returns true and leaves what was there. Conditions: those of the given row (its listed variables). -/
import Derived.Test.YtiecjjcemnafaaaGreatDoorIdd
import Derived.Test.YtiecjjcemnafaaaGreatDoorKh
import Derived.Test.YtiecjjcemnafaaaGreatDoorIdi
import Derived.Test.YtiecjjcemnafaaaGreatDoorIdj
import Derived.Test.YtiecjjcemnafaaaGreatDoorTie
import Derived.Test.YtiecjjcemnafaaaGreatDoorCards
namespace Go.Proofs.YtiecjjcemnafaaaGreatDoor
set_option linter.all false
open Go.ChangeShapes Go.WideShapes Go.ChangeAt Go.RowKit

theorem known_card : Rows.ItemDepthCardSaid :=
  Claim7.holds_tied_plain_at .later [] [.data, .data, .widerDeep, .widerDeep, .data, .data, .data, .data, .data, .data, .sentinel, .sentinel, .data, .pinned, .pinned, .pinned, .pinned] true (true, "8f81b6e48c7d420f503710a5cf07723534af0752731324a3294d1d7362bc4435") true known_holds (fun _ h => by cases h) V.f6_wfByText (fun _ h => by cases h) itemDepth_row_tie rfl ⟨rfl, rfl⟩ V.f_mainIs rfl
    (fun f fn hf hfn => by
      obtain rfl : f = 6 := Option.some.inj (V.f6_funcNamed.symm.trans hf) |>.symm
      obtain rfl : fn = Tryz.f6 := (Option.some.inj (Tryz.func6.symm.trans hfn)).symm
      exact ⟨V.f_looks, fun j t ht => by
        rw [Tryz.params6] at ht
        have h5 : Tryz.prog.wantsStandIn 5 = false := by kernel_rfl
        match j, ht with
        | 0, ht => cases ht; exact h5
        | 1, ht => cases ht; exact h5
        | j + 2, ht => simp at ht⟩)
    V.f6_goesBy
#print axioms known_card
end Go.Proofs.YtiecjjcemnafaaaGreatDoor
