/- The row of chisellaw17.ItemMany: at every start at which the listed variables hold what the program lays in them, the call returns true and leaves what was there. Conditions: those of the given row. -/
import Derived.Test.YtibffohcmegooaaGreatDoorImc
import Derived.Test.YtibffohcmegooaaGreatDoorKf
import Derived.Test.YtibffohcmegooaaGreatDoorImg
namespace Go.Proofs.YtibffohcmegooaaGreatDoor
set_option linter.all false
open Go.ChangeShapes Go.WideShapes Go.ChangeAt Go.RowKit

theorem k_facts : joinedFacts Tryz.prog 3 Tryz.f3 Rows.itemManySpec Rows.itemManyRow = true := by
  have h1 : Rows.itemManyRow.wf (OpenSpec.ofChange Rows.itemManySpec) = true := by kernel_rfl
  have h2 : Tryz.f3.params.all (Tryz.prog.readableRec ·) = true := by kernel_rfl
  have h3 : namedTie Tryz.prog Rows.itemManyRow.named Rows.itemManySpec.vars = true := by kernel_rfl
  have h4 : (Rows.itemManyRow.stops == []) = true := by kernel_rfl
  have h5 : (Tryz.prog.stops == []) = true := by rw [V.f_stops]; rfl
  have h6 : (Rows.itemManyRow.knobs == []) = true := by kernel_rfl
  have h7 : (Tryz.prog.stopKnobs == []) = true := by rw [V.f_stopKnobs]; rfl
  have h8 : (Rows.itemManyRow.maps == (Tryz.f3.params.toList ++ Rows.itemManySpec.plain.varTypes Tryz.prog).any (Tryz.prog.mapsRec ·)) = true := by kernel_rfl
  have h9 : (Rows.itemManyRow.ifaces == (Tryz.f3.params.toList ++ Rows.itemManySpec.plain.varTypes Tryz.prog).any (Tryz.prog.ifacesRec ·)) = true := by kernel_rfl
  have h10 : (Rows.itemManyRow.mapsOut == Tryz.prog.mapsAmong Tryz.f3.resultTypes.toList) = true := by kernel_rfl
  have h11 : (Rows.itemManyRow.loops == (Tryz.f3.params.toList ++ Rows.itemManySpec.plain.varTypes Tryz.prog).any (Tryz.prog.loopsFrom ·)) = true := by kernel_rfl
  have h12 : (Rows.itemManyRow.wideKeys == (Tryz.f3.params.toList ++ Rows.itemManySpec.plain.varTypes Tryz.prog ++ Tryz.f3.resultTypes.toList).any (Tryz.prog.wideKeysFrom ·)) = true := by kernel_rfl
  have h13 : Rows.itemManySpec.vars.all (Tryz.prog.varReadable ·) = true := by kernel_rfl
  have h14 : Tryz.f3.resultTypes.all (fun t => Tryz.prog.readableRec t && decide (t < Tryz.prog.types.size)) = true := by kernel_rfl
  have h15 : (Rows.itemManyRow.ifacesOut == Tryz.f3.resultTypes.toList.any (Tryz.prog.ifacesRec ·)) = true := by kernel_rfl
  have h16 : (Rows.itemManyRow.loopsOut == Tryz.f3.resultTypes.toList.any (Tryz.prog.loopsFrom ·)) = true := by kernel_rfl
  have h17 : (Rows.itemManyRow.plainKeys == Tryz.prog.plainKeys) = true := by rw [V.f_plainKeys]; rfl
  have h18 : Rows.itemManyRow.shortTexts.isNone = true := by kernel_rfl
  have h20 : (Rows.itemManyRow.pinned == Rows.itemManyRow.pinnedBy) = true := by kernel_rfl
  have h21 : (Rows.itemManyRow.veiled == (Tryz.f3.params.toList ++ Rows.itemManySpec.plain.varTypes Tryz.prog ++ Tryz.f3.resultTypes.toList).any (Tryz.prog.veiledRec ·)) = true := by kernel_rfl
  have h22 : Rows.itemManyRow.veiledFits Tryz.prog Tryz.f3.params.toList (Tryz.f3.params.toList ++ Rows.itemManySpec.plain.varTypes Tryz.prog ++ Tryz.f3.resultTypes.toList) = true := by kernel_rfl
  unfold joinedFacts
  rw [h1, V.f_laidOut, V.f_mapsRowed, h2, h3, h4, h5, h6, h7, V.f3_inPlace, V.f3_unfollowed, V.f3_recurses, V.f3_named, h8, h9, h10, h11, h12, h13, h14, h15, h16, h17, h18, V.f_stopsHeard, V.f_mayEnter, V.f3_lifted, V.f3_make, h20, h21, h22]
  simp only [Bool.true_and, Bool.and_true]
  exact rfl

theorem known_holds : Rows.ItemManySaid :=
  OpenClaim.holds_of_wide 3 Tryz.f3 rfl rfl rfl rfl rfl rfl rfl ⟨rfl, rfl, rfl, rfl, rfl⟩ rfl rfl rfl rfl rfl (by kernel_rfl) Tryz.func3 k_facts
    (of_decide_eq_true (by kernel_rfl)) (by unfold Func.isWrapper; first | (rw [if_pos (by decide +kernel)]; kernel_rfl) | (rw [if_neg (by decide +kernel)]; exact ⟨rfl, rfl⟩))
    (fun os started H enc _ => known_lifted os started H enc)
end Go.Proofs.YtibffohcmegooaaGreatDoor
