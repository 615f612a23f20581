/- The row of chisellaw13.SimpleLengths: at every start at which the listed variables hold what the program lays in them, the call returns true and leaves what was there. Conditions: those of the given row. -/
import Derived.Test.YtelimgiehdfblaaGreatDoorSlc
import Derived.Test.YtelimgiehdfblaaGreatDoorKf
import Derived.Test.YtelimgiehdfblaaGreatDoorSlg
namespace Go.Proofs.YtelimgiehdfblaaGreatDoor
set_option linter.all false
open Go.ChangeShapes Go.WideShapes Go.ChangeAt Go.RowKit

theorem k_facts : joinedFacts Tryz.prog 5 Tryz.f5 Rows.simpleLengthsSpec Rows.simpleLengthsRow = true := by
  have h1 : Rows.simpleLengthsRow.wf (OpenSpec.ofChange Rows.simpleLengthsSpec) = true := by kernel_rfl
  have h2 : Tryz.f5.params.all (Tryz.prog.readableRec ·) = true := by kernel_rfl
  have h3 : namedTie Tryz.prog Rows.simpleLengthsRow.named Rows.simpleLengthsSpec.vars = true := by kernel_rfl
  have h4 : (Rows.simpleLengthsRow.stops == []) = true := by kernel_rfl
  have h5 : (Tryz.prog.stops == []) = true := by rw [V.f_stops]; rfl
  have h6 : (Rows.simpleLengthsRow.knobs == []) = true := by kernel_rfl
  have h7 : (Tryz.prog.stopKnobs == []) = true := by rw [V.f_stopKnobs]; rfl
  have h8 : (Rows.simpleLengthsRow.maps == (Tryz.f5.params.toList ++ Rows.simpleLengthsSpec.plain.varTypes Tryz.prog).any (Tryz.prog.mapsRec ·)) = true := by kernel_rfl
  have h9 : (Rows.simpleLengthsRow.ifaces == (Tryz.f5.params.toList ++ Rows.simpleLengthsSpec.plain.varTypes Tryz.prog).any (Tryz.prog.ifacesRec ·)) = true := by kernel_rfl
  have h10 : (Rows.simpleLengthsRow.mapsOut == Tryz.prog.mapsAmong Tryz.f5.resultTypes.toList) = true := by kernel_rfl
  have h11 : (Rows.simpleLengthsRow.loops == (Tryz.f5.params.toList ++ Rows.simpleLengthsSpec.plain.varTypes Tryz.prog).any (Tryz.prog.loopsFrom ·)) = true := by kernel_rfl
  have h12 : (Rows.simpleLengthsRow.wideKeys == (Tryz.f5.params.toList ++ Rows.simpleLengthsSpec.plain.varTypes Tryz.prog ++ Tryz.f5.resultTypes.toList).any (Tryz.prog.wideKeysFrom ·)) = true := by kernel_rfl
  have h13 : Rows.simpleLengthsSpec.vars.all (Tryz.prog.varReadable ·) = true := by kernel_rfl
  have h14 : Tryz.f5.resultTypes.all (fun t => Tryz.prog.readableRec t && decide (t < Tryz.prog.types.size)) = true := by kernel_rfl
  have h15 : (Rows.simpleLengthsRow.ifacesOut == Tryz.f5.resultTypes.toList.any (Tryz.prog.ifacesRec ·)) = true := by kernel_rfl
  have h16 : (Rows.simpleLengthsRow.loopsOut == Tryz.f5.resultTypes.toList.any (Tryz.prog.loopsFrom ·)) = true := by kernel_rfl
  have h17 : (Rows.simpleLengthsRow.plainKeys == Tryz.prog.plainKeys) = true := by rw [V.f_plainKeys]; rfl
  have h18 : Rows.simpleLengthsRow.shortTexts.isNone = true := by kernel_rfl
  have h20 : (Rows.simpleLengthsRow.pinned == Rows.simpleLengthsRow.pinnedBy) = true := by kernel_rfl
  have h21 : (Rows.simpleLengthsRow.veiled == (Tryz.f5.params.toList ++ Rows.simpleLengthsSpec.plain.varTypes Tryz.prog ++ Tryz.f5.resultTypes.toList).any (Tryz.prog.veiledRec ·)) = true := by kernel_rfl
  have h22 : Rows.simpleLengthsRow.veiledFits Tryz.prog Tryz.f5.params.toList (Tryz.f5.params.toList ++ Rows.simpleLengthsSpec.plain.varTypes Tryz.prog ++ Tryz.f5.resultTypes.toList) = true := by kernel_rfl
  unfold joinedFacts
  rw [h1, V.f_laidOut, V.f_mapsRowed, h2, h3, h4, h5, h6, h7, V.f5_inPlace, V.f5_unfollowed, V.f5_recurses, V.f5_named, h8, h9, h10, h11, h12, h13, h14, h15, h16, h17, h18, V.f_stopsHeard, V.f_mayEnter, V.f5_lifted, V.f5_make, h20, h21, h22]
  simp only [Bool.true_and, Bool.and_true]
  exact rfl

theorem known_holds : Rows.SimpleLengthsSaid :=
  OpenClaim.holds_of_wide 5 Tryz.f5 rfl rfl rfl rfl rfl rfl rfl ⟨rfl, rfl, rfl, rfl, rfl⟩ rfl rfl rfl rfl rfl (by kernel_rfl) Tryz.func5 k_facts
    (of_decide_eq_true (by kernel_rfl)) (by unfold Func.isWrapper; first | (rw [if_pos (by decide +kernel)]; kernel_rfl) | (rw [if_neg (by decide +kernel)]; exact ⟨rfl, rfl⟩))
    (fun os started H enc _ => known_lifted os started H enc)
end Go.Proofs.YtelimgiehdfblaaGreatDoor
