/- The row of chisellaw28.BuildKnown: at every start at which the listed variables hold what the program lays in them, the call returns true and leaves what was there. Conditions: those of the given row. -/
import Derived.Test.YtebaekbmminjnaaGreatDoorBkc
import Derived.Test.YtebaekbmminjnaaGreatDoorKf
import Derived.Test.YtebaekbmminjnaaGreatDoorBkg
namespace Go.Proofs.YtebaekbmminjnaaGreatDoor
open Go.ChangeShapes Go.WideShapes Go.ChangeAt Go.RowKit

theorem k_facts : joinedFacts Tryz.prog 6 Tryz.f6 Rows.buildKnownSpec Rows.buildKnownRow = true := by
  have h1 : Rows.buildKnownRow.wf (OpenSpec.ofChange Rows.buildKnownSpec) = true := by kernel_rfl
  have h2 : Tryz.f6.params.all (Tryz.prog.readableRec ·) = true := by kernel_rfl
  have h3 : namedTie Tryz.prog Rows.buildKnownRow.named Rows.buildKnownSpec.vars = true := by kernel_rfl
  have h4 : (Rows.buildKnownRow.stops == []) = true := by kernel_rfl
  have h5 : (Tryz.prog.stops == []) = true := by rw [V.f_stops]; rfl
  have h6 : (Rows.buildKnownRow.knobs == []) = true := by kernel_rfl
  have h7 : (Tryz.prog.stopKnobs == []) = true := by rw [V.f_stopKnobs]; rfl
  have h8 : (Rows.buildKnownRow.maps == (Tryz.f6.params.toList ++ Rows.buildKnownSpec.plain.varTypes Tryz.prog).any (Tryz.prog.mapsRec ·)) = true := by kernel_rfl
  have h9 : (Rows.buildKnownRow.ifaces == (Tryz.f6.params.toList ++ Rows.buildKnownSpec.plain.varTypes Tryz.prog).any (Tryz.prog.ifacesRec ·)) = true := by kernel_rfl
  have h10 : (Rows.buildKnownRow.mapsOut == Tryz.prog.mapsAmong Tryz.f6.resultTypes.toList) = true := by kernel_rfl
  have h11 : (Rows.buildKnownRow.loops == (Tryz.f6.params.toList ++ Rows.buildKnownSpec.plain.varTypes Tryz.prog).any (Tryz.prog.loopsFrom ·)) = true := by kernel_rfl
  have h12 : (Rows.buildKnownRow.wideKeys == (Tryz.f6.params.toList ++ Rows.buildKnownSpec.plain.varTypes Tryz.prog ++ Tryz.f6.resultTypes.toList).any (Tryz.prog.wideKeysFrom ·)) = true := by kernel_rfl
  have h13 : Rows.buildKnownSpec.vars.all (Tryz.prog.varReadable ·) = true := by kernel_rfl
  have h14 : Tryz.f6.resultTypes.all (fun t => Tryz.prog.readableRec t && decide (t < Tryz.prog.types.size)) = true := by kernel_rfl
  have h15 : (Rows.buildKnownRow.ifacesOut == Tryz.f6.resultTypes.toList.any (Tryz.prog.ifacesRec ·)) = true := by kernel_rfl
  have h16 : (Rows.buildKnownRow.loopsOut == Tryz.f6.resultTypes.toList.any (Tryz.prog.loopsFrom ·)) = true := by kernel_rfl
  have h17 : (Rows.buildKnownRow.plainKeys == Tryz.prog.plainKeys) = true := by rw [V.f_plainKeys]; rfl
  have h18 : Rows.buildKnownRow.shortTexts.isNone = true := by kernel_rfl
  have h20 : (Rows.buildKnownRow.pinned == Rows.buildKnownRow.pinnedBy) = true := by kernel_rfl
  have h21 : (Rows.buildKnownRow.veiled == (Tryz.f6.params.toList ++ Rows.buildKnownSpec.plain.varTypes Tryz.prog ++ Tryz.f6.resultTypes.toList).any (Tryz.prog.veiledRec ·)) = true := by kernel_rfl
  have h22 : Rows.buildKnownRow.veiledFits Tryz.prog Tryz.f6.params.toList (Tryz.f6.params.toList ++ Rows.buildKnownSpec.plain.varTypes Tryz.prog ++ Tryz.f6.resultTypes.toList) = true := by kernel_rfl
  unfold joinedFacts
  rw [h1, V.f_laidOut, V.f_mapsRowed, h2, h3, h4, h5, h6, h7, V.f6_inPlace, V.f6_unfollowed, V.f6_recurses, V.f6_named, h8, h9, h10, h11, h12, h13, h14, h15, h16, h17, h18, V.f_stopsHeard, V.f_mayEnter, V.f6_lifted, V.f6_make, h20, h21, h22]
  simp only [Bool.true_and, Bool.and_true]
  exact rfl

theorem known_holds : Rows.BuildKnownSaid :=
  OpenClaim.holds_of_wide 6 Tryz.f6 rfl rfl rfl rfl rfl rfl rfl ⟨rfl, rfl, rfl, rfl, rfl⟩ rfl rfl rfl rfl rfl (by kernel_rfl) Tryz.func6 k_facts
    (of_decide_eq_true (by kernel_rfl)) (by unfold Func.isWrapper; first | (rw [if_pos (by decide +kernel)]; kernel_rfl) | (rw [if_neg (by decide +kernel)]; exact ⟨rfl, rfl⟩))
    (fun os started H enc _ => known_lifted os started H enc)
end Go.Proofs.YtebaekbmminjnaaGreatDoor
