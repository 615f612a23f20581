/- The row of chisellaw29.SortsKnown: at every start at which the listed variables hold what the program lays in them, the call returns true and leaves what was there. Conditions: those of the given row. -/
import Derived.Test.YtlccfcbifplhkaaGreatDoorSkc
import Derived.Test.YtlccfcbifplhkaaGreatDoorKf
import Derived.Test.YtlccfcbifplhkaaGreatDoorSkg
namespace Go.Proofs.YtlccfcbifplhkaaGreatDoor
open Go.ChangeShapes Go.WideShapes Go.ChangeAt Go.RowKit

theorem k_facts : joinedFacts Tryz.prog 10 Tryz.f10 Rows.sortsKnownSpec Rows.sortsKnownRow = true := by
  have h1 : Rows.sortsKnownRow.wf (OpenSpec.ofChange Rows.sortsKnownSpec) = true := by kernel_rfl
  have h2 : Tryz.f10.params.all (Tryz.prog.readableRec ·) = true := by kernel_rfl
  have h3 : namedTie Tryz.prog Rows.sortsKnownRow.named Rows.sortsKnownSpec.vars = true := by kernel_rfl
  have h4 : (Rows.sortsKnownRow.stops == []) = true := by kernel_rfl
  have h5 : (Tryz.prog.stops == []) = true := by rw [V.f_stops]; rfl
  have h6 : (Rows.sortsKnownRow.knobs == []) = true := by kernel_rfl
  have h7 : (Tryz.prog.stopKnobs == []) = true := by rw [V.f_stopKnobs]; rfl
  have h8 : (Rows.sortsKnownRow.maps == (Tryz.f10.params.toList ++ Rows.sortsKnownSpec.plain.varTypes Tryz.prog).any (Tryz.prog.mapsRec ·)) = true := by kernel_rfl
  have h9 : (Rows.sortsKnownRow.ifaces == (Tryz.f10.params.toList ++ Rows.sortsKnownSpec.plain.varTypes Tryz.prog).any (Tryz.prog.ifacesRec ·)) = true := by kernel_rfl
  have h10 : (Rows.sortsKnownRow.mapsOut == Tryz.prog.mapsAmong Tryz.f10.resultTypes.toList) = true := by kernel_rfl
  have h11 : (Rows.sortsKnownRow.loops == (Tryz.f10.params.toList ++ Rows.sortsKnownSpec.plain.varTypes Tryz.prog).any (Tryz.prog.loopsFrom ·)) = true := by kernel_rfl
  have h12 : (Rows.sortsKnownRow.wideKeys == (Tryz.f10.params.toList ++ Rows.sortsKnownSpec.plain.varTypes Tryz.prog ++ Tryz.f10.resultTypes.toList).any (Tryz.prog.wideKeysFrom ·)) = true := by kernel_rfl
  have h13 : Rows.sortsKnownSpec.vars.all (Tryz.prog.varReadable ·) = true := by kernel_rfl
  have h14 : Tryz.f10.resultTypes.all (fun t => Tryz.prog.readableRec t && decide (t < Tryz.prog.types.size)) = true := by kernel_rfl
  have h15 : (Rows.sortsKnownRow.ifacesOut == Tryz.f10.resultTypes.toList.any (Tryz.prog.ifacesRec ·)) = true := by kernel_rfl
  have h16 : (Rows.sortsKnownRow.loopsOut == Tryz.f10.resultTypes.toList.any (Tryz.prog.loopsFrom ·)) = true := by kernel_rfl
  have h17 : (Rows.sortsKnownRow.plainKeys == Tryz.prog.plainKeys) = true := by rw [V.f_plainKeys]; rfl
  have h18 : Rows.sortsKnownRow.shortTexts.isNone = true := by kernel_rfl
  have h20 : (Rows.sortsKnownRow.pinned == Rows.sortsKnownRow.pinnedBy) = true := by kernel_rfl
  have h21 : (Rows.sortsKnownRow.veiled == (Tryz.f10.params.toList ++ Rows.sortsKnownSpec.plain.varTypes Tryz.prog ++ Tryz.f10.resultTypes.toList).any (Tryz.prog.veiledRec ·)) = true := by kernel_rfl
  have h22 : Rows.sortsKnownRow.veiledFits Tryz.prog Tryz.f10.params.toList (Tryz.f10.params.toList ++ Rows.sortsKnownSpec.plain.varTypes Tryz.prog ++ Tryz.f10.resultTypes.toList) = true := by kernel_rfl
  unfold joinedFacts
  rw [h1, V.f_laidOut, V.f_mapsRowed, h2, h3, h4, h5, h6, h7, V.f10_inPlace, V.f10_unfollowed, V.f10_recurses, V.f10_named, h8, h9, h10, h11, h12, h13, h14, h15, h16, h17, h18, V.f_stopsHeard, V.f_mayEnter, V.f10_lifted, V.f10_make, h20, h21, h22]
  simp only [Bool.true_and, Bool.and_true]
  exact rfl

theorem known_holds : Rows.SortsKnownSaid :=
  OpenClaim.holds_of_wide 10 Tryz.f10 rfl rfl rfl rfl rfl rfl rfl ⟨rfl, rfl, rfl, rfl, rfl⟩ rfl rfl rfl rfl rfl (by kernel_rfl) Tryz.func10 k_facts
    (of_decide_eq_true (by kernel_rfl)) (by unfold Func.isWrapper; first | (rw [if_pos (by decide +kernel)]; kernel_rfl) | (rw [if_neg (by decide +kernel)]; exact ⟨rfl, rfl⟩))
    (fun os started H enc _ => known_lifted os started H enc)
end Go.Proofs.YtlccfcbifplhkaaGreatDoor
