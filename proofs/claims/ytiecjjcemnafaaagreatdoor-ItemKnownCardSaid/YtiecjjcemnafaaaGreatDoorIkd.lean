/- The row of chisellaw17.ItemKnown: at every start at which the listed variables hold what the program lays in them, the call returns true and leaves what was there. Conditions: those of the given row. -/
import Derived.Test.YtiecjjcemnafaaaGreatDoorIkc
import Derived.Test.YtiecjjcemnafaaaGreatDoorKf
import Derived.Test.YtiecjjcemnafaaaGreatDoorIkg
namespace Go.Proofs.YtiecjjcemnafaaaGreatDoor
open Go.ChangeShapes Go.WideShapes Go.ChangeAt Go.RowKit

theorem k_facts : joinedFacts Tryz.prog 11 Tryz.f11 Rows.itemKnownSpec Rows.itemKnownRow = true := by
  have h1 : Rows.itemKnownRow.wf (OpenSpec.ofChange Rows.itemKnownSpec) = true := by kernel_rfl
  have h2 : Tryz.f11.params.all (Tryz.prog.readableRec ·) = true := by kernel_rfl
  have h3 : namedTie Tryz.prog Rows.itemKnownRow.named Rows.itemKnownSpec.vars = true := by kernel_rfl
  have h4 : (Rows.itemKnownRow.stops == []) = true := by kernel_rfl
  have h5 : (Tryz.prog.stops == []) = true := by rw [V.f_stops]; rfl
  have h6 : (Rows.itemKnownRow.knobs == []) = true := by kernel_rfl
  have h7 : (Tryz.prog.stopKnobs == []) = true := by rw [V.f_stopKnobs]; rfl
  have h8 : (Rows.itemKnownRow.maps == (Tryz.f11.params.toList ++ Rows.itemKnownSpec.plain.varTypes Tryz.prog).any (Tryz.prog.mapsRec ·)) = true := by kernel_rfl
  have h9 : (Rows.itemKnownRow.ifaces == (Tryz.f11.params.toList ++ Rows.itemKnownSpec.plain.varTypes Tryz.prog).any (Tryz.prog.ifacesRec ·)) = true := by kernel_rfl
  have h10 : (Rows.itemKnownRow.mapsOut == Tryz.prog.mapsAmong Tryz.f11.resultTypes.toList) = true := by kernel_rfl
  have h11 : (Rows.itemKnownRow.loops == (Tryz.f11.params.toList ++ Rows.itemKnownSpec.plain.varTypes Tryz.prog).any (Tryz.prog.loopsFrom ·)) = true := by kernel_rfl
  have h12 : (Rows.itemKnownRow.wideKeys == (Tryz.f11.params.toList ++ Rows.itemKnownSpec.plain.varTypes Tryz.prog ++ Tryz.f11.resultTypes.toList).any (Tryz.prog.wideKeysFrom ·)) = true := by kernel_rfl
  have h13 : Rows.itemKnownSpec.vars.all (Tryz.prog.varReadable ·) = true := by kernel_rfl
  have h14 : Tryz.f11.resultTypes.all (fun t => Tryz.prog.readableRec t && decide (t < Tryz.prog.types.size)) = true := by kernel_rfl
  have h15 : (Rows.itemKnownRow.ifacesOut == Tryz.f11.resultTypes.toList.any (Tryz.prog.ifacesRec ·)) = true := by kernel_rfl
  have h16 : (Rows.itemKnownRow.loopsOut == Tryz.f11.resultTypes.toList.any (Tryz.prog.loopsFrom ·)) = true := by kernel_rfl
  have h17 : (Rows.itemKnownRow.plainKeys == Tryz.prog.plainKeys) = true := by rw [V.f_plainKeys]; rfl
  have h18 : Rows.itemKnownRow.shortTexts.isNone = true := by kernel_rfl
  have h20 : (Rows.itemKnownRow.pinned == Rows.itemKnownRow.pinnedBy) = true := by kernel_rfl
  have h21 : (Rows.itemKnownRow.veiled == (Tryz.f11.params.toList ++ Rows.itemKnownSpec.plain.varTypes Tryz.prog ++ Tryz.f11.resultTypes.toList).any (Tryz.prog.veiledRec ·)) = true := by kernel_rfl
  have h22 : Rows.itemKnownRow.veiledFits Tryz.prog Tryz.f11.params.toList (Tryz.f11.params.toList ++ Rows.itemKnownSpec.plain.varTypes Tryz.prog ++ Tryz.f11.resultTypes.toList) = true := by kernel_rfl
  unfold joinedFacts
  rw [h1, V.f_laidOut, V.f_mapsRowed, h2, h3, h4, h5, h6, h7, V.f11_inPlace, V.f11_unfollowed, V.f11_recurses, V.f11_named, h8, h9, h10, h11, h12, h13, h14, h15, h16, h17, h18, V.f_stopsHeard, V.f_mayEnter, V.f11_lifted, V.f11_make, h20, h21, h22]
  simp only [Bool.true_and, Bool.and_true]
  exact rfl

theorem known_holds : Rows.ItemKnownSaid :=
  OpenClaim.holds_of_wide 11 Tryz.f11 rfl rfl rfl rfl rfl rfl rfl ⟨rfl, rfl, rfl, rfl, rfl⟩ rfl rfl rfl rfl rfl (by kernel_rfl) Tryz.func11 k_facts
    (of_decide_eq_true (by kernel_rfl)) (by unfold Func.isWrapper; first | (rw [if_pos (by decide +kernel)]; kernel_rfl) | (rw [if_neg (by decide +kernel)]; exact ⟨rfl, rfl⟩))
    (fun os started H enc _ => known_lifted os started H enc)
end Go.Proofs.YtiecjjcemnafaaaGreatDoor
