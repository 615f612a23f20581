/- The card of chisellaw13.SimpleLengths: at every start at which the listed variables hold what the program's text lays in them, the call returns true and leaves what was there. Conditions: those of the given row (its listed variables). -/
import Derived.Test.YtelimgiehdfblaaGreatDoorKy
import Derived.Test.YtelimgiehdfblaaGreatDoorRows
import Derived.ProofKit
import Derived.OpenShut
import Derived.LaidMore
import Derived.LaidSub
import Derived.Lay
import Derived.SevenTiedAt
import Derived.Stop.Joined
namespace Go.Proofs.YtelimgiehdfblaaGreatDoor
set_option linter.all false
open Go.ChangeShapes Go.WideShapes Go.ChangeAt Go.RowKit

theorem knownOwn : ownKnob Tryz.prog.godebug = none := by kernel_rfl

set_option maxRecDepth 100000 in
theorem known_lifted (os : Os) (started : os.Started) (H : Type) (enc : TypeId × Value → H) :
    ReturnsInHanded {} Tryz.checked os 5 .any (fun w args => (Rows.simpleLengthsSpec.pre enc Tryz.prog Tryz.f5 Rows.simpleLengthsRow.domain false w args ∧ laidMetH Tryz.prog Rows.simpleLengthsRow.laid w) ∧ sizedMet enc Tryz.prog Tryz.f5 (OpenSpec.ofChange Rows.simpleLengthsSpec) false w args)
      (Rows.simpleLengthsSpec.post enc Tryz.prog Tryz.f5 false true false false) := by
  refine returnsInHanded_of_change_and (C := Tryz.checked) (X := fun w _ => laidMetH Tryz.prog Rows.simpleLengthsRow.laid w) (fun _ _ _ hh h => h.of_heap hh) knownOwn started (by kernel_rfl) Tryz.func5
    (ChangeSpec.witness_shaped (enc := enc) (C := Tryz.checked) (os := os) (X := fun w _ => laidMetH Tryz.prog Rows.simpleLengthsRow.laid w) false (World.laidAll Tryz.prog os Rows.simpleLengthsRow.laid) #[.string ⟨#[]⟩, .int .i64 0, .int .i64 0] 8 (World.laidAll_os _ _ _)
      (World.shaped_of_ZipB (by kernel_rfl) (by kernel_rfl)) (by kernel_rfl) (by kernel_rfl) (by kernel_rfl)
      (by rw [MakeChecks.laidMetH_plain _ _ _ (by kernel_rfl)]; exact laidMet_laidAll _ (by kernel_rfl) (by kernel_rfl))) ?_
  intro W base args ds gs before hval hW _ _ hX _
  have hW' := hW
  obtain ⟨p, q, hA0, hV, rfl, _, _⟩ := hW
  have hA : DataW.TrodAll enc Tryz.prog W 0 (fun _ => true) true Tryz.f5.params.toList args.toList ds p := hA0
  rw [Tryz.params5] at hA
  obtain ⟨v1, v2, v3, d1, d2, d3, p1, p2, p3, rfl, rfl, rfl, t1, t2, t3⟩ := trodAll_three hA
  obtain ⟨s1, rfl, rfl, rfl, w1⟩ := Go.ChangeMaps.open_string Tryz.underlying9 (hval 0 9 v1 (by rw [Tryz.params5]; rfl) rfl) t1
  obtain ⟨z2, rfl, rfl, rfl, w2⟩ := open_int Tryz.underlying3 (hval 1 3 v2 (by rw [Tryz.params5]; rfl) rfl) t2
  obtain ⟨z3, rfl, rfl, rfl, w3⟩ := open_int Tryz.underlying3 (hval 2 3 v3 (by rw [Tryz.params5]; rfl) rfl) t3
  obtain ⟨rfl, rfl⟩ := trodVars_none hV
  have hX' := laidMetH.filter V.keepVar hX
  rw [MakeChecks.laidMetH_plain _ _ _ (by kernel_rfl)] at hX'
  obtain ⟨ps, hlaid, _, _⟩ := hX'
  refine (V.fact_laid V.shut V.hY (l := V.laidL) hlaid (V.law_fact (s := s1) (sh := z2) (lg := z3))).mono fun e W' ⟨he, hk⟩ => ?_
  subst he
  exact ⟨_, rfl, V.post_of_kept (pa := []) (pv := []) hW' (fun _ _ _ => trodAll_mk1 (shut_bool Tryz.underlying4 _)) (fun _ _ => trodAll_mk3 (Go.ChangeMaps.shut_string Tryz.underlying9 w1) (shut_int Tryz.underlying3 w2) (shut_int Tryz.underlying3 w3)) (fun _ _ => rfl) hk⟩

end Go.Proofs.YtelimgiehdfblaaGreatDoor
