/- The card of chisellaw17.ItemMany: at every start at which the listed variables hold what the program's text lays in them, the call returns true and leaves what was there. Conditions: those of the given row (its listed variables). -/
import Derived.Test.YtibffohcmegooaaGreatDoorKy
import Derived.Test.YtibffohcmegooaaGreatDoorRows
import Derived.ProofKit
import Derived.OpenShut
import Derived.LaidMore
import Derived.LaidSub
import Derived.Lay
import Derived.SevenTiedAt
import Derived.Stop.Joined
namespace Go.Proofs.YtibffohcmegooaaGreatDoor
set_option linter.all false
open Go.ChangeShapes Go.WideShapes Go.ChangeAt Go.RowKit

theorem knownOwn : ownKnob Tryz.prog.godebug = none := by kernel_rfl

set_option maxRecDepth 100000 in
theorem known_lifted (os : Os) (started : os.Started) (H : Type) (enc : TypeId × Value → H) :
    ReturnsInHanded {} Tryz.checked os 3 .any (fun w args => (Rows.itemManySpec.pre enc Tryz.prog Tryz.f3 Rows.itemManyRow.domain false w args ∧ laidMetH Tryz.prog Rows.itemManyRow.laid w) ∧ sizedMet enc Tryz.prog Tryz.f3 (OpenSpec.ofChange Rows.itemManySpec) false w args)
      (Rows.itemManySpec.post enc Tryz.prog Tryz.f3 false true false false) := by
  refine returnsInHanded_of_change_and (C := Tryz.checked) (X := fun w _ => laidMetH Tryz.prog Rows.itemManyRow.laid w) (fun _ _ _ hh h => h.of_heap hh) knownOwn started (by kernel_rfl) Tryz.func3
    (ChangeSpec.witness_shaped (enc := enc) (C := Tryz.checked) (os := os) (X := fun w _ => laidMetH Tryz.prog Rows.itemManyRow.laid w) false (World.laidAll Tryz.prog os Rows.itemManyRow.laid) #[.int .u8 0, .bool false] 8 (World.laidAll_os _ _ _)
      (World.shaped_of_ZipB (by kernel_rfl) (by kernel_rfl)) (by kernel_rfl) (by kernel_rfl) (by kernel_rfl)
      (by rw [MakeChecks.laidMetH_plain _ _ _ (by kernel_rfl)]; exact laidMet_laidAll _ (by kernel_rfl) (by kernel_rfl))) ?_
  intro W base args ds gs before hval hW _ _ hX _
  have hW' := hW
  obtain ⟨p, q, hA0, hV, rfl, _, _⟩ := hW
  have hA : DataW.TrodAll enc Tryz.prog W 0 (fun _ => true) true Tryz.f3.params.toList args.toList ds p := hA0
  rw [Tryz.params3] at hA
  obtain ⟨v1, v2, d1, d2, p1, p2, rfl, rfl, rfl, t1, t2⟩ := trodAll_two hA
  obtain ⟨z1, rfl, rfl, rfl, w1⟩ := open_int Tryz.underlying5 (hval 0 5 v1 (by rw [Tryz.params3]; rfl) rfl) t1
  obtain ⟨z2, rfl, rfl, rfl⟩ := open_bool Tryz.underlying4 (hval 1 4 v2 (by rw [Tryz.params3]; rfl) rfl) t2
  have b1 := bounds_u8 w1
  obtain ⟨n1, rfl⟩ := Int.eq_ofNat_of_zero_le b1.1
  obtain ⟨rfl, rfl⟩ := trodVars_none hV
  have hX' := laidMetH.filter V.keepVar hX
  rw [MakeChecks.laidMetH_plain _ _ _ (by kernel_rfl)] at hX'
  obtain ⟨ps, hlaid, _, _⟩ := hX'
  refine (V.fact_laid V.shut V.hY (l := V.laidL) hlaid (V.law_fact (nn := n1) (ar := z2) (by omega))).mono fun e W' ⟨he, hk⟩ => ?_
  subst he
  exact ⟨_, rfl, V.post_of_kept (pa := []) (pv := []) hW' (fun _ _ _ => trodAll_mk1 (shut_bool Tryz.underlying4 _)) (fun _ _ => trodAll_mk2 (shut_int Tryz.underlying5 w1) (shut_bool Tryz.underlying4 _)) (fun _ _ => rfl) hk⟩

end Go.Proofs.YtibffohcmegooaaGreatDoor
