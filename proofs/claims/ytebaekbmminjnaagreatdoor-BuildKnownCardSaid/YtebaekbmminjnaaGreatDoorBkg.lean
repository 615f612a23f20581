/- The closed facts of the function chisellaw28.BuildKnown that its row's builder asks, one by one. Conditions: none. -/
import Derived.Test.YtebaekbmminjnaaGreatDoorRows
import Derived.JoinedOf
namespace Go.Proofs.YtebaekbmminjnaaGreatDoor.V
open Go
theorem f6_inPlace : (Rows.buildKnownRow.inPlace == Tryz.prog.inPlace 6) = true := by kernel_rfl
theorem f6_unfollowed : (Rows.buildKnownRow.unfollowed == Tryz.prog.unfollowed 6) = true := by kernel_rfl
theorem f6_recurses : (Rows.buildKnownRow.recurses == Tryz.prog.recurses 6) = true := by kernel_rfl
theorem f6_named : (Rows.buildKnownRow.named == Tryz.prog.varsNamed 6) = true := by kernel_rfl
theorem f6_lifted : (Rows.buildKnownRow.lifted == Tryz.prog.liftsFinal) = true := by kernel_rfl
theorem f6_make : (Tryz.prog.make == some Rows.buildKnownRow.make) = true := by kernel_rfl
end Go.Proofs.YtebaekbmminjnaaGreatDoor.V
