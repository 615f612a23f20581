/- The closed facts of the function chisellaw31.MergesKnown that its row's builder asks, one by one. Conditions: none. -/
import Derived.Test.YtlccfcbifplhkaaGreatDoorRows
import Derived.JoinedOf
namespace Go.Proofs.YtlccfcbifplhkaaGreatDoor.V
open Go
theorem f5_inPlace : (Rows.mergesKnownRow.inPlace == Tryz.prog.inPlace 5) = true := by kernel_rfl
theorem f5_unfollowed : (Rows.mergesKnownRow.unfollowed == Tryz.prog.unfollowed 5) = true := by kernel_rfl
theorem f5_recurses : (Rows.mergesKnownRow.recurses == Tryz.prog.recurses 5) = true := by kernel_rfl
theorem f5_named : (Rows.mergesKnownRow.named == Tryz.prog.varsNamed 5) = true := by kernel_rfl
theorem f5_lifted : (Rows.mergesKnownRow.lifted == Tryz.prog.liftsFinal) = true := by kernel_rfl
theorem f5_make : (Tryz.prog.make == some Rows.mergesKnownRow.make) = true := by kernel_rfl
end Go.Proofs.YtlccfcbifplhkaaGreatDoor.V
