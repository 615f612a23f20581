/- The closed facts of the function chisellaw29.SortsKnown that its row's builder asks, one by one. Conditions: none. -/
import Derived.Test.YtlccfcbifplhkaaGreatDoorRows
import Derived.JoinedOf
namespace Go.Proofs.YtlccfcbifplhkaaGreatDoor.V
open Go
theorem f10_inPlace : (Rows.sortsKnownRow.inPlace == Tryz.prog.inPlace 10) = true := by kernel_rfl
theorem f10_unfollowed : (Rows.sortsKnownRow.unfollowed == Tryz.prog.unfollowed 10) = true := by kernel_rfl
theorem f10_recurses : (Rows.sortsKnownRow.recurses == Tryz.prog.recurses 10) = true := by kernel_rfl
theorem f10_named : (Rows.sortsKnownRow.named == Tryz.prog.varsNamed 10) = true := by kernel_rfl
theorem f10_lifted : (Rows.sortsKnownRow.lifted == Tryz.prog.liftsFinal) = true := by kernel_rfl
theorem f10_make : (Tryz.prog.make == some Rows.sortsKnownRow.make) = true := by kernel_rfl
end Go.Proofs.YtlccfcbifplhkaaGreatDoor.V
