/- The closed facts of the function chisellaw17.ItemMany that its row's builder asks, one by one. Conditions: none. -/
import Derived.Test.YtibffohcmegooaaGreatDoorRows
import Derived.JoinedOf
namespace Go.Proofs.YtibffohcmegooaaGreatDoor.V
set_option linter.all false
open Go
theorem f3_inPlace : (Rows.itemManyRow.inPlace == Tryz.prog.inPlace 3) = true := by kernel_rfl
theorem f3_unfollowed : (Rows.itemManyRow.unfollowed == Tryz.prog.unfollowed 3) = true := by kernel_rfl
theorem f3_recurses : (Rows.itemManyRow.recurses == Tryz.prog.recurses 3) = true := by kernel_rfl
theorem f3_named : (Rows.itemManyRow.named == Tryz.prog.varsNamed 3) = true := by kernel_rfl
theorem f3_lifted : (Rows.itemManyRow.lifted == Tryz.prog.liftsFinal) = true := by kernel_rfl
theorem f3_make : (Tryz.prog.make == some Rows.itemManyRow.make) = true := by kernel_rfl
end Go.Proofs.YtibffohcmegooaaGreatDoor.V
