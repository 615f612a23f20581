/- The closed facts of the function chisellaw17.ItemDepth that its row's builder asks, one by one. Conditions: none. -/
import Derived.Test.YtiecjjcemnafaaaGreatDoorRows
import Derived.JoinedOf
namespace Go.Proofs.YtiecjjcemnafaaaGreatDoor.V
set_option linter.all false
open Go
theorem f6_inPlace : (Rows.itemDepthRow.inPlace == Tryz.prog.inPlace 6) = true := by kernel_rfl
theorem f6_unfollowed : (Rows.itemDepthRow.unfollowed == Tryz.prog.unfollowed 6) = true := by kernel_rfl
theorem f6_recurses : (Rows.itemDepthRow.recurses == Tryz.prog.recurses 6) = true := by kernel_rfl
theorem f6_named : (Rows.itemDepthRow.named == Tryz.prog.varsNamed 6) = true := by kernel_rfl
theorem f6_lifted : (Rows.itemDepthRow.lifted == Tryz.prog.liftsFinal) = true := by kernel_rfl
theorem f6_make : (Tryz.prog.make == some Rows.itemDepthRow.make) = true := by kernel_rfl
end Go.Proofs.YtiecjjcemnafaaaGreatDoor.V
