/- The closed facts of the function chisellaw31.MergesMany that its row's builder asks, one by one. Conditions: none. -/
import Derived.Test.YtokiakmpebjdfaaGreatDoorRows
import Derived.JoinedOf
namespace Go.Proofs.YtokiakmpebjdfaaGreatDoor.V
set_option linter.all false
open Go
theorem f3_inPlace : (Rows.mergesManyRow.inPlace == Tryz.prog.inPlace 3) = true := by kernel_rfl
theorem f3_unfollowed : (Rows.mergesManyRow.unfollowed == Tryz.prog.unfollowed 3) = true := by kernel_rfl
theorem f3_recurses : (Rows.mergesManyRow.recurses == Tryz.prog.recurses 3) = true := by kernel_rfl
theorem f3_named : (Rows.mergesManyRow.named == Tryz.prog.varsNamed 3) = true := by kernel_rfl
theorem f3_lifted : (Rows.mergesManyRow.lifted == Tryz.prog.liftsFinal) = true := by kernel_rfl
theorem f3_make : (Tryz.prog.make == some Rows.mergesManyRow.make) = true := by kernel_rfl
end Go.Proofs.YtokiakmpebjdfaaGreatDoor.V
