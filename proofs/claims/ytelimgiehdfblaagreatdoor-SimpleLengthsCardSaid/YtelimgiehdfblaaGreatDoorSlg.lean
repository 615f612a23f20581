/- The closed facts of the function chisellaw13.SimpleLengths that its row's builder asks, one by one. Conditions: none. -/
import Derived.Test.YtelimgiehdfblaaGreatDoorRows
import Derived.JoinedOf
namespace Go.Proofs.YtelimgiehdfblaaGreatDoor.V
set_option linter.all false
open Go
theorem f5_inPlace : (Rows.simpleLengthsRow.inPlace == Tryz.prog.inPlace 5) = true := by kernel_rfl
theorem f5_unfollowed : (Rows.simpleLengthsRow.unfollowed == Tryz.prog.unfollowed 5) = true := by kernel_rfl
theorem f5_recurses : (Rows.simpleLengthsRow.recurses == Tryz.prog.recurses 5) = true := by kernel_rfl
theorem f5_named : (Rows.simpleLengthsRow.named == Tryz.prog.varsNamed 5) = true := by kernel_rfl
theorem f5_lifted : (Rows.simpleLengthsRow.lifted == Tryz.prog.liftsFinal) = true := by kernel_rfl
theorem f5_make : (Tryz.prog.make == some Rows.simpleLengthsRow.make) = true := by kernel_rfl
end Go.Proofs.YtelimgiehdfblaaGreatDoor.V
