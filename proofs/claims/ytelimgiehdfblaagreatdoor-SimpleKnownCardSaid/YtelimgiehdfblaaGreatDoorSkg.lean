/- The closed facts of the function chisellaw13.SimpleKnown that its row's builder asks, one by one. Conditions: none. -/
import Derived.Test.YtelimgiehdfblaaGreatDoorRows
import Derived.JoinedOf
namespace Go.Proofs.YtelimgiehdfblaaGreatDoor.V
open Go
theorem f6_inPlace : (Rows.simpleKnownRow.inPlace == Tryz.prog.inPlace 6) = true := by kernel_rfl
theorem f6_unfollowed : (Rows.simpleKnownRow.unfollowed == Tryz.prog.unfollowed 6) = true := by kernel_rfl
theorem f6_recurses : (Rows.simpleKnownRow.recurses == Tryz.prog.recurses 6) = true := by kernel_rfl
theorem f6_named : (Rows.simpleKnownRow.named == Tryz.prog.varsNamed 6) = true := by kernel_rfl
theorem f6_lifted : (Rows.simpleKnownRow.lifted == Tryz.prog.liftsFinal) = true := by kernel_rfl
theorem f6_make : (Tryz.prog.make == some Rows.simpleKnownRow.make) = true := by kernel_rfl
end Go.Proofs.YtelimgiehdfblaaGreatDoor.V
