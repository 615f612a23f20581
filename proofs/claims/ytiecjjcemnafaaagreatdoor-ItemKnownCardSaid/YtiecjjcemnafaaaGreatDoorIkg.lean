/- The closed facts of the function chisellaw17.ItemKnown that its row's builder asks, one by one. Conditions: none. -/
import Derived.Test.YtiecjjcemnafaaaGreatDoorRows
import Derived.JoinedOf
namespace Go.Proofs.YtiecjjcemnafaaaGreatDoor.V
open Go
theorem f11_inPlace : (Rows.itemKnownRow.inPlace == Tryz.prog.inPlace 11) = true := by kernel_rfl
theorem f11_unfollowed : (Rows.itemKnownRow.unfollowed == Tryz.prog.unfollowed 11) = true := by kernel_rfl
theorem f11_recurses : (Rows.itemKnownRow.recurses == Tryz.prog.recurses 11) = true := by kernel_rfl
theorem f11_named : (Rows.itemKnownRow.named == Tryz.prog.varsNamed 11) = true := by kernel_rfl
theorem f11_lifted : (Rows.itemKnownRow.lifted == Tryz.prog.liftsFinal) = true := by kernel_rfl
theorem f11_make : (Tryz.prog.make == some Rows.itemKnownRow.make) = true := by kernel_rfl
end Go.Proofs.YtiecjjcemnafaaaGreatDoor.V
