/- A closed fact of chisellaw17.ItemDepth that a tied card's builder asks. Conditions: none. -/
import Derived.Test.YtiecjjcemnafaaaGreatDoorRows
import Derived.SevenTiedAt
namespace Go.Proofs.YtiecjjcemnafaaaGreatDoor.V
set_option linter.all false
open Go
theorem f6_wfByText : Rows.itemDepthRow.wfByText (OpenSpec.ofChange Rows.itemDepthSpec) = true := by kernel_rfl
end Go.Proofs.YtiecjjcemnafaaaGreatDoor.V
