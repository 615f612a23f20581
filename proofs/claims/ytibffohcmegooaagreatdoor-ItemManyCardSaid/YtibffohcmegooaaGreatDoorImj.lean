/- A closed fact of chisellaw17.ItemMany that a tied card's builder asks. Conditions: none. -/
import Derived.Test.YtibffohcmegooaaGreatDoorRows
import Derived.SevenTiedAt
namespace Go.Proofs.YtibffohcmegooaaGreatDoor.V
set_option linter.all false
open Go
theorem f3_wfByText : Rows.itemManyRow.wfByText (OpenSpec.ofChange Rows.itemManySpec) = true := by kernel_rfl
end Go.Proofs.YtibffohcmegooaaGreatDoor.V
