/- A closed fact of chisellaw17.ItemKnown that a tied card's builder asks. Conditions: none. -/
import Derived.Test.YtiecjjcemnafaaaGreatDoorRows
import Derived.SevenTiedAt
namespace Go.Proofs.YtiecjjcemnafaaaGreatDoor.V
open Go
theorem f11_wfByText : Rows.itemKnownRow.wfByText (OpenSpec.ofChange Rows.itemKnownSpec) = true := by kernel_rfl
end Go.Proofs.YtiecjjcemnafaaaGreatDoor.V
