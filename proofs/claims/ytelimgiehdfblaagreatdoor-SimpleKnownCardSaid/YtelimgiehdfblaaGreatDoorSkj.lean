/- A closed fact of chisellaw13.SimpleKnown that a tied card's builder asks. Conditions: none. -/
import Derived.Test.YtelimgiehdfblaaGreatDoorRows
import Derived.SevenTiedAt
namespace Go.Proofs.YtelimgiehdfblaaGreatDoor.V
open Go
theorem f6_wfByText : Rows.simpleKnownRow.wfByText (OpenSpec.ofChange Rows.simpleKnownSpec) = true := by kernel_rfl
end Go.Proofs.YtelimgiehdfblaaGreatDoor.V
