/- A closed fact of chisellaw13.SimpleLengths that a tied card's builder asks. Conditions: none. -/
import Derived.Test.YtelimgiehdfblaaGreatDoorRows
import Derived.SevenTiedAt
namespace Go.Proofs.YtelimgiehdfblaaGreatDoor.V
set_option linter.all false
open Go
theorem f5_wfByText : Rows.simpleLengthsRow.wfByText (OpenSpec.ofChange Rows.simpleLengthsSpec) = true := by kernel_rfl
end Go.Proofs.YtelimgiehdfblaaGreatDoor.V
