/- A closed fact of chisellaw31.MergesMany that a tied card's builder asks. Conditions: none. -/
import Derived.Test.YtokiakmpebjdfaaGreatDoorRows
import Derived.SevenTiedAt
namespace Go.Proofs.YtokiakmpebjdfaaGreatDoor.V
set_option linter.all false
open Go
theorem f3_wfByText : Rows.mergesManyRow.wfByText (OpenSpec.ofChange Rows.mergesManySpec) = true := by kernel_rfl
end Go.Proofs.YtokiakmpebjdfaaGreatDoor.V
