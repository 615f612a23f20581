/- A closed fact of chisellaw28.BuildKnown that a tied card's builder asks. Conditions: none. -/
import Derived.Test.YtebaekbmminjnaaGreatDoorRows
import Derived.SevenTiedAt
namespace Go.Proofs.YtebaekbmminjnaaGreatDoor.V
open Go
theorem f6_wfByText : Rows.buildKnownRow.wfByText (OpenSpec.ofChange Rows.buildKnownSpec) = true := by kernel_rfl
end Go.Proofs.YtebaekbmminjnaaGreatDoor.V
