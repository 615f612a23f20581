/- The closed facts of chisellaw29.SortsKnown that a tied card's builder asks. Conditions: none. -/
import Derived.Test.YtlccfcbifplhkaaGreatDoorRows
import Derived.SevenTiedAt
namespace Go.Proofs.YtlccfcbifplhkaaGreatDoor.V
open Go
theorem f10_funcNamed : Tryz.prog.funcNamed "chisel/chisellaw29.SortsKnown" = some 10 := by kernel_rfl
theorem f10_wfByText : Rows.sortsKnownRow.wfByText (OpenSpec.ofChange Rows.sortsKnownSpec) = true := by kernel_rfl
theorem f10_goesBy : false = Rows.sortsKnownRow.goesBy Tryz.prog := by kernel_rfl
end Go.Proofs.YtlccfcbifplhkaaGreatDoor.V
