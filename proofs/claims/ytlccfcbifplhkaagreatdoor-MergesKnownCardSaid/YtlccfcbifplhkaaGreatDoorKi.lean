/- The closed facts of chisellaw31.MergesKnown that a tied card's builder asks. Conditions: none. -/
import Derived.Test.YtlccfcbifplhkaaGreatDoorRows
import Derived.SevenTiedAt
namespace Go.Proofs.YtlccfcbifplhkaaGreatDoor.V
open Go
theorem f5_funcNamed : Tryz.prog.funcNamed "chisel/chisellaw31.MergesKnown" = some 5 := by kernel_rfl
theorem f5_wfByText : Rows.mergesKnownRow.wfByText (OpenSpec.ofChange Rows.mergesKnownSpec) = true := by kernel_rfl
theorem f5_goesBy : false = Rows.mergesKnownRow.goesBy Tryz.prog := by kernel_rfl
end Go.Proofs.YtlccfcbifplhkaaGreatDoor.V
