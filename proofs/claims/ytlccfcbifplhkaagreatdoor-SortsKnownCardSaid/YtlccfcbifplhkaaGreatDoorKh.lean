/- The closed facts of the program that a tied card's builder asks: its main function's words, its looks. Conditions: none. -/
import Derived.Test.YtlccfcbifplhkaaGreatDoorChecked
import Derived.SevenTiedAt
namespace Go.Proofs.YtlccfcbifplhkaaGreatDoor.V
open Go
theorem f_mainIs : Tryz.prog.mainIs = some (true, "d36e18078f2e82c9474abdc7710a3d359389b7dbe37a7d3eaaee917c87e091f9".toList) := by kernel_rfl
theorem f_looks : true = Tryz.prog.looks [] := by kernel_rfl
end Go.Proofs.YtlccfcbifplhkaaGreatDoor.V
