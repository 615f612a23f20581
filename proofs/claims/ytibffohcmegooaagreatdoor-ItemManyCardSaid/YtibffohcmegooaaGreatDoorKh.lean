/- The closed facts of the program that a tied card's builder asks: its main function's words, its looks. Conditions: none. -/
import Derived.Test.YtibffohcmegooaaGreatDoorChecked
import Derived.SevenTiedAt
namespace Go.Proofs.YtibffohcmegooaaGreatDoor.V
set_option linter.all false
open Go
theorem f_mainIs : Tryz.prog.mainIs = some (true, "47d2f57453ff42ea115f58a27749398751aa90e3debbd5af54d4c9764046727e".toList) := by kernel_rfl
theorem f_looks : true = Tryz.prog.looks [] := by kernel_rfl
end Go.Proofs.YtibffohcmegooaaGreatDoor.V
