/- The closed facts of the program that a tied card's builder asks: its main function's words, its looks. Conditions: none. -/
import Derived.Test.YtebaekbmminjnaaGreatDoorChecked
import Derived.SevenTiedAt
namespace Go.Proofs.YtebaekbmminjnaaGreatDoor.V
set_option linter.all false
open Go
theorem f_mainIs : Tryz.prog.mainIs = some (true, "297b965b575ddd2c04602a68a32c2d0180454387b94b5f59b4ba77ed9fca47f9".toList) := by kernel_rfl
theorem f_looks : true = Tryz.prog.looks [] := by kernel_rfl
end Go.Proofs.YtebaekbmminjnaaGreatDoor.V
