/- The closed facts of the program that a tied card's builder asks: its main function's words, its looks. Conditions: none. -/
import Derived.Test.YtelimgiehdfblaaGreatDoorChecked
import Derived.SevenTiedAt
namespace Go.Proofs.YtelimgiehdfblaaGreatDoor.V
set_option linter.all false
open Go
theorem f_mainIs : Tryz.prog.mainIs = some (true, "a302b7a7a552fd1dca0525ac27b9abec41af114b2414d22bf15b78e8b92f5f9d".toList) := by kernel_rfl
theorem f_looks : true = Tryz.prog.looks [] := by kernel_rfl
end Go.Proofs.YtelimgiehdfblaaGreatDoor.V
