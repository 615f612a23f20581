/- The closed facts of the program that a tied card's builder asks: its main function's words, its looks. Conditions: none. -/
import Derived.Test.YtokiakmpebjdfaaGreatDoorChecked
import Derived.SevenTiedAt
namespace Go.Proofs.YtokiakmpebjdfaaGreatDoor.V
set_option linter.all false
open Go
theorem f_mainIs : Tryz.prog.mainIs = some (true, "9fd89e97b8740181a205894a72fbc57f6d67f875700d24a5c5dfeb29c2879d3c".toList) := by kernel_rfl
theorem f_looks : true = Tryz.prog.looks [] := by kernel_rfl
end Go.Proofs.YtokiakmpebjdfaaGreatDoor.V
