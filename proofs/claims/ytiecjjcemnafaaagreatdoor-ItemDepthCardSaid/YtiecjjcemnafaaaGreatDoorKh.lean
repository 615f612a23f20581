/- The closed facts of the program that a tied card's builder asks: its main function's words, its looks. Conditions: none. -/
import Derived.Test.YtiecjjcemnafaaaGreatDoorChecked
import Derived.SevenTiedAt
namespace Go.Proofs.YtiecjjcemnafaaaGreatDoor.V
set_option linter.all false
open Go
theorem f_mainIs : Tryz.prog.mainIs = some (true, "8f81b6e48c7d420f503710a5cf07723534af0752731324a3294d1d7362bc4435".toList) := by kernel_rfl
theorem f_looks : true = Tryz.prog.looks [] := by kernel_rfl
end Go.Proofs.YtiecjjcemnafaaaGreatDoor.V
