/- The kernel runs greater calls apart, on the small machine. Conditions: none. -/
import Derived.Test.YtelimgiehdfblaaGreatDoorKm9
namespace Go.Proofs.YtelimgiehdfblaaGreatDoor.V
set_option linter.all false
open Go
set_option maxRecDepth 1000000
theorem m65 : PFact Tryz.prog Z 19 6 [] (.bool true) := fact_of_runX (d := 60) (fuel := 100000) (mt := mt1) (pt := pt1) shut ext_ok noNum Tryz.checked.mixed (memo_ok M64_ok) rfl rfl (by kernel_rfl)
def M65 : List (FuncId × List Value × Value) := (6, [], .bool true) :: M64
theorem M65_ok : ∀ q ∈ M65, PFact Tryz.prog Z 19 q.1 q.2.1 q.2.2 := List.forall_mem_cons.2 ⟨m65, M64_ok⟩
end Go.Proofs.YtelimgiehdfblaaGreatDoor.V
