/- The kernel runs greater calls apart, on the small machine. Conditions: none. -/
import Derived.Test.YtelimgiehdfblaaGreatDoorKm8
namespace Go.Proofs.YtelimgiehdfblaaGreatDoor.V
set_option linter.all false
open Go
set_option maxRecDepth 1000000
theorem m64 : PFact Tryz.prog Z 19 10 [] (.bool true) := fact_of_runX (d := 60) (fuel := 100000) (mt := mt1) (pt := pt1) shut ext_ok noNum Tryz.checked.mixed (memo_ok M63_ok) rfl rfl (by kernel_rfl)
def M64 : List (FuncId × List Value × Value) := (10, [], .bool true) :: M63
theorem M64_ok : ∀ q ∈ M64, PFact Tryz.prog Z 19 q.1 q.2.1 q.2.2 := List.forall_mem_cons.2 ⟨m64, M63_ok⟩
end Go.Proofs.YtelimgiehdfblaaGreatDoor.V
