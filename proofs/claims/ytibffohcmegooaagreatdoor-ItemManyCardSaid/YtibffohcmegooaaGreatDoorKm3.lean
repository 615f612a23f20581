/- The kernel runs greater calls apart, on the small machine. Conditions: none. -/
import Derived.Test.YtibffohcmegooaaGreatDoorKm2
namespace Go.Proofs.YtibffohcmegooaaGreatDoor.V
set_option linter.all false
open Go
set_option maxRecDepth 1000000
theorem m7 : PFact Tryz.prog Z 19 9 [] (.bool true) := fact_of_run (d := 60) (fuel := 100000) (mt := mt1) shut ext_ok noNum Tryz.checked.mixed (memo_ok M6_ok) rfl rfl (by kernel_rfl)
def M7 : List (FuncId × List Value × Value) := (9, [], .bool true) :: M6
theorem M7_ok : ∀ q ∈ M7, PFact Tryz.prog Z 19 q.1 q.2.1 q.2.2 := List.forall_mem_cons.2 ⟨m7, M6_ok⟩
end Go.Proofs.YtibffohcmegooaaGreatDoor.V
