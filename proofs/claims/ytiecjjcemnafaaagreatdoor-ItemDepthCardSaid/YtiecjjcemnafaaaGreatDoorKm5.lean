/- The kernel runs greater calls apart, on the small machine. Conditions: none. -/
import Derived.Test.YtiecjjcemnafaaaGreatDoorKm4
namespace Go.Proofs.YtiecjjcemnafaaaGreatDoor.V
set_option linter.all false
open Go
set_option maxRecDepth 1000000
theorem m77 : PFact Tryz.prog Z 19 13 [] (.bool true) := fact_of_run (d := 60) (fuel := 100000) (mt := mt1) shut ext_ok noNum Tryz.checked.mixed (memo_ok M76_ok) rfl rfl (by kernel_rfl)
def M77 : List (FuncId × List Value × Value) := (13, [], .bool true) :: M76
theorem M77_ok : ∀ q ∈ M77, PFact Tryz.prog Z 19 q.1 q.2.1 q.2.2 := List.forall_mem_cons.2 ⟨m77, M76_ok⟩
end Go.Proofs.YtiecjjcemnafaaaGreatDoor.V
