/- The kernel runs greater calls apart, on the small machine. Conditions: none. -/
import Derived.Test.YtiecjjcemnafaaaGreatDoorKm5
namespace Go.Proofs.YtiecjjcemnafaaaGreatDoor.V
open Go
set_option maxRecDepth 1000000
theorem m78 : PFact Tryz.prog Z 19 11 [] (.bool true) := fact_of_run (d := 60) (fuel := 100000) (mt := mt1) shut ext_ok noNum Tryz.checked.mixed (memo_ok M77_ok) rfl rfl (by kernel_rfl)
def M78 : List (FuncId × List Value × Value) := (11, [], .bool true) :: M77
theorem M78_ok : ∀ q ∈ M78, PFact Tryz.prog Z 19 q.1 q.2.1 q.2.2 := List.forall_mem_cons.2 ⟨m78, M77_ok⟩
end Go.Proofs.YtiecjjcemnafaaaGreatDoor.V
