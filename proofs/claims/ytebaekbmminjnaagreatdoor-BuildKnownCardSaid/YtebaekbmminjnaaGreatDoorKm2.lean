/- The kernel runs greater calls apart, on the small machine. Conditions: none. -/
import Derived.Test.YtebaekbmminjnaaGreatDoorKm1
namespace Go.Proofs.YtebaekbmminjnaaGreatDoor.V
set_option linter.all false
open Go
set_option maxRecDepth 1000000
theorem m2 : PFact Tryz.prog Z 19 6 [] (.bool true) := fact_of_run (d := 60) (fuel := 100000) (mt := mt1) shut ext_ok noNum Tryz.checked.mixed (memo_ok M1_ok) rfl rfl (by kernel_rfl)
def M2 : List (FuncId × List Value × Value) := (6, [], .bool true) :: M1
theorem M2_ok : ∀ q ∈ M2, PFact Tryz.prog Z 19 q.1 q.2.1 q.2.2 := List.forall_mem_cons.2 ⟨m2, M1_ok⟩
end Go.Proofs.YtebaekbmminjnaaGreatDoor.V
