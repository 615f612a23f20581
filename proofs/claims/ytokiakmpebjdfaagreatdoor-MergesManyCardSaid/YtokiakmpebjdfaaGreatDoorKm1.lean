/- The kernel runs greater calls apart, on the small machine. Conditions: none. -/
import Derived.Test.YtokiakmpebjdfaaGreatDoorKs
namespace Go.Proofs.YtokiakmpebjdfaaGreatDoor.V
set_option linter.all false
open Go
set_option maxRecDepth 1000000
def M0 : List (FuncId × List Value × Value) := []
theorem M0_ok : ∀ q ∈ M0, PFact Tryz.prog Z 19 q.1 q.2.1 q.2.2 := fun q hq => by cases hq
theorem m1 : PFact Tryz.prog Z 19 5 [] (.bool true) := fact_of_run (d := 60) (fuel := 100000) (mt := mt1) shut ext_ok noNum Tryz.checked.mixed (memo_ok M0_ok) rfl rfl (by kernel_rfl)
def M1 : List (FuncId × List Value × Value) := (5, [], .bool true) :: M0
theorem M1_ok : ∀ q ∈ M1, PFact Tryz.prog Z 19 q.1 q.2.1 q.2.2 := List.forall_mem_cons.2 ⟨m1, M0_ok⟩
end Go.Proofs.YtokiakmpebjdfaaGreatDoor.V
