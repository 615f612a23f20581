/- What is known beforehand of atoms. Conditions: none. -/
import Derived.Test.YtibffohcmegooaaGreatDoorKm3
import Derived.Test.YtibffohcmegooaaGreatDoorGa
namespace Go.Proofs.YtibffohcmegooaaGreatDoor.V
set_option linter.all false
open Go
set_option maxRecDepth 1000000
theorem n1 : PFact Tryz.prog Z 19 5 [.int .i64 1] (.agg ⟨itA 3 ⟨#[49]⟩⟩) := fact_of (deepB_ok (fuel := 100000) ext_ok noNum Tryz.checked.mixed (memo_ok M7_ok) mt1 60) (startL_ok shut) rfl rfl (by kernel_rfl)
theorem n2 : PFact Tryz.prog Z 19 5 [.int .i64 2] (.agg ⟨itA 3 ⟨#[50]⟩⟩) := fact_of (deepB_ok (fuel := 100000) ext_ok noNum Tryz.checked.mixed (memo_ok M7_ok) mt1 60) (startL_ok shut) rfl rfl (by kernel_rfl)
theorem n3 : PFact Tryz.prog Z 19 10 [.string ⟨#[120]⟩] (.agg ⟨itA 1 ⟨#[120]⟩⟩) := fact_of (deepB_ok (fuel := 100000) ext_ok noNum Tryz.checked.mixed (memo_ok M7_ok) mt1 60) (startL_ok shut) rfl rfl (by kernel_rfl)
theorem n4 : PFact Tryz.prog Z 19 32 [atm 3 ⟨#[49]⟩] (.bool true) := fact_of_run (d := 60) (fuel := 100000) (mt := mt1) shut ext_ok noNum Tryz.checked.mixed (memo_ok M7_ok) rfl rfl (by kernel_rfl)
theorem n5 : PFact Tryz.prog Z 19 32 [atm 3 ⟨#[50]⟩] (.bool true) := fact_of_run (d := 60) (fuel := 100000) (mt := mt1) shut ext_ok noNum Tryz.checked.mixed (memo_ok M7_ok) rfl rfl (by kernel_rfl)
theorem n6 : PFact Tryz.prog Z 19 32 [atm 1 ⟨#[120]⟩] (.bool true) := fact_of_run (d := 60) (fuel := 100000) (mt := mt1) shut ext_ok noNum Tryz.checked.mixed (memo_ok M7_ok) rfl rfl (by kernel_rfl)
end Go.Proofs.YtibffohcmegooaaGreatDoor.V
