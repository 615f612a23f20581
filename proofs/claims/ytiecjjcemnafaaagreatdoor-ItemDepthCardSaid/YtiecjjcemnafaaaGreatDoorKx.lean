/- What is known beforehand of atoms and names. Conditions: none. -/
import Derived.Test.YtiecjjcemnafaaaGreatDoorKm5
import Derived.Test.YtiecjjcemnafaaaGreatDoorHa
namespace Go.Proofs.YtiecjjcemnafaaaGreatDoor.V
set_option linter.all false
open Go
set_option maxRecDepth 1000000
theorem n1 : PFact Tryz.prog Z 19 22 [.int .i64 7] (.agg (itA 3 ⟨#[55]⟩)) := fact_of (deepB_ok (fuel := 100000) ext_ok noNum Tryz.checked.mixed (memo_ok M77_ok) mt1 60) (startL_ok shut) rfl rfl (by kernel_rfl)
theorem n2 : PFact Tryz.prog Z 19 55 [atm 3 ⟨#[55]⟩] (.bool true) := fact_of_run (d := 60) (fuel := 100000) (mt := mt1) shut ext_ok noNum Tryz.checked.mixed (memo_ok M77_ok) rfl rfl (by kernel_rfl)
theorem n3 : PFact Tryz.prog Z 19 55 [atm 1 ⟨#[107]⟩] (.bool true) := fact_of_run (d := 60) (fuel := 100000) (mt := mt1) shut ext_ok noNum Tryz.checked.mixed (memo_ok M77_ok) rfl rfl (by kernel_rfl)
theorem n4 : PFact Tryz.prog Z 19 87 [.string ⟨#[118]⟩] (.bool true) := fact_of_run (d := 60) (fuel := 100000) (mt := mt1) shut ext_ok noNum Tryz.checked.mixed (memo_ok M77_ok) rfl rfl (by kernel_rfl)
theorem n5 : PFact Tryz.prog Z 19 108 [.string ⟨#[101, 113]⟩, atm 3 ⟨#[55]⟩, atm 3 ⟨#[55]⟩] (.tuple #[.bool true, .int .i64 0]) := fact_of_run (d := 60) (fuel := 100000) (mt := mt1) shut ext_ok noNum Tryz.checked.mixed (memo_ok M77_ok) rfl rfl (by kernel_rfl)
theorem n6 : PFact Tryz.prog Z 19 113 [atm 1 ⟨#[107]⟩, atm 1 ⟨#[107]⟩] (.bool true) := fact_of_run (d := 60) (fuel := 100000) (mt := mt1) shut ext_ok noNum Tryz.checked.mixed (memo_ok M77_ok) rfl rfl (by kernel_rfl)
end Go.Proofs.YtiecjjcemnafaaaGreatDoor.V
