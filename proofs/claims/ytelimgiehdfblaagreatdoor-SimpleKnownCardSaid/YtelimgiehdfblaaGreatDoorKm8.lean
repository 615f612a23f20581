/- The kernel runs greater calls apart, on the small machine. Conditions: none. -/
import Derived.Test.YtelimgiehdfblaaGreatDoorKm7
namespace Go.Proofs.YtelimgiehdfblaaGreatDoor.V
set_option linter.all false
open Go
set_option maxRecDepth 1000000
theorem m58 : PFact Tryz.prog Z 19 14 [.string ⟨#[32, 49, 32, 32, 50]⟩] (.string ⟨#[49, 32, 50]⟩) := fact_of_run (d := 60) (fuel := 100000) (mt := mt1) shut ext_ok noNum Tryz.checked.mixed (memo_ok M57_ok) rfl rfl (by kernel_rfl)
def M58 : List (FuncId × List Value × Value) := (14, [.string ⟨#[32, 49, 32, 32, 50]⟩], .string ⟨#[49, 32, 50]⟩) :: M57
theorem M58_ok : ∀ q ∈ M58, PFact Tryz.prog Z 19 q.1 q.2.1 q.2.2 := List.forall_mem_cons.2 ⟨m58, M57_ok⟩
theorem m59 : PFact Tryz.prog Z 19 127 [.string ⟨#[49]⟩] (.tuple #[.string ⟨#[49]⟩, .int .i64 (0)]) := fact_of_run (d := 60) (fuel := 100000) (mt := mt1) shut ext_ok noNum Tryz.checked.mixed (memo_ok M58_ok) rfl rfl (by kernel_rfl)
def M59 : List (FuncId × List Value × Value) := (127, [.string ⟨#[49]⟩], .tuple #[.string ⟨#[49]⟩, .int .i64 (0)]) :: M58
theorem M59_ok : ∀ q ∈ M59, PFact Tryz.prog Z 19 q.1 q.2.1 q.2.2 := List.forall_mem_cons.2 ⟨m59, M58_ok⟩
theorem m60 : PFact Tryz.prog Z 19 49 [.agg #[.int .i64 (1), .string ⟨#[49]⟩], .int .i64 (3)] (.tuple #[.agg #[.int .i64 (3), .string ⟨#[49]⟩], .int .i64 (0)]) := fact_of_run (d := 60) (fuel := 100000) (mt := mt1) shut ext_ok noNum Tryz.checked.mixed (memo_ok M59_ok) rfl rfl (by kernel_rfl)
def M60 : List (FuncId × List Value × Value) := (49, [.agg #[.int .i64 (1), .string ⟨#[49]⟩], .int .i64 (3)], .tuple #[.agg #[.int .i64 (3), .string ⟨#[49]⟩], .int .i64 (0)]) :: M59
theorem M60_ok : ∀ q ∈ M60, PFact Tryz.prog Z 19 q.1 q.2.1 q.2.2 := List.forall_mem_cons.2 ⟨m60, M59_ok⟩
theorem m61 : PFact Tryz.prog Z 19 127 [.string ⟨#[50]⟩] (.tuple #[.string ⟨#[50]⟩, .int .i64 (0)]) := fact_of_run (d := 60) (fuel := 100000) (mt := mt1) shut ext_ok noNum Tryz.checked.mixed (memo_ok M60_ok) rfl rfl (by kernel_rfl)
def M61 : List (FuncId × List Value × Value) := (127, [.string ⟨#[50]⟩], .tuple #[.string ⟨#[50]⟩, .int .i64 (0)]) :: M60
theorem M61_ok : ∀ q ∈ M61, PFact Tryz.prog Z 19 q.1 q.2.1 q.2.2 := List.forall_mem_cons.2 ⟨m61, M60_ok⟩
theorem m62 : PFact Tryz.prog Z 19 49 [.agg #[.int .i64 (1), .string ⟨#[50]⟩], .int .i64 (3)] (.tuple #[.agg #[.int .i64 (3), .string ⟨#[50]⟩], .int .i64 (0)]) := fact_of_run (d := 60) (fuel := 100000) (mt := mt1) shut ext_ok noNum Tryz.checked.mixed (memo_ok M61_ok) rfl rfl (by kernel_rfl)
def M62 : List (FuncId × List Value × Value) := (49, [.agg #[.int .i64 (1), .string ⟨#[50]⟩], .int .i64 (3)], .tuple #[.agg #[.int .i64 (3), .string ⟨#[50]⟩], .int .i64 (0)]) :: M61
theorem M62_ok : ∀ q ∈ M62, PFact Tryz.prog Z 19 q.1 q.2.1 q.2.2 := List.forall_mem_cons.2 ⟨m62, M61_ok⟩
theorem m63 : PFact Tryz.prog Z 19 14 [.string ⟨#[49, 32, 50, 32, 51]⟩] (.string ⟨#[49, 32, 50, 32, 51]⟩) := fact_of_run (d := 60) (fuel := 100000) (mt := mt1) shut ext_ok noNum Tryz.checked.mixed (memo_ok M62_ok) rfl rfl (by kernel_rfl)
def M63 : List (FuncId × List Value × Value) := (14, [.string ⟨#[49, 32, 50, 32, 51]⟩], .string ⟨#[49, 32, 50, 32, 51]⟩) :: M62
theorem M63_ok : ∀ q ∈ M63, PFact Tryz.prog Z 19 q.1 q.2.1 q.2.2 := List.forall_mem_cons.2 ⟨m63, M62_ok⟩
end Go.Proofs.YtelimgiehdfblaaGreatDoor.V
