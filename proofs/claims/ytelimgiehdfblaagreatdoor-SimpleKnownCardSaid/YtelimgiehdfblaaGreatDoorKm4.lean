/- The kernel runs greater calls apart, on the small machine. Conditions: none. -/
import Derived.Test.YtelimgiehdfblaaGreatDoorKm3
namespace Go.Proofs.YtelimgiehdfblaaGreatDoor.V
set_option linter.all false
open Go
set_option maxRecDepth 1000000
theorem m21 : PFact Tryz.prog Z 19 168 [.string ⟨#[50, 46, 53, 49]⟩, .string ⟨#[48]⟩] (.tuple #[.string ⟨#[50, 46, 53, 49]⟩, .int .i64 (0)]) := fact_of_run (d := 60) (fuel := 100000) (mt := mt1) shut ext_ok noNum Tryz.checked.mixed (memo_ok M20_ok) rfl rfl (by kernel_rfl)
def M21 : List (FuncId × List Value × Value) := (168, [.string ⟨#[50, 46, 53, 49]⟩, .string ⟨#[48]⟩], .tuple #[.string ⟨#[50, 46, 53, 49]⟩, .int .i64 (0)]) :: M20
theorem M21_ok : ∀ q ∈ M21, PFact Tryz.prog Z 19 q.1 q.2.1 q.2.2 := List.forall_mem_cons.2 ⟨m21, M20_ok⟩
theorem m22 : PFact Tryz.prog Z 19 68 [.string ⟨#[103, 101]⟩, .agg #[.int .i64 (4), .string ⟨#[50, 46, 53, 49]⟩], .agg #[.int .i64 (4), .string ⟨#[48]⟩]] (.tuple #[.bool true, .int .i64 (0)]) := fact_of_run (d := 60) (fuel := 100000) (mt := mt1) shut ext_ok noNum Tryz.checked.mixed (memo_ok M21_ok) rfl rfl (by kernel_rfl)
def M22 : List (FuncId × List Value × Value) := (68, [.string ⟨#[103, 101]⟩, .agg #[.int .i64 (4), .string ⟨#[50, 46, 53, 49]⟩], .agg #[.int .i64 (4), .string ⟨#[48]⟩]], .tuple #[.bool true, .int .i64 (0)]) :: M21
theorem M22_ok : ∀ q ∈ M22, PFact Tryz.prog Z 19 q.1 q.2.1 q.2.2 := List.forall_mem_cons.2 ⟨m22, M21_ok⟩
theorem m23 : PFact Tryz.prog Z 19 79 [.string ⟨#[48, 49, 48, 48, 48, 48, 48, 48, 48, 48, 48, 48, 48, 48, 48, 48, 48, 48, 48, 48]⟩, .int .u8 (48)] (.string ⟨#[48, 49]⟩) := fact_of_run (d := 60) (fuel := 100000) (mt := mt1) shut ext_ok noNum Tryz.checked.mixed (memo_ok M22_ok) rfl rfl (by kernel_rfl)
def M23 : List (FuncId × List Value × Value) := (79, [.string ⟨#[48, 49, 48, 48, 48, 48, 48, 48, 48, 48, 48, 48, 48, 48, 48, 48, 48, 48, 48, 48]⟩, .int .u8 (48)], .string ⟨#[48, 49]⟩) :: M22
theorem M23_ok : ∀ q ∈ M23, PFact Tryz.prog Z 19 q.1 q.2.1 q.2.2 := List.forall_mem_cons.2 ⟨m23, M22_ok⟩
end Go.Proofs.YtelimgiehdfblaaGreatDoor.V
