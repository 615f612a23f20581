/- The kernel runs greater calls apart, on the small machine. Conditions: none. -/
import Derived.Test.YtelimgiehdfblaaGreatDoorKm1
namespace Go.Proofs.YtelimgiehdfblaaGreatDoor.V
set_option linter.all false
open Go
set_option maxRecDepth 1000000
theorem m12 : PFact Tryz.prog Z 19 127 [.string ⟨#[50, 46, 53]⟩] (.tuple #[.string ⟨#[50, 46, 53]⟩, .int .i64 (0)]) := fact_of_run (d := 60) (fuel := 100000) (mt := mt1) shut ext_ok noNum Tryz.checked.mixed (memo_ok M11_ok) rfl rfl (by kernel_rfl)
def M12 : List (FuncId × List Value × Value) := (127, [.string ⟨#[50, 46, 53]⟩], .tuple #[.string ⟨#[50, 46, 53]⟩, .int .i64 (0)]) :: M11
theorem M12_ok : ∀ q ∈ M12, PFact Tryz.prog Z 19 q.1 q.2.1 q.2.2 := List.forall_mem_cons.2 ⟨m12, M11_ok⟩
theorem m13 : PFact Tryz.prog Z 19 49 [.agg #[.int .i64 (1), .string ⟨#[50, 46, 53]⟩], .int .i64 (4)] (.tuple #[.agg #[.int .i64 (4), .string ⟨#[50, 46, 53]⟩], .int .i64 (0)]) := fact_of_run (d := 60) (fuel := 100000) (mt := mt1) shut ext_ok noNum Tryz.checked.mixed (memo_ok M12_ok) rfl rfl (by kernel_rfl)
def M13 : List (FuncId × List Value × Value) := (49, [.agg #[.int .i64 (1), .string ⟨#[50, 46, 53]⟩], .int .i64 (4)], .tuple #[.agg #[.int .i64 (4), .string ⟨#[50, 46, 53]⟩], .int .i64 (0)]) :: M12
theorem M13_ok : ∀ q ∈ M13, PFact Tryz.prog Z 19 q.1 q.2.1 q.2.2 := List.forall_mem_cons.2 ⟨m13, M12_ok⟩
theorem m14 : PFact Tryz.prog Z 19 168 [.string ⟨#[50, 46, 53]⟩, .string ⟨#[48]⟩] (.tuple #[.string ⟨#[50, 46, 53]⟩, .int .i64 (0)]) := fact_of_run (d := 60) (fuel := 100000) (mt := mt1) shut ext_ok noNum Tryz.checked.mixed (memo_ok M13_ok) rfl rfl (by kernel_rfl)
def M14 : List (FuncId × List Value × Value) := (168, [.string ⟨#[50, 46, 53]⟩, .string ⟨#[48]⟩], .tuple #[.string ⟨#[50, 46, 53]⟩, .int .i64 (0)]) :: M13
theorem M14_ok : ∀ q ∈ M14, PFact Tryz.prog Z 19 q.1 q.2.1 q.2.2 := List.forall_mem_cons.2 ⟨m14, M13_ok⟩
theorem m15 : PFact Tryz.prog Z 19 68 [.string ⟨#[103, 101]⟩, .agg #[.int .i64 (4), .string ⟨#[50, 46, 53]⟩], .agg #[.int .i64 (4), .string ⟨#[48]⟩]] (.tuple #[.bool true, .int .i64 (0)]) := fact_of_run (d := 60) (fuel := 100000) (mt := mt1) shut ext_ok noNum Tryz.checked.mixed (memo_ok M14_ok) rfl rfl (by kernel_rfl)
def M15 : List (FuncId × List Value × Value) := (68, [.string ⟨#[103, 101]⟩, .agg #[.int .i64 (4), .string ⟨#[50, 46, 53]⟩], .agg #[.int .i64 (4), .string ⟨#[48]⟩]], .tuple #[.bool true, .int .i64 (0)]) :: M14
theorem M15_ok : ∀ q ∈ M15, PFact Tryz.prog Z 19 q.1 q.2.1 q.2.2 := List.forall_mem_cons.2 ⟨m15, M14_ok⟩
end Go.Proofs.YtelimgiehdfblaaGreatDoor.V
