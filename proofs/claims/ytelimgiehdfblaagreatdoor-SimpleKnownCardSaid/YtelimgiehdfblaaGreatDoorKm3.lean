/- The kernel runs greater calls apart, on the small machine. Conditions: none. -/
import Derived.Test.YtelimgiehdfblaaGreatDoorKm2
namespace Go.Proofs.YtelimgiehdfblaaGreatDoor.V
set_option linter.all false
open Go
set_option maxRecDepth 1000000
theorem m16 : PFact Tryz.prog Z 19 168 [.string ⟨#[50, 46, 53]⟩, .string ⟨#[50, 46, 53]⟩] (.tuple #[.string ⟨#[48]⟩, .int .i64 (0)]) := fact_of_run (d := 60) (fuel := 100000) (mt := mt1) shut ext_ok noNum Tryz.checked.mixed (memo_ok M15_ok) rfl rfl (by kernel_rfl)
def M16 : List (FuncId × List Value × Value) := (168, [.string ⟨#[50, 46, 53]⟩, .string ⟨#[50, 46, 53]⟩], .tuple #[.string ⟨#[48]⟩, .int .i64 (0)]) :: M15
theorem M16_ok : ∀ q ∈ M16, PFact Tryz.prog Z 19 q.1 q.2.1 q.2.2 := List.forall_mem_cons.2 ⟨m16, M15_ok⟩
theorem m17 : PFact Tryz.prog Z 19 68 [.string ⟨#[108, 101]⟩, .agg #[.int .i64 (4), .string ⟨#[50, 46, 53]⟩], .agg #[.int .i64 (4), .string ⟨#[50, 46, 53]⟩]] (.tuple #[.bool true, .int .i64 (0)]) := fact_of_run (d := 60) (fuel := 100000) (mt := mt1) shut ext_ok noNum Tryz.checked.mixed (memo_ok M16_ok) rfl rfl (by kernel_rfl)
def M17 : List (FuncId × List Value × Value) := (68, [.string ⟨#[108, 101]⟩, .agg #[.int .i64 (4), .string ⟨#[50, 46, 53]⟩], .agg #[.int .i64 (4), .string ⟨#[50, 46, 53]⟩]], .tuple #[.bool true, .int .i64 (0)]) :: M16
theorem M17_ok : ∀ q ∈ M17, PFact Tryz.prog Z 19 q.1 q.2.1 q.2.2 := List.forall_mem_cons.2 ⟨m17, M16_ok⟩
theorem m18 : PFact Tryz.prog Z 19 79 [.string ⟨#[53, 49, 48, 48, 48, 48, 48, 48, 48, 48, 48, 48, 48, 48, 48, 48, 48, 48, 48, 48]⟩, .int .u8 (48)] (.string ⟨#[53, 49]⟩) := fact_of_run (d := 60) (fuel := 100000) (mt := mt1) shut ext_ok noNum Tryz.checked.mixed (memo_ok M17_ok) rfl rfl (by kernel_rfl)
def M18 : List (FuncId × List Value × Value) := (79, [.string ⟨#[53, 49, 48, 48, 48, 48, 48, 48, 48, 48, 48, 48, 48, 48, 48, 48, 48, 48, 48, 48]⟩, .int .u8 (48)], .string ⟨#[53, 49]⟩) :: M17
theorem M18_ok : ∀ q ∈ M18, PFact Tryz.prog Z 19 q.1 q.2.1 q.2.2 := List.forall_mem_cons.2 ⟨m18, M17_ok⟩
theorem m19 : PFact Tryz.prog Z 19 127 [.string ⟨#[50, 46, 53, 49]⟩] (.tuple #[.string ⟨#[50, 46, 53, 49]⟩, .int .i64 (0)]) := fact_of_run (d := 60) (fuel := 100000) (mt := mt1) shut ext_ok noNum Tryz.checked.mixed (memo_ok M18_ok) rfl rfl (by kernel_rfl)
def M19 : List (FuncId × List Value × Value) := (127, [.string ⟨#[50, 46, 53, 49]⟩], .tuple #[.string ⟨#[50, 46, 53, 49]⟩, .int .i64 (0)]) :: M18
theorem M19_ok : ∀ q ∈ M19, PFact Tryz.prog Z 19 q.1 q.2.1 q.2.2 := List.forall_mem_cons.2 ⟨m19, M18_ok⟩
theorem m20 : PFact Tryz.prog Z 19 49 [.agg #[.int .i64 (1), .string ⟨#[50, 46, 53, 49]⟩], .int .i64 (4)] (.tuple #[.agg #[.int .i64 (4), .string ⟨#[50, 46, 53, 49]⟩], .int .i64 (0)]) := fact_of_run (d := 60) (fuel := 100000) (mt := mt1) shut ext_ok noNum Tryz.checked.mixed (memo_ok M19_ok) rfl rfl (by kernel_rfl)
def M20 : List (FuncId × List Value × Value) := (49, [.agg #[.int .i64 (1), .string ⟨#[50, 46, 53, 49]⟩], .int .i64 (4)], .tuple #[.agg #[.int .i64 (4), .string ⟨#[50, 46, 53, 49]⟩], .int .i64 (0)]) :: M19
theorem M20_ok : ∀ q ∈ M20, PFact Tryz.prog Z 19 q.1 q.2.1 q.2.2 := List.forall_mem_cons.2 ⟨m20, M19_ok⟩
end Go.Proofs.YtelimgiehdfblaaGreatDoor.V
