/- The kernel runs greater calls apart, on the small machine. Conditions: none. -/
import Derived.Test.YtelimgiehdfblaaGreatDoorKm4
namespace Go.Proofs.YtelimgiehdfblaaGreatDoor.V
set_option linter.all false
open Go
set_option maxRecDepth 1000000
theorem m24 : PFact Tryz.prog Z 19 168 [.string ⟨#[50, 46, 53, 49]⟩, .string ⟨#[50, 46, 53]⟩] (.tuple #[.string ⟨#[48, 46, 48, 49]⟩, .int .i64 (0)]) := fact_of_run (d := 60) (fuel := 100000) (mt := mt1) shut ext_ok noNum Tryz.checked.mixed (memo_ok M23_ok) rfl rfl (by kernel_rfl)
def M24 : List (FuncId × List Value × Value) := (168, [.string ⟨#[50, 46, 53, 49]⟩, .string ⟨#[50, 46, 53]⟩], .tuple #[.string ⟨#[48, 46, 48, 49]⟩, .int .i64 (0)]) :: M23
theorem M24_ok : ∀ q ∈ M24, PFact Tryz.prog Z 19 q.1 q.2.1 q.2.2 := List.forall_mem_cons.2 ⟨m24, M23_ok⟩
theorem m25 : PFact Tryz.prog Z 19 68 [.string ⟨#[108, 101]⟩, .agg #[.int .i64 (4), .string ⟨#[50, 46, 53, 49]⟩], .agg #[.int .i64 (4), .string ⟨#[50, 46, 53]⟩]] (.tuple #[.bool false, .int .i64 (0)]) := fact_of_run (d := 60) (fuel := 100000) (mt := mt1) shut ext_ok noNum Tryz.checked.mixed (memo_ok M24_ok) rfl rfl (by kernel_rfl)
def M25 : List (FuncId × List Value × Value) := (68, [.string ⟨#[108, 101]⟩, .agg #[.int .i64 (4), .string ⟨#[50, 46, 53, 49]⟩], .agg #[.int .i64 (4), .string ⟨#[50, 46, 53]⟩]], .tuple #[.bool false, .int .i64 (0)]) :: M24
theorem M25_ok : ∀ q ∈ M25, PFact Tryz.prog Z 19 q.1 q.2.1 q.2.2 := List.forall_mem_cons.2 ⟨m25, M24_ok⟩
theorem m26 : PFact Tryz.prog Z 19 127 [.string ⟨#[45, 49]⟩] (.tuple #[.string ⟨#[45, 49]⟩, .int .i64 (0)]) := fact_of_run (d := 60) (fuel := 100000) (mt := mt1) shut ext_ok noNum Tryz.checked.mixed (memo_ok M25_ok) rfl rfl (by kernel_rfl)
def M26 : List (FuncId × List Value × Value) := (127, [.string ⟨#[45, 49]⟩], .tuple #[.string ⟨#[45, 49]⟩, .int .i64 (0)]) :: M25
theorem M26_ok : ∀ q ∈ M26, PFact Tryz.prog Z 19 q.1 q.2.1 q.2.2 := List.forall_mem_cons.2 ⟨m26, M25_ok⟩
theorem m27 : PFact Tryz.prog Z 19 49 [.agg #[.int .i64 (1), .string ⟨#[45, 49]⟩], .int .i64 (4)] (.tuple #[.agg #[.int .i64 (4), .string ⟨#[45, 49]⟩], .int .i64 (0)]) := fact_of_run (d := 60) (fuel := 100000) (mt := mt1) shut ext_ok noNum Tryz.checked.mixed (memo_ok M26_ok) rfl rfl (by kernel_rfl)
def M27 : List (FuncId × List Value × Value) := (49, [.agg #[.int .i64 (1), .string ⟨#[45, 49]⟩], .int .i64 (4)], .tuple #[.agg #[.int .i64 (4), .string ⟨#[45, 49]⟩], .int .i64 (0)]) :: M26
theorem M27_ok : ∀ q ∈ M27, PFact Tryz.prog Z 19 q.1 q.2.1 q.2.2 := List.forall_mem_cons.2 ⟨m27, M26_ok⟩
end Go.Proofs.YtelimgiehdfblaaGreatDoor.V
