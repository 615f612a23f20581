/- The kernel runs greater calls apart, on the small machine. Conditions: none. -/
import Derived.Test.YtibffohcmegooaaGreatDoorKm1
namespace Go.Proofs.YtibffohcmegooaaGreatDoor.V
set_option linter.all false
open Go
set_option maxRecDepth 1000000
theorem m4 : PFact Tryz.prog Z 19 80 [.string ⟨#[52]⟩] (.tuple #[.string ⟨#[52]⟩, .int .i64 (0)]) := fact_of_run (d := 60) (fuel := 100000) (mt := mt1) shut ext_ok noNum Tryz.checked.mixed (memo_ok M3_ok) rfl rfl (by kernel_rfl)
def M4 : List (FuncId × List Value × Value) := (80, [.string ⟨#[52]⟩], .tuple #[.string ⟨#[52]⟩, .int .i64 (0)]) :: M3
theorem M4_ok : ∀ q ∈ M4, PFact Tryz.prog Z 19 q.1 q.2.1 q.2.2 := List.forall_mem_cons.2 ⟨m4, M3_ok⟩
theorem m5 : PFact Tryz.prog Z 19 81 [.string ⟨#[49]⟩] (.tuple #[.string ⟨#[49]⟩, .bool true]) := fact_of_run (d := 60) (fuel := 100000) (mt := mt1) shut ext_ok noNum Tryz.checked.mixed (memo_ok M4_ok) rfl rfl (by kernel_rfl)
def M5 : List (FuncId × List Value × Value) := (81, [.string ⟨#[49]⟩], .tuple #[.string ⟨#[49]⟩, .bool true]) :: M4
theorem M5_ok : ∀ q ∈ M5, PFact Tryz.prog Z 19 q.1 q.2.1 q.2.2 := List.forall_mem_cons.2 ⟨m5, M4_ok⟩
theorem m6 : PFact Tryz.prog Z 19 112 [.agg #[.int .i64 (3), .string ⟨#[49]⟩], .agg #[.int .i64 (5), .string ⟨#[49]⟩]] (.tuple #[.int .i64 (0), .bool false, .int .i64 (0)]) := fact_of_run (d := 60) (fuel := 100000) (mt := mt1) shut ext_ok noNum Tryz.checked.mixed (memo_ok M5_ok) rfl rfl (by kernel_rfl)
def M6 : List (FuncId × List Value × Value) := (112, [.agg #[.int .i64 (3), .string ⟨#[49]⟩], .agg #[.int .i64 (5), .string ⟨#[49]⟩]], .tuple #[.int .i64 (0), .bool false, .int .i64 (0)]) :: M5
theorem M6_ok : ∀ q ∈ M6, PFact Tryz.prog Z 19 q.1 q.2.1 q.2.2 := List.forall_mem_cons.2 ⟨m6, M5_ok⟩
end Go.Proofs.YtibffohcmegooaaGreatDoor.V
