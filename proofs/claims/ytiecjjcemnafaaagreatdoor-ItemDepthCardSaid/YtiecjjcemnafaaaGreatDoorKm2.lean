/- The kernel runs greater calls apart, on the small machine. Conditions: none. -/
import Derived.Test.YtiecjjcemnafaaaGreatDoorKm1
namespace Go.Proofs.YtiecjjcemnafaaaGreatDoor.V
set_option linter.all false
open Go
set_option maxRecDepth 1000000
theorem m19 : PFact Tryz.prog Z 19 250 [.string ⟨#[50]⟩, .string ⟨#[50]⟩] (.tuple #[.string ⟨#[48]⟩, .int .i64 (0)]) := fact_of_run (d := 60) (fuel := 100000) (mt := mt1) shut ext_ok noNum Tryz.checked.mixed (memo_ok M18_ok) rfl rfl (by kernel_rfl)
def M19 : List (FuncId × List Value × Value) := (250, [.string ⟨#[50]⟩, .string ⟨#[50]⟩], .tuple #[.string ⟨#[48]⟩, .int .i64 (0)]) :: M18
theorem M19_ok : ∀ q ∈ M19, PFact Tryz.prog Z 19 q.1 q.2.1 q.2.2 := List.forall_mem_cons.2 ⟨m19, M18_ok⟩
theorem m20 : PFact Tryz.prog Z 19 152 [.agg #[.int .i64 (3), .string ⟨#[50]⟩], .agg #[.int .i64 (3), .string ⟨#[50]⟩]] (.tuple #[.int .i64 (0), .bool false, .int .i64 (0)]) := fact_of_run (d := 60) (fuel := 100000) (mt := mt1) shut ext_ok noNum Tryz.checked.mixed (memo_ok M19_ok) rfl rfl (by kernel_rfl)
def M20 : List (FuncId × List Value × Value) := (152, [.agg #[.int .i64 (3), .string ⟨#[50]⟩], .agg #[.int .i64 (3), .string ⟨#[50]⟩]], .tuple #[.int .i64 (0), .bool false, .int .i64 (0)]) :: M19
theorem M20_ok : ∀ q ∈ M20, PFact Tryz.prog Z 19 q.1 q.2.1 q.2.2 := List.forall_mem_cons.2 ⟨m20, M19_ok⟩
theorem m21 : PFact Tryz.prog Z 19 108 [.string ⟨#[101, 113]⟩, .agg #[.int .i64 (3), .string ⟨#[50]⟩], .agg #[.int .i64 (3), .string ⟨#[50]⟩]] (.tuple #[.bool true, .int .i64 (0)]) := fact_of_run (d := 60) (fuel := 100000) (mt := mt1) shut ext_ok noNum Tryz.checked.mixed (memo_ok M20_ok) rfl rfl (by kernel_rfl)
def M21 : List (FuncId × List Value × Value) := (108, [.string ⟨#[101, 113]⟩, .agg #[.int .i64 (3), .string ⟨#[50]⟩], .agg #[.int .i64 (3), .string ⟨#[50]⟩]], .tuple #[.bool true, .int .i64 (0)]) :: M20
theorem M21_ok : ∀ q ∈ M21, PFact Tryz.prog Z 19 q.1 q.2.1 q.2.2 := List.forall_mem_cons.2 ⟨m21, M20_ok⟩
theorem m22 : PFact Tryz.prog Z 19 113 [.agg #[.int .i64 (3), .string ⟨#[51]⟩], .agg #[.int .i64 (3), .string ⟨#[51]⟩]] (.bool true) := fact_of_run (d := 60) (fuel := 100000) (mt := mt1) shut ext_ok noNum Tryz.checked.mixed (memo_ok M21_ok) rfl rfl (by kernel_rfl)
def M22 : List (FuncId × List Value × Value) := (113, [.agg #[.int .i64 (3), .string ⟨#[51]⟩], .agg #[.int .i64 (3), .string ⟨#[51]⟩]], .bool true) :: M21
theorem M22_ok : ∀ q ∈ M22, PFact Tryz.prog Z 19 q.1 q.2.1 q.2.2 := List.forall_mem_cons.2 ⟨m22, M21_ok⟩
end Go.Proofs.YtiecjjcemnafaaaGreatDoor.V
