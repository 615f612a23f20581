/- The kernel runs greater calls apart, on the small machine. Conditions: none. -/
import Derived.Test.YtelimgiehdfblaaGreatDoorKs
namespace Go.Proofs.YtelimgiehdfblaaGreatDoor.V
set_option linter.all false
open Go
set_option maxRecDepth 1000000
def M0 : List (FuncId × List Value × Value) := []
theorem M0_ok : ∀ q ∈ M0, PFact Tryz.prog Z 19 q.1 q.2.1 q.2.2 := fun q hq => by cases hq
theorem m1 : PFact Tryz.prog Z 19 79 [.string ⟨#[48, 48, 48, 48, 48, 48, 48, 48, 48, 48, 48, 48, 48, 48, 48, 48, 48, 48, 48, 48]⟩, .int .u8 (48)] (.string ⟨#[]⟩) := fact_of_run (d := 60) (fuel := 100000) (mt := mt1) shut ext_ok noNum Tryz.checked.mixed (memo_ok M0_ok) rfl rfl (by kernel_rfl)
def M1 : List (FuncId × List Value × Value) := (79, [.string ⟨#[48, 48, 48, 48, 48, 48, 48, 48, 48, 48, 48, 48, 48, 48, 48, 48, 48, 48, 48, 48]⟩, .int .u8 (48)], .string ⟨#[]⟩) :: M0
theorem M1_ok : ∀ q ∈ M1, PFact Tryz.prog Z 19 q.1 q.2.1 q.2.2 := List.forall_mem_cons.2 ⟨m1, M0_ok⟩
theorem m2 : PFact Tryz.prog Z 19 127 [.string ⟨#[48, 48, 55]⟩] (.tuple #[.string ⟨#[55]⟩, .int .i64 (0)]) := fact_of_run (d := 60) (fuel := 100000) (mt := mt1) shut ext_ok noNum Tryz.checked.mixed (memo_ok M1_ok) rfl rfl (by kernel_rfl)
def M2 : List (FuncId × List Value × Value) := (127, [.string ⟨#[48, 48, 55]⟩], .tuple #[.string ⟨#[55]⟩, .int .i64 (0)]) :: M1
theorem M2_ok : ∀ q ∈ M2, PFact Tryz.prog Z 19 q.1 q.2.1 q.2.2 := List.forall_mem_cons.2 ⟨m2, M1_ok⟩
theorem m3 : PFact Tryz.prog Z 19 49 [.agg #[.int .i64 (1), .string ⟨#[48, 48, 55]⟩], .int .i64 (3)] (.tuple #[.agg #[.int .i64 (3), .string ⟨#[55]⟩], .int .i64 (0)]) := fact_of_run (d := 60) (fuel := 100000) (mt := mt1) shut ext_ok noNum Tryz.checked.mixed (memo_ok M2_ok) rfl rfl (by kernel_rfl)
def M3 : List (FuncId × List Value × Value) := (49, [.agg #[.int .i64 (1), .string ⟨#[48, 48, 55]⟩], .int .i64 (3)], .tuple #[.agg #[.int .i64 (3), .string ⟨#[55]⟩], .int .i64 (0)]) :: M2
theorem M3_ok : ∀ q ∈ M3, PFact Tryz.prog Z 19 q.1 q.2.1 q.2.2 := List.forall_mem_cons.2 ⟨m3, M2_ok⟩
theorem m4 : PFact Tryz.prog Z 19 49 [.agg #[.int .i64 (1), .string ⟨#[55, 46, 53]⟩], .int .i64 (3)] (.tuple #[.agg #[.int .i64 (0), .string ⟨#[]⟩], .int .i64 (80)]) := fact_of_run (d := 60) (fuel := 100000) (mt := mt1) shut ext_ok noNum Tryz.checked.mixed (memo_ok M3_ok) rfl rfl (by kernel_rfl)
def M4 : List (FuncId × List Value × Value) := (49, [.agg #[.int .i64 (1), .string ⟨#[55, 46, 53]⟩], .int .i64 (3)], .tuple #[.agg #[.int .i64 (0), .string ⟨#[]⟩], .int .i64 (80)]) :: M3
theorem M4_ok : ∀ q ∈ M4, PFact Tryz.prog Z 19 q.1 q.2.1 q.2.2 := List.forall_mem_cons.2 ⟨m4, M3_ok⟩
theorem m5 : PFact Tryz.prog Z 19 72 [.agg #[.int .i64 (1), .string ⟨#[120]⟩], .int .i64 (3)] (.tuple #[.string ⟨#[]⟩, .bool false]) := fact_of_run (d := 60) (fuel := 100000) (mt := mt1) shut ext_ok noNum Tryz.checked.mixed (memo_ok M4_ok) rfl rfl (by kernel_rfl)
def M5 : List (FuncId × List Value × Value) := (72, [.agg #[.int .i64 (1), .string ⟨#[120]⟩], .int .i64 (3)], .tuple #[.string ⟨#[]⟩, .bool false]) :: M4
theorem M5_ok : ∀ q ∈ M5, PFact Tryz.prog Z 19 q.1 q.2.1 q.2.2 := List.forall_mem_cons.2 ⟨m5, M4_ok⟩
theorem m6 : PFact Tryz.prog Z 19 15 [.string ⟨#[94, 40, 63, 58, 97, 124, 98, 43, 41, 36]⟩] (.bool true) := fact_of_run (d := 60) (fuel := 100000) (mt := mt1) shut ext_ok noNum Tryz.checked.mixed (memo_ok M5_ok) rfl rfl (by kernel_rfl)
def M6 : List (FuncId × List Value × Value) := (15, [.string ⟨#[94, 40, 63, 58, 97, 124, 98, 43, 41, 36]⟩], .bool true) :: M5
theorem M6_ok : ∀ q ∈ M6, PFact Tryz.prog Z 19 q.1 q.2.1 q.2.2 := List.forall_mem_cons.2 ⟨m6, M5_ok⟩
theorem m7 : PFact Tryz.prog Z 19 127 [.string ⟨#[48]⟩] (.tuple #[.string ⟨#[48]⟩, .int .i64 (0)]) := fact_of_run (d := 60) (fuel := 100000) (mt := mt1) shut ext_ok noNum Tryz.checked.mixed (memo_ok M6_ok) rfl rfl (by kernel_rfl)
def M7 : List (FuncId × List Value × Value) := (127, [.string ⟨#[48]⟩], .tuple #[.string ⟨#[48]⟩, .int .i64 (0)]) :: M6
theorem M7_ok : ∀ q ∈ M7, PFact Tryz.prog Z 19 q.1 q.2.1 q.2.2 := List.forall_mem_cons.2 ⟨m7, M6_ok⟩
theorem m8 : PFact Tryz.prog Z 19 49 [.agg #[.int .i64 (1), .string ⟨#[48]⟩], .int .i64 (4)] (.tuple #[.agg #[.int .i64 (4), .string ⟨#[48]⟩], .int .i64 (0)]) := fact_of_run (d := 60) (fuel := 100000) (mt := mt1) shut ext_ok noNum Tryz.checked.mixed (memo_ok M7_ok) rfl rfl (by kernel_rfl)
def M8 : List (FuncId × List Value × Value) := (49, [.agg #[.int .i64 (1), .string ⟨#[48]⟩], .int .i64 (4)], .tuple #[.agg #[.int .i64 (4), .string ⟨#[48]⟩], .int .i64 (0)]) :: M7
theorem M8_ok : ∀ q ∈ M8, PFact Tryz.prog Z 19 q.1 q.2.1 q.2.2 := List.forall_mem_cons.2 ⟨m8, M7_ok⟩
theorem m9 : PFact Tryz.prog Z 19 79 [.string ⟨#[53, 48, 48, 48, 48, 48, 48, 48, 48, 48, 48, 48, 48, 48, 48, 48, 48, 48, 48, 48]⟩, .int .u8 (48)] (.string ⟨#[53]⟩) := fact_of_run (d := 60) (fuel := 100000) (mt := mt1) shut ext_ok noNum Tryz.checked.mixed (memo_ok M8_ok) rfl rfl (by kernel_rfl)
def M9 : List (FuncId × List Value × Value) := (79, [.string ⟨#[53, 48, 48, 48, 48, 48, 48, 48, 48, 48, 48, 48, 48, 48, 48, 48, 48, 48, 48, 48]⟩, .int .u8 (48)], .string ⟨#[53]⟩) :: M8
theorem M9_ok : ∀ q ∈ M9, PFact Tryz.prog Z 19 q.1 q.2.1 q.2.2 := List.forall_mem_cons.2 ⟨m9, M8_ok⟩
theorem m10 : PFact Tryz.prog Z 19 127 [.string ⟨#[50, 46, 53, 48]⟩] (.tuple #[.string ⟨#[50, 46, 53]⟩, .int .i64 (0)]) := fact_of_run (d := 60) (fuel := 100000) (mt := mt1) shut ext_ok noNum Tryz.checked.mixed (memo_ok M9_ok) rfl rfl (by kernel_rfl)
def M10 : List (FuncId × List Value × Value) := (127, [.string ⟨#[50, 46, 53, 48]⟩], .tuple #[.string ⟨#[50, 46, 53]⟩, .int .i64 (0)]) :: M9
theorem M10_ok : ∀ q ∈ M10, PFact Tryz.prog Z 19 q.1 q.2.1 q.2.2 := List.forall_mem_cons.2 ⟨m10, M9_ok⟩
theorem m11 : PFact Tryz.prog Z 19 49 [.agg #[.int .i64 (1), .string ⟨#[50, 46, 53, 48]⟩], .int .i64 (4)] (.tuple #[.agg #[.int .i64 (4), .string ⟨#[50, 46, 53]⟩], .int .i64 (0)]) := fact_of_run (d := 60) (fuel := 100000) (mt := mt1) shut ext_ok noNum Tryz.checked.mixed (memo_ok M10_ok) rfl rfl (by kernel_rfl)
def M11 : List (FuncId × List Value × Value) := (49, [.agg #[.int .i64 (1), .string ⟨#[50, 46, 53, 48]⟩], .int .i64 (4)], .tuple #[.agg #[.int .i64 (4), .string ⟨#[50, 46, 53]⟩], .int .i64 (0)]) :: M10
theorem M11_ok : ∀ q ∈ M11, PFact Tryz.prog Z 19 q.1 q.2.1 q.2.2 := List.forall_mem_cons.2 ⟨m11, M10_ok⟩
end Go.Proofs.YtelimgiehdfblaaGreatDoor.V
