/- The kernel runs chisellaw29.SortsKnown, its greater calls apart, on the small machine. Conditions: none. -/
import Derived.Test.YtlccfcbifplhkaaGreatDoorKs
namespace Go.Proofs.YtlccfcbifplhkaaGreatDoor.V
open Go
set_option maxRecDepth 1000000
def M0 : List (FuncId × List Value × Value) := []
theorem M0_ok : ∀ q ∈ M0, PFact Tryz.prog Z 19 q.1 q.2.1 q.2.2 := fun q hq => by cases hq
-- 2512 operations
theorem m1 : PFact Tryz.prog Z 19 100 [.agg #[.int .i64 (1), .string ⟨#[49]⟩], .int .i64 (5)] (.tuple #[.agg #[.int .i64 (5), .string ⟨#[49]⟩], .int .i64 (0)]) := fact_of_run (d := 60) (fuel := 100000) (mt := mt1) shut ext_ok noNum Tryz.checked.mixed (memo_ok M0_ok) rfl rfl (by kernel_rfl)
def M1 : List (FuncId × List Value × Value) := (100, [.agg #[.int .i64 (1), .string ⟨#[49]⟩], .int .i64 (5)], .tuple #[.agg #[.int .i64 (5), .string ⟨#[49]⟩], .int .i64 (0)]) :: M0
theorem M1_ok : ∀ q ∈ M1, PFact Tryz.prog Z 19 q.1 q.2.1 q.2.2 := List.forall_mem_cons.2 ⟨m1, M0_ok⟩
-- 3691 operations
theorem m2 : PFact Tryz.prog Z 19 49 [.agg #[.bool false, .bool true, .pointer none], .agg #[.int .i64 (1), .string ⟨#[48]⟩], .agg #[.int .i64 (1), .string ⟨#[49]⟩]] (.int .i64 (-1)) := fact_of_run (d := 60) (fuel := 100000) (mt := mt1) shut ext_ok noNum Tryz.checked.mixed (memo_ok M1_ok) rfl rfl (by kernel_rfl)
def M2 : List (FuncId × List Value × Value) := (49, [.agg #[.bool false, .bool true, .pointer none], .agg #[.int .i64 (1), .string ⟨#[48]⟩], .agg #[.int .i64 (1), .string ⟨#[49]⟩]], .int .i64 (-1)) :: M1
theorem M2_ok : ∀ q ∈ M2, PFact Tryz.prog Z 19 q.1 q.2.1 q.2.2 := List.forall_mem_cons.2 ⟨m2, M1_ok⟩
-- 2512 operations
theorem m3 : PFact Tryz.prog Z 19 100 [.agg #[.int .i64 (1), .string ⟨#[50]⟩], .int .i64 (5)] (.tuple #[.agg #[.int .i64 (5), .string ⟨#[50]⟩], .int .i64 (0)]) := fact_of_run (d := 60) (fuel := 100000) (mt := mt1) shut ext_ok noNum Tryz.checked.mixed (memo_ok M2_ok) rfl rfl (by kernel_rfl)
def M3 : List (FuncId × List Value × Value) := (100, [.agg #[.int .i64 (1), .string ⟨#[50]⟩], .int .i64 (5)], .tuple #[.agg #[.int .i64 (5), .string ⟨#[50]⟩], .int .i64 (0)]) :: M2
theorem M3_ok : ∀ q ∈ M3, PFact Tryz.prog Z 19 q.1 q.2.1 q.2.2 := List.forall_mem_cons.2 ⟨m3, M2_ok⟩
-- 2873 operations
theorem m4 : PFact Tryz.prog Z 19 89 [.string ⟨#[48]⟩] (.tuple #[.string ⟨#[48]⟩, .int .i64 (0)]) := fact_of_run (d := 60) (fuel := 100000) (mt := mt1) shut ext_ok noNum Tryz.checked.mixed (memo_ok M3_ok) rfl rfl (by kernel_rfl)
def M4 : List (FuncId × List Value × Value) := (89, [.string ⟨#[48]⟩], .tuple #[.string ⟨#[48]⟩, .int .i64 (0)]) :: M3
theorem M4_ok : ∀ q ∈ M4, PFact Tryz.prog Z 19 q.1 q.2.1 q.2.2 := List.forall_mem_cons.2 ⟨m4, M3_ok⟩
-- 4091 operations
theorem m5 : PFact Tryz.prog Z 19 49 [.agg #[.bool false, .bool true, .pointer none], .agg #[.int .i64 (5), .string ⟨#[45, 48]⟩], .agg #[.int .i64 (3), .string ⟨#[48]⟩]] (.int .i64 (0)) := fact_of_run (d := 60) (fuel := 100000) (mt := mt1) shut ext_ok noNum Tryz.checked.mixed (memo_ok M4_ok) rfl rfl (by kernel_rfl)
def M5 : List (FuncId × List Value × Value) := (49, [.agg #[.bool false, .bool true, .pointer none], .agg #[.int .i64 (5), .string ⟨#[45, 48]⟩], .agg #[.int .i64 (3), .string ⟨#[48]⟩]], .int .i64 (0)) :: M4
theorem M5_ok : ∀ q ∈ M5, PFact Tryz.prog Z 19 q.1 q.2.1 q.2.2 := List.forall_mem_cons.2 ⟨m5, M4_ok⟩
-- 3639 operations
theorem m6 : PFact Tryz.prog Z 19 66 [.agg #[.int .i64 (1), .string ⟨#[57]⟩]] (.tuple #[.float .f64 4621256167635550208, .bool true]) := fact_of_run (d := 60) (fuel := 100000) (mt := mt1) shut ext_ok noNum Tryz.checked.mixed (memo_ok M5_ok) rfl rfl (by kernel_rfl)
def M6 : List (FuncId × List Value × Value) := (66, [.agg #[.int .i64 (1), .string ⟨#[57]⟩]], .tuple #[.float .f64 4621256167635550208, .bool true]) :: M5
theorem M6_ok : ∀ q ∈ M6, PFact Tryz.prog Z 19 q.1 q.2.1 q.2.2 := List.forall_mem_cons.2 ⟨m6, M5_ok⟩
-- 2524 operations
theorem m7 : PFact Tryz.prog Z 19 141 [.agg #[.int .i64 (1), .string ⟨#[49, 48]⟩], .int .i64 (5)] (.tuple #[.string ⟨#[49, 48]⟩, .bool true]) := fact_of_run (d := 60) (fuel := 100000) (mt := mt1) shut ext_ok noNum Tryz.checked.mixed (memo_ok M6_ok) rfl rfl (by kernel_rfl)
def M7 : List (FuncId × List Value × Value) := (141, [.agg #[.int .i64 (1), .string ⟨#[49, 48]⟩], .int .i64 (5)], .tuple #[.string ⟨#[49, 48]⟩, .bool true]) :: M6
theorem M7_ok : ∀ q ∈ M7, PFact Tryz.prog Z 19 q.1 q.2.1 q.2.2 := List.forall_mem_cons.2 ⟨m7, M6_ok⟩
-- 9691 operations
theorem m8 : PFact Tryz.prog Z 19 15 [] (.bool true) := fact_of_run (d := 60) (fuel := 100000) (mt := mt1) shut ext_ok noNum Tryz.checked.mixed (memo_ok M7_ok) rfl rfl (by kernel_rfl)
def M8 : List (FuncId × List Value × Value) := (15, [], .bool true) :: M7
theorem M8_ok : ∀ q ∈ M8, PFact Tryz.prog Z 19 q.1 q.2.1 q.2.2 := List.forall_mem_cons.2 ⟨m8, M7_ok⟩
-- 11380 operations
theorem m9 : PFact Tryz.prog Z 19 10 [] (.bool true) := fact_of_run (d := 60) (fuel := 100000) (mt := mt1) shut ext_ok noNum Tryz.checked.mixed (memo_ok M8_ok) rfl rfl (by kernel_rfl)
def M9 : List (FuncId × List Value × Value) := (10, [], .bool true) :: M8
theorem M9_ok : ∀ q ∈ M9, PFact Tryz.prog Z 19 q.1 q.2.1 q.2.2 := List.forall_mem_cons.2 ⟨m9, M8_ok⟩
end Go.Proofs.YtlccfcbifplhkaaGreatDoor.V
