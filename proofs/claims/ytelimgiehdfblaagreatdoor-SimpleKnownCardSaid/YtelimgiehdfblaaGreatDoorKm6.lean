/- The kernel runs greater calls apart, on the small machine. Conditions: none. -/
import Derived.Test.YtelimgiehdfblaaGreatDoorKm5
namespace Go.Proofs.YtelimgiehdfblaaGreatDoor.V
set_option linter.all false
open Go
set_option maxRecDepth 1000000
theorem m28 : PFact Tryz.prog Z 19 168 [.string ⟨#[45, 49]⟩, .string ⟨#[48]⟩] (.tuple #[.string ⟨#[45, 49]⟩, .int .i64 (0)]) := fact_of_run (d := 60) (fuel := 100000) (mt := mt1) shut ext_ok noNum Tryz.checked.mixed (memo_ok M27_ok) rfl rfl (by kernel_rfl)
def M28 : List (FuncId × List Value × Value) := (168, [.string ⟨#[45, 49]⟩, .string ⟨#[48]⟩], .tuple #[.string ⟨#[45, 49]⟩, .int .i64 (0)]) :: M27
theorem M28_ok : ∀ q ∈ M28, PFact Tryz.prog Z 19 q.1 q.2.1 q.2.2 := List.forall_mem_cons.2 ⟨m28, M27_ok⟩
theorem m29 : PFact Tryz.prog Z 19 68 [.string ⟨#[103, 101]⟩, .agg #[.int .i64 (4), .string ⟨#[45, 49]⟩], .agg #[.int .i64 (4), .string ⟨#[48]⟩]] (.tuple #[.bool false, .int .i64 (0)]) := fact_of_run (d := 60) (fuel := 100000) (mt := mt1) shut ext_ok noNum Tryz.checked.mixed (memo_ok M28_ok) rfl rfl (by kernel_rfl)
def M29 : List (FuncId × List Value × Value) := (68, [.string ⟨#[103, 101]⟩, .agg #[.int .i64 (4), .string ⟨#[45, 49]⟩], .agg #[.int .i64 (4), .string ⟨#[48]⟩]], .tuple #[.bool false, .int .i64 (0)]) :: M28
theorem M29_ok : ∀ q ∈ M29, PFact Tryz.prog Z 19 q.1 q.2.1 q.2.2 := List.forall_mem_cons.2 ⟨m29, M28_ok⟩
theorem m30 : PFact Tryz.prog Z 19 343 [.string ⟨#[48, 46, 49, 101, 49]⟩] (.tuple #[.int .u64 (1), .int .i64 (0), .bool false, .bool false, .bool false, .int .i64 (5), .bool true]) := fact_of_run (d := 60) (fuel := 100000) (mt := mt1) shut ext_ok noNum Tryz.checked.mixed (memo_ok M29_ok) rfl rfl (by kernel_rfl)
def M30 : List (FuncId × List Value × Value) := (343, [.string ⟨#[48, 46, 49, 101, 49]⟩], .tuple #[.int .u64 (1), .int .i64 (0), .bool false, .bool false, .bool false, .int .i64 (5), .bool true]) :: M29
theorem M30_ok : ∀ q ∈ M30, PFact Tryz.prog Z 19 q.1 q.2.1 q.2.2 := List.forall_mem_cons.2 ⟨m30, M29_ok⟩
theorem m31 : PFact Tryz.prog Z 19 178 [.string ⟨#[49]⟩] (.float .f64 4607182418800017408) := fact_of_run (d := 60) (fuel := 100000) (mt := mt1) shut ext_ok noNum Tryz.checked.mixed (memo_ok M30_ok) rfl rfl (by kernel_rfl)
def M31 : List (FuncId × List Value × Value) := (178, [.string ⟨#[49]⟩], .float .f64 4607182418800017408) :: M30
theorem M31_ok : ∀ q ∈ M31, PFact Tryz.prog Z 19 q.1 q.2.1 q.2.2 := List.forall_mem_cons.2 ⟨m31, M30_ok⟩
theorem m32 : PFact Tryz.prog Z 19 305 [.int .u64 (9223372036854775808), .int .i64 (-63)] (.tuple #[.int .u64 (1000000000000000), .int .i64 (-15)]) := fact_of_run (d := 60) (fuel := 100000) (mt := mt1) shut ext_ok noNum Tryz.checked.mixed (memo_ok M31_ok) rfl rfl (by kernel_rfl)
def M32 : List (FuncId × List Value × Value) := (305, [.int .u64 (9223372036854775808), .int .i64 (-63)], .tuple #[.int .u64 (1000000000000000), .int .i64 (-15)]) :: M31
theorem M32_ok : ∀ q ∈ M32, PFact Tryz.prog Z 19 q.1 q.2.1 q.2.2 := List.forall_mem_cons.2 ⟨m32, M31_ok⟩
theorem m33 : PFact Tryz.prog Z 19 128 [.string ⟨#[49]⟩] (.tuple #[.string ⟨#[49]⟩, .bool true]) := fact_of_run (d := 60) (fuel := 100000) (mt := mt1) shut ext_ok noNum Tryz.checked.mixed (memo_ok M32_ok) rfl rfl (by kernel_rfl)
def M33 : List (FuncId × List Value × Value) := (128, [.string ⟨#[49]⟩], .tuple #[.string ⟨#[49]⟩, .bool true]) :: M32
theorem M33_ok : ∀ q ∈ M33, PFact Tryz.prog Z 19 q.1 q.2.1 q.2.2 := List.forall_mem_cons.2 ⟨m33, M32_ok⟩
theorem m34 : PFact Tryz.prog Z 19 343 [.string ⟨#[48, 46, 49, 101, 52]⟩] (.tuple #[.int .u64 (1), .int .i64 (3), .bool false, .bool false, .bool false, .int .i64 (5), .bool true]) := fact_of_run (d := 60) (fuel := 100000) (mt := mt1) shut ext_ok noNum Tryz.checked.mixed (memo_ok M33_ok) rfl rfl (by kernel_rfl)
def M34 : List (FuncId × List Value × Value) := (343, [.string ⟨#[48, 46, 49, 101, 52]⟩], .tuple #[.int .u64 (1), .int .i64 (3), .bool false, .bool false, .bool false, .int .i64 (5), .bool true]) :: M33
theorem M34_ok : ∀ q ∈ M34, PFact Tryz.prog Z 19 q.1 q.2.1 q.2.2 := List.forall_mem_cons.2 ⟨m34, M33_ok⟩
theorem m35 : PFact Tryz.prog Z 19 178 [.string ⟨#[49, 101, 51]⟩] (.float .f64 4652007308841189376) := fact_of_run (d := 60) (fuel := 100000) (mt := mt1) shut ext_ok noNum Tryz.checked.mixed (memo_ok M34_ok) rfl rfl (by kernel_rfl)
def M35 : List (FuncId × List Value × Value) := (178, [.string ⟨#[49, 101, 51]⟩], .float .f64 4652007308841189376) :: M34
theorem M35_ok : ∀ q ∈ M35, PFact Tryz.prog Z 19 q.1 q.2.1 q.2.2 := List.forall_mem_cons.2 ⟨m35, M34_ok⟩
theorem m36 : PFact Tryz.prog Z 19 305 [.int .u64 (18014398509481984000), .int .i64 (-54)] (.tuple #[.int .u64 (1000000000000000), .int .i64 (-12)]) := fact_of_run (d := 60) (fuel := 100000) (mt := mt1) shut ext_ok noNum Tryz.checked.mixed (memo_ok M35_ok) rfl rfl (by kernel_rfl)
def M36 : List (FuncId × List Value × Value) := (305, [.int .u64 (18014398509481984000), .int .i64 (-54)], .tuple #[.int .u64 (1000000000000000), .int .i64 (-12)]) :: M35
theorem M36_ok : ∀ q ∈ M36, PFact Tryz.prog Z 19 q.1 q.2.1 q.2.2 := List.forall_mem_cons.2 ⟨m36, M35_ok⟩
theorem m37 : PFact Tryz.prog Z 19 128 [.string ⟨#[49, 101, 51]⟩] (.tuple #[.string ⟨#[49, 48, 48, 48]⟩, .bool true]) := fact_of_run (d := 60) (fuel := 100000) (mt := mt1) shut ext_ok noNum Tryz.checked.mixed (memo_ok M36_ok) rfl rfl (by kernel_rfl)
def M37 : List (FuncId × List Value × Value) := (128, [.string ⟨#[49, 101, 51]⟩], .tuple #[.string ⟨#[49, 48, 48, 48]⟩, .bool true]) :: M36
theorem M37_ok : ∀ q ∈ M37, PFact Tryz.prog Z 19 q.1 q.2.1 q.2.2 := List.forall_mem_cons.2 ⟨m37, M36_ok⟩
theorem m38 : PFact Tryz.prog Z 19 49 [.agg #[.int .i64 (1), .string ⟨#[49, 101, 51]⟩], .int .i64 (5)] (.tuple #[.agg #[.int .i64 (5), .string ⟨#[49, 48, 48, 48]⟩], .int .i64 (0)]) := fact_of_run (d := 60) (fuel := 100000) (mt := mt1) shut ext_ok noNum Tryz.checked.mixed (memo_ok M37_ok) rfl rfl (by kernel_rfl)
def M38 : List (FuncId × List Value × Value) := (49, [.agg #[.int .i64 (1), .string ⟨#[49, 101, 51]⟩], .int .i64 (5)], .tuple #[.agg #[.int .i64 (5), .string ⟨#[49, 48, 48, 48]⟩], .int .i64 (0)]) :: M37
theorem M38_ok : ∀ q ∈ M38, PFact Tryz.prog Z 19 q.1 q.2.1 q.2.2 := List.forall_mem_cons.2 ⟨m38, M37_ok⟩
theorem m39 : PFact Tryz.prog Z 19 343 [.string ⟨#[48, 46, 49, 48, 48, 48, 101, 52]⟩] (.tuple #[.int .u64 (1000), .int .i64 (0), .bool false, .bool false, .bool false, .int .i64 (8), .bool true]) := fact_of_run (d := 60) (fuel := 100000) (mt := mt1) shut ext_ok noNum Tryz.checked.mixed (memo_ok M38_ok) rfl rfl (by kernel_rfl)
def M39 : List (FuncId × List Value × Value) := (343, [.string ⟨#[48, 46, 49, 48, 48, 48, 101, 52]⟩], .tuple #[.int .u64 (1000), .int .i64 (0), .bool false, .bool false, .bool false, .int .i64 (8), .bool true]) :: M38
theorem M39_ok : ∀ q ∈ M39, PFact Tryz.prog Z 19 q.1 q.2.1 q.2.2 := List.forall_mem_cons.2 ⟨m39, M38_ok⟩
theorem m40 : PFact Tryz.prog Z 19 178 [.string ⟨#[49, 48, 48, 48]⟩] (.float .f64 4652007308841189376) := fact_of_run (d := 60) (fuel := 100000) (mt := mt1) shut ext_ok noNum Tryz.checked.mixed (memo_ok M39_ok) rfl rfl (by kernel_rfl)
def M40 : List (FuncId × List Value × Value) := (178, [.string ⟨#[49, 48, 48, 48]⟩], .float .f64 4652007308841189376) :: M39
theorem M40_ok : ∀ q ∈ M40, PFact Tryz.prog Z 19 q.1 q.2.1 q.2.2 := List.forall_mem_cons.2 ⟨m40, M39_ok⟩
end Go.Proofs.YtelimgiehdfblaaGreatDoor.V
