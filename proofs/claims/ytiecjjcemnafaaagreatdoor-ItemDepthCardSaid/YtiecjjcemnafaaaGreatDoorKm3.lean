/- The kernel runs greater calls apart, on the small machine. Conditions: none. -/
import Derived.Test.YtiecjjcemnafaaaGreatDoorKm2
namespace Go.Proofs.YtiecjjcemnafaaaGreatDoor.V
set_option linter.all false
open Go
set_option maxRecDepth 1000000
theorem m23 : PFact Tryz.prog Z 19 250 [.string ⟨#[52]⟩, .string ⟨#[52]⟩] (.tuple #[.string ⟨#[48]⟩, .int .i64 (0)]) := fact_of_run (d := 60) (fuel := 100000) (mt := mt1) shut ext_ok noNum Tryz.checked.mixed (memo_ok M22_ok) rfl rfl (by kernel_rfl)
def M23 : List (FuncId × List Value × Value) := (250, [.string ⟨#[52]⟩, .string ⟨#[52]⟩], .tuple #[.string ⟨#[48]⟩, .int .i64 (0)]) :: M22
theorem M23_ok : ∀ q ∈ M23, PFact Tryz.prog Z 19 q.1 q.2.1 q.2.2 := List.forall_mem_cons.2 ⟨m23, M22_ok⟩
theorem m24 : PFact Tryz.prog Z 19 152 [.agg #[.int .i64 (3), .string ⟨#[52]⟩], .agg #[.int .i64 (3), .string ⟨#[52]⟩]] (.tuple #[.int .i64 (0), .bool false, .int .i64 (0)]) := fact_of_run (d := 60) (fuel := 100000) (mt := mt1) shut ext_ok noNum Tryz.checked.mixed (memo_ok M23_ok) rfl rfl (by kernel_rfl)
def M24 : List (FuncId × List Value × Value) := (152, [.agg #[.int .i64 (3), .string ⟨#[52]⟩], .agg #[.int .i64 (3), .string ⟨#[52]⟩]], .tuple #[.int .i64 (0), .bool false, .int .i64 (0)]) :: M23
theorem M24_ok : ∀ q ∈ M24, PFact Tryz.prog Z 19 q.1 q.2.1 q.2.2 := List.forall_mem_cons.2 ⟨m24, M23_ok⟩
theorem m25 : PFact Tryz.prog Z 19 108 [.string ⟨#[101, 113]⟩, .agg #[.int .i64 (3), .string ⟨#[52]⟩], .agg #[.int .i64 (3), .string ⟨#[52]⟩]] (.tuple #[.bool true, .int .i64 (0)]) := fact_of_run (d := 60) (fuel := 100000) (mt := mt1) shut ext_ok noNum Tryz.checked.mixed (memo_ok M24_ok) rfl rfl (by kernel_rfl)
def M25 : List (FuncId × List Value × Value) := (108, [.string ⟨#[101, 113]⟩, .agg #[.int .i64 (3), .string ⟨#[52]⟩], .agg #[.int .i64 (3), .string ⟨#[52]⟩]], .tuple #[.bool true, .int .i64 (0)]) :: M24
theorem M25_ok : ∀ q ∈ M25, PFact Tryz.prog Z 19 q.1 q.2.1 q.2.2 := List.forall_mem_cons.2 ⟨m25, M24_ok⟩
theorem m26 : PFact Tryz.prog Z 19 125 [.string ⟨#[48, 49]⟩] (.tuple #[.string ⟨#[49]⟩, .int .i64 (0)]) := fact_of_run (d := 60) (fuel := 100000) (mt := mt1) shut ext_ok noNum Tryz.checked.mixed (memo_ok M25_ok) rfl rfl (by kernel_rfl)
def M26 : List (FuncId × List Value × Value) := (125, [.string ⟨#[48, 49]⟩], .tuple #[.string ⟨#[49]⟩, .int .i64 (0)]) :: M25
theorem M26_ok : ∀ q ∈ M26, PFact Tryz.prog Z 19 q.1 q.2.1 q.2.2 := List.forall_mem_cons.2 ⟨m26, M25_ok⟩
theorem m27 : PFact Tryz.prog Z 19 55 [.agg #[.int .i64 (3), .string ⟨#[48, 49]⟩]] (.bool false) := fact_of_run (d := 60) (fuel := 100000) (mt := mt1) shut ext_ok noNum Tryz.checked.mixed (memo_ok M26_ok) rfl rfl (by kernel_rfl)
def M27 : List (FuncId × List Value × Value) := (55, [.agg #[.int .i64 (3), .string ⟨#[48, 49]⟩]], .bool false) :: M26
theorem M27_ok : ∀ q ∈ M27, PFact Tryz.prog Z 19 q.1 q.2.1 q.2.2 := List.forall_mem_cons.2 ⟨m27, M26_ok⟩
theorem m28 : PFact Tryz.prog Z 19 138 [.string ⟨#[97]⟩] (.bool true) := fact_of_run (d := 60) (fuel := 100000) (mt := mt1) shut ext_ok noNum Tryz.checked.mixed (memo_ok M27_ok) rfl rfl (by kernel_rfl)
def M28 : List (FuncId × List Value × Value) := (138, [.string ⟨#[97]⟩], .bool true) :: M27
theorem M28_ok : ∀ q ∈ M28, PFact Tryz.prog Z 19 q.1 q.2.1 q.2.2 := List.forall_mem_cons.2 ⟨m28, M27_ok⟩
theorem m29 : PFact Tryz.prog Z 19 87 [.string ⟨#[97]⟩] (.bool true) := fact_of_run (d := 60) (fuel := 100000) (mt := mt1) shut ext_ok noNum Tryz.checked.mixed (memo_ok M28_ok) rfl rfl (by kernel_rfl)
def M29 : List (FuncId × List Value × Value) := (87, [.string ⟨#[97]⟩], .bool true) :: M28
theorem M29_ok : ∀ q ∈ M29, PFact Tryz.prog Z 19 q.1 q.2.1 q.2.2 := List.forall_mem_cons.2 ⟨m29, M28_ok⟩
theorem m30 : PFact Tryz.prog Z 19 56 [.int .i64 (3), .string ⟨#[]⟩, .string ⟨#[120]⟩] (.bool true) := fact_of_run (d := 60) (fuel := 100000) (mt := mt1) shut ext_ok noNum Tryz.checked.mixed (memo_ok M29_ok) rfl rfl (by kernel_rfl)
def M30 : List (FuncId × List Value × Value) := (56, [.int .i64 (3), .string ⟨#[]⟩, .string ⟨#[120]⟩], .bool true) :: M29
theorem M30_ok : ∀ q ∈ M30, PFact Tryz.prog Z 19 q.1 q.2.1 q.2.2 := List.forall_mem_cons.2 ⟨m30, M29_ok⟩
theorem m31 : PFact Tryz.prog Z 19 138 [.string ⟨#[98]⟩] (.bool true) := fact_of_run (d := 60) (fuel := 100000) (mt := mt1) shut ext_ok noNum Tryz.checked.mixed (memo_ok M30_ok) rfl rfl (by kernel_rfl)
def M31 : List (FuncId × List Value × Value) := (138, [.string ⟨#[98]⟩], .bool true) :: M30
theorem M31_ok : ∀ q ∈ M31, PFact Tryz.prog Z 19 q.1 q.2.1 q.2.2 := List.forall_mem_cons.2 ⟨m31, M30_ok⟩
theorem m32 : PFact Tryz.prog Z 19 87 [.string ⟨#[98]⟩] (.bool true) := fact_of_run (d := 60) (fuel := 100000) (mt := mt1) shut ext_ok noNum Tryz.checked.mixed (memo_ok M31_ok) rfl rfl (by kernel_rfl)
def M32 : List (FuncId × List Value × Value) := (87, [.string ⟨#[98]⟩], .bool true) :: M31
theorem M32_ok : ∀ q ∈ M32, PFact Tryz.prog Z 19 q.1 q.2.1 q.2.2 := List.forall_mem_cons.2 ⟨m32, M31_ok⟩
theorem m33 : PFact Tryz.prog Z 19 56 [.int .i64 (3), .string ⟨#[]⟩, .string ⟨#[121]⟩] (.bool true) := fact_of_run (d := 60) (fuel := 100000) (mt := mt1) shut ext_ok noNum Tryz.checked.mixed (memo_ok M32_ok) rfl rfl (by kernel_rfl)
def M33 : List (FuncId × List Value × Value) := (56, [.int .i64 (3), .string ⟨#[]⟩, .string ⟨#[121]⟩], .bool true) :: M32
theorem M33_ok : ∀ q ∈ M33, PFact Tryz.prog Z 19 q.1 q.2.1 q.2.2 := List.forall_mem_cons.2 ⟨m33, M32_ok⟩
theorem m34 : PFact Tryz.prog Z 19 138 [.string ⟨#[49]⟩] (.bool false) := fact_of_run (d := 60) (fuel := 100000) (mt := mt1) shut ext_ok noNum Tryz.checked.mixed (memo_ok M33_ok) rfl rfl (by kernel_rfl)
def M34 : List (FuncId × List Value × Value) := (138, [.string ⟨#[49]⟩], .bool false) :: M33
theorem M34_ok : ∀ q ∈ M34, PFact Tryz.prog Z 19 q.1 q.2.1 q.2.2 := List.forall_mem_cons.2 ⟨m34, M33_ok⟩
theorem m35 : PFact Tryz.prog Z 19 87 [.string ⟨#[49]⟩] (.bool false) := fact_of_run (d := 60) (fuel := 100000) (mt := mt1) shut ext_ok noNum Tryz.checked.mixed (memo_ok M34_ok) rfl rfl (by kernel_rfl)
def M35 : List (FuncId × List Value × Value) := (87, [.string ⟨#[49]⟩], .bool false) :: M34
theorem M35_ok : ∀ q ∈ M35, PFact Tryz.prog Z 19 q.1 q.2.1 q.2.2 := List.forall_mem_cons.2 ⟨m35, M34_ok⟩
theorem m36 : PFact Tryz.prog Z 19 87 [.string ⟨#[]⟩] (.bool false) := fact_of_run (d := 60) (fuel := 100000) (mt := mt1) shut ext_ok noNum Tryz.checked.mixed (memo_ok M35_ok) rfl rfl (by kernel_rfl)
def M36 : List (FuncId × List Value × Value) := (87, [.string ⟨#[]⟩], .bool false) :: M35
theorem M36_ok : ∀ q ∈ M36, PFact Tryz.prog Z 19 q.1 q.2.1 q.2.2 := List.forall_mem_cons.2 ⟨m36, M35_ok⟩
theorem m37 : PFact Tryz.prog Z 19 113 [.agg #[.int .i64 (3), .string ⟨#[49]⟩], .agg #[.int .i64 (3), .string ⟨#[50]⟩]] (.bool false) := fact_of_run (d := 60) (fuel := 100000) (mt := mt1) shut ext_ok noNum Tryz.checked.mixed (memo_ok M36_ok) rfl rfl (by kernel_rfl)
def M37 : List (FuncId × List Value × Value) := (113, [.agg #[.int .i64 (3), .string ⟨#[49]⟩], .agg #[.int .i64 (3), .string ⟨#[50]⟩]], .bool false) :: M36
theorem M37_ok : ∀ q ∈ M37, PFact Tryz.prog Z 19 q.1 q.2.1 q.2.2 := List.forall_mem_cons.2 ⟨m37, M36_ok⟩
end Go.Proofs.YtiecjjcemnafaaaGreatDoor.V
