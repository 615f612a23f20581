/- The kernel runs greater calls apart, on the small machine. Conditions: none. -/
import Derived.Test.YtiecjjcemnafaaaGreatDoorKs
namespace Go.Proofs.YtiecjjcemnafaaaGreatDoor.V
set_option linter.all false
open Go
set_option maxRecDepth 1000000
def M0 : List (FuncId × List Value × Value) := []
theorem M0_ok : ∀ q ∈ M0, PFact Tryz.prog Z 19 q.1 q.2.1 q.2.2 := fun q hq => by cases hq
theorem m1 : PFact Tryz.prog Z 19 48 [.int .u64 (1), .int .u64 (20)] (.tuple #[.int .u64 (0), .int .u64 (20)]) := fact_of_run (d := 60) (fuel := 100000) (mt := mt1) shut ext_ok noNum Tryz.checked.mixed (memo_ok M0_ok) rfl rfl (by kernel_rfl)
def M1 : List (FuncId × List Value × Value) := (48, [.int .u64 (1), .int .u64 (20)], .tuple #[.int .u64 (0), .int .u64 (20)]) :: M0
theorem M1_ok : ∀ q ∈ M1, PFact Tryz.prog Z 19 q.1 q.2.1 q.2.2 := List.forall_mem_cons.2 ⟨m1, M0_ok⟩
theorem m2 : PFact Tryz.prog Z 19 25 [.string ⟨#[48]⟩, .int .i64 (20)] (.string ⟨#[48, 48, 48, 48, 48, 48, 48, 48, 48, 48, 48, 48, 48, 48, 48, 48, 48, 48, 48, 48]⟩) := fact_of_run (d := 60) (fuel := 100000) (mt := mt1) shut ext_ok noNum Tryz.checked.mixed (memo_ok M1_ok) rfl rfl (by kernel_rfl)
def M2 : List (FuncId × List Value × Value) := (25, [.string ⟨#[48]⟩, .int .i64 (20)], .string ⟨#[48, 48, 48, 48, 48, 48, 48, 48, 48, 48, 48, 48, 48, 48, 48, 48, 48, 48, 48, 48]⟩) :: M1
theorem M2_ok : ∀ q ∈ M2, PFact Tryz.prog Z 19 q.1 q.2.1 q.2.2 := List.forall_mem_cons.2 ⟨m2, M1_ok⟩
theorem m3 : PFact Tryz.prog Z 19 48 [.int .u64 (1), .int .u64 (50)] (.tuple #[.int .u64 (0), .int .u64 (50)]) := fact_of_run (d := 60) (fuel := 100000) (mt := mt1) shut ext_ok noNum Tryz.checked.mixed (memo_ok M2_ok) rfl rfl (by kernel_rfl)
def M3 : List (FuncId × List Value × Value) := (48, [.int .u64 (1), .int .u64 (50)], .tuple #[.int .u64 (0), .int .u64 (50)]) :: M2
theorem M3_ok : ∀ q ∈ M3, PFact Tryz.prog Z 19 q.1 q.2.1 q.2.2 := List.forall_mem_cons.2 ⟨m3, M2_ok⟩
theorem m4 : PFact Tryz.prog Z 19 25 [.string ⟨#[48]⟩, .int .i64 (50)] (.string ⟨#[48, 48, 48, 48, 48, 48, 48, 48, 48, 48, 48, 48, 48, 48, 48, 48, 48, 48, 48, 48, 48, 48, 48, 48, 48, 48, 48, 48, 48, 48, 48, 48, 48, 48, 48, 48, 48, 48, 48, 48, 48, 48, 48, 48, 48, 48, 48, 48, 48, 48]⟩) := fact_of_run (d := 60) (fuel := 100000) (mt := mt1) shut ext_ok noNum Tryz.checked.mixed (memo_ok M3_ok) rfl rfl (by kernel_rfl)
def M4 : List (FuncId × List Value × Value) := (25, [.string ⟨#[48]⟩, .int .i64 (50)], .string ⟨#[48, 48, 48, 48, 48, 48, 48, 48, 48, 48, 48, 48, 48, 48, 48, 48, 48, 48, 48, 48, 48, 48, 48, 48, 48, 48, 48, 48, 48, 48, 48, 48, 48, 48, 48, 48, 48, 48, 48, 48, 48, 48, 48, 48, 48, 48, 48, 48, 48, 48]⟩) :: M3
theorem M4_ok : ∀ q ∈ M4, PFact Tryz.prog Z 19 q.1 q.2.1 q.2.2 := List.forall_mem_cons.2 ⟨m4, M3_ok⟩
theorem m5 : PFact Tryz.prog Z 19 271 [.string ⟨#[48, 48, 48, 48, 48, 48, 48, 48, 48, 48, 48, 48, 48, 48, 48, 48, 48, 48, 48, 48]⟩, .int .u8 (48)] (.string ⟨#[]⟩) := fact_of_run (d := 60) (fuel := 100000) (mt := mt1) shut ext_ok noNum Tryz.checked.mixed (memo_ok M4_ok) rfl rfl (by kernel_rfl)
def M5 : List (FuncId × List Value × Value) := (271, [.string ⟨#[48, 48, 48, 48, 48, 48, 48, 48, 48, 48, 48, 48, 48, 48, 48, 48, 48, 48, 48, 48]⟩, .int .u8 (48)], .string ⟨#[]⟩) :: M4
theorem M5_ok : ∀ q ∈ M5, PFact Tryz.prog Z 19 q.1 q.2.1 q.2.2 := List.forall_mem_cons.2 ⟨m5, M4_ok⟩
theorem m6 : PFact Tryz.prog Z 19 125 [.string ⟨#[49]⟩] (.tuple #[.string ⟨#[49]⟩, .int .i64 (0)]) := fact_of_run (d := 60) (fuel := 100000) (mt := mt1) shut ext_ok noNum Tryz.checked.mixed (memo_ok M5_ok) rfl rfl (by kernel_rfl)
def M6 : List (FuncId × List Value × Value) := (125, [.string ⟨#[49]⟩], .tuple #[.string ⟨#[49]⟩, .int .i64 (0)]) :: M5
theorem M6_ok : ∀ q ∈ M6, PFact Tryz.prog Z 19 q.1 q.2.1 q.2.2 := List.forall_mem_cons.2 ⟨m6, M5_ok⟩
theorem m7 : PFact Tryz.prog Z 19 55 [.agg #[.int .i64 (3), .string ⟨#[49]⟩]] (.bool true) := fact_of_run (d := 60) (fuel := 100000) (mt := mt1) shut ext_ok noNum Tryz.checked.mixed (memo_ok M6_ok) rfl rfl (by kernel_rfl)
def M7 : List (FuncId × List Value × Value) := (55, [.agg #[.int .i64 (3), .string ⟨#[49]⟩]], .bool true) :: M6
theorem M7_ok : ∀ q ∈ M7, PFact Tryz.prog Z 19 q.1 q.2.1 q.2.2 := List.forall_mem_cons.2 ⟨m7, M6_ok⟩
theorem m8 : PFact Tryz.prog Z 19 125 [.string ⟨#[51]⟩] (.tuple #[.string ⟨#[51]⟩, .int .i64 (0)]) := fact_of_run (d := 60) (fuel := 100000) (mt := mt1) shut ext_ok noNum Tryz.checked.mixed (memo_ok M7_ok) rfl rfl (by kernel_rfl)
def M8 : List (FuncId × List Value × Value) := (125, [.string ⟨#[51]⟩], .tuple #[.string ⟨#[51]⟩, .int .i64 (0)]) :: M7
theorem M8_ok : ∀ q ∈ M8, PFact Tryz.prog Z 19 q.1 q.2.1 q.2.2 := List.forall_mem_cons.2 ⟨m8, M7_ok⟩
theorem m9 : PFact Tryz.prog Z 19 55 [.agg #[.int .i64 (3), .string ⟨#[51]⟩]] (.bool true) := fact_of_run (d := 60) (fuel := 100000) (mt := mt1) shut ext_ok noNum Tryz.checked.mixed (memo_ok M8_ok) rfl rfl (by kernel_rfl)
def M9 : List (FuncId × List Value × Value) := (55, [.agg #[.int .i64 (3), .string ⟨#[51]⟩]], .bool true) :: M8
theorem M9_ok : ∀ q ∈ M9, PFact Tryz.prog Z 19 q.1 q.2.1 q.2.2 := List.forall_mem_cons.2 ⟨m9, M8_ok⟩
theorem m10 : PFact Tryz.prog Z 19 113 [.agg #[.int .i64 (3), .string ⟨#[49]⟩], .agg #[.int .i64 (3), .string ⟨#[51]⟩]] (.bool false) := fact_of_run (d := 60) (fuel := 100000) (mt := mt1) shut ext_ok noNum Tryz.checked.mixed (memo_ok M9_ok) rfl rfl (by kernel_rfl)
def M10 : List (FuncId × List Value × Value) := (113, [.agg #[.int .i64 (3), .string ⟨#[49]⟩], .agg #[.int .i64 (3), .string ⟨#[51]⟩]], .bool false) :: M9
theorem M10_ok : ∀ q ∈ M10, PFact Tryz.prog Z 19 q.1 q.2.1 q.2.2 := List.forall_mem_cons.2 ⟨m10, M9_ok⟩
theorem m11 : PFact Tryz.prog Z 19 125 [.string ⟨#[50]⟩] (.tuple #[.string ⟨#[50]⟩, .int .i64 (0)]) := fact_of_run (d := 60) (fuel := 100000) (mt := mt1) shut ext_ok noNum Tryz.checked.mixed (memo_ok M10_ok) rfl rfl (by kernel_rfl)
def M11 : List (FuncId × List Value × Value) := (125, [.string ⟨#[50]⟩], .tuple #[.string ⟨#[50]⟩, .int .i64 (0)]) :: M10
theorem M11_ok : ∀ q ∈ M11, PFact Tryz.prog Z 19 q.1 q.2.1 q.2.2 := List.forall_mem_cons.2 ⟨m11, M10_ok⟩
theorem m12 : PFact Tryz.prog Z 19 55 [.agg #[.int .i64 (3), .string ⟨#[50]⟩]] (.bool true) := fact_of_run (d := 60) (fuel := 100000) (mt := mt1) shut ext_ok noNum Tryz.checked.mixed (memo_ok M11_ok) rfl rfl (by kernel_rfl)
def M12 : List (FuncId × List Value × Value) := (55, [.agg #[.int .i64 (3), .string ⟨#[50]⟩]], .bool true) :: M11
theorem M12_ok : ∀ q ∈ M12, PFact Tryz.prog Z 19 q.1 q.2.1 q.2.2 := List.forall_mem_cons.2 ⟨m12, M11_ok⟩
theorem m13 : PFact Tryz.prog Z 19 125 [.string ⟨#[52]⟩] (.tuple #[.string ⟨#[52]⟩, .int .i64 (0)]) := fact_of_run (d := 60) (fuel := 100000) (mt := mt1) shut ext_ok noNum Tryz.checked.mixed (memo_ok M12_ok) rfl rfl (by kernel_rfl)
def M13 : List (FuncId × List Value × Value) := (125, [.string ⟨#[52]⟩], .tuple #[.string ⟨#[52]⟩, .int .i64 (0)]) :: M12
theorem M13_ok : ∀ q ∈ M13, PFact Tryz.prog Z 19 q.1 q.2.1 q.2.2 := List.forall_mem_cons.2 ⟨m13, M12_ok⟩
theorem m14 : PFact Tryz.prog Z 19 55 [.agg #[.int .i64 (3), .string ⟨#[52]⟩]] (.bool true) := fact_of_run (d := 60) (fuel := 100000) (mt := mt1) shut ext_ok noNum Tryz.checked.mixed (memo_ok M13_ok) rfl rfl (by kernel_rfl)
def M14 : List (FuncId × List Value × Value) := (55, [.agg #[.int .i64 (3), .string ⟨#[52]⟩]], .bool true) :: M13
theorem M14_ok : ∀ q ∈ M14, PFact Tryz.prog Z 19 q.1 q.2.1 q.2.2 := List.forall_mem_cons.2 ⟨m14, M13_ok⟩
theorem m15 : PFact Tryz.prog Z 19 138 [.string ⟨#[102]⟩] (.bool true) := fact_of_run (d := 60) (fuel := 100000) (mt := mt1) shut ext_ok noNum Tryz.checked.mixed (memo_ok M14_ok) rfl rfl (by kernel_rfl)
def M15 : List (FuncId × List Value × Value) := (138, [.string ⟨#[102]⟩], .bool true) :: M14
theorem M15_ok : ∀ q ∈ M15, PFact Tryz.prog Z 19 q.1 q.2.1 q.2.2 := List.forall_mem_cons.2 ⟨m15, M14_ok⟩
theorem m16 : PFact Tryz.prog Z 19 87 [.string ⟨#[102]⟩] (.bool true) := fact_of_run (d := 60) (fuel := 100000) (mt := mt1) shut ext_ok noNum Tryz.checked.mixed (memo_ok M15_ok) rfl rfl (by kernel_rfl)
def M16 : List (FuncId × List Value × Value) := (87, [.string ⟨#[102]⟩], .bool true) :: M15
theorem M16_ok : ∀ q ∈ M16, PFact Tryz.prog Z 19 q.1 q.2.1 q.2.2 := List.forall_mem_cons.2 ⟨m16, M15_ok⟩
theorem m17 : PFact Tryz.prog Z 19 113 [.agg #[.int .i64 (3), .string ⟨#[51]⟩], .agg #[.int .i64 (3), .string ⟨#[49]⟩]] (.bool false) := fact_of_run (d := 60) (fuel := 100000) (mt := mt1) shut ext_ok noNum Tryz.checked.mixed (memo_ok M16_ok) rfl rfl (by kernel_rfl)
def M17 : List (FuncId × List Value × Value) := (113, [.agg #[.int .i64 (3), .string ⟨#[51]⟩], .agg #[.int .i64 (3), .string ⟨#[49]⟩]], .bool false) :: M16
theorem M17_ok : ∀ q ∈ M17, PFact Tryz.prog Z 19 q.1 q.2.1 q.2.2 := List.forall_mem_cons.2 ⟨m17, M16_ok⟩
theorem m18 : PFact Tryz.prog Z 19 113 [.agg #[.int .i64 (3), .string ⟨#[49]⟩], .agg #[.int .i64 (3), .string ⟨#[49]⟩]] (.bool true) := fact_of_run (d := 60) (fuel := 100000) (mt := mt1) shut ext_ok noNum Tryz.checked.mixed (memo_ok M17_ok) rfl rfl (by kernel_rfl)
def M18 : List (FuncId × List Value × Value) := (113, [.agg #[.int .i64 (3), .string ⟨#[49]⟩], .agg #[.int .i64 (3), .string ⟨#[49]⟩]], .bool true) :: M17
theorem M18_ok : ∀ q ∈ M18, PFact Tryz.prog Z 19 q.1 q.2.1 q.2.2 := List.forall_mem_cons.2 ⟨m18, M17_ok⟩
end Go.Proofs.YtiecjjcemnafaaaGreatDoor.V
