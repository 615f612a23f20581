/- The kernel runs greater calls apart, on the small machine. Conditions: none. -/
import Derived.Test.YtiecjjcemnafaaaGreatDoorKm3
namespace Go.Proofs.YtiecjjcemnafaaaGreatDoor.V
open Go
set_option maxRecDepth 1000000
theorem m38 : PFact Tryz.prog Z 19 125 [.string ⟨#[48]⟩] (.tuple #[.string ⟨#[48]⟩, .int .i64 (0)]) := fact_of_run (d := 60) (fuel := 100000) (mt := mt1) shut ext_ok noNum Tryz.checked.mixed (memo_ok M37_ok) rfl rfl (by kernel_rfl)
def M38 : List (FuncId × List Value × Value) := (125, [.string ⟨#[48]⟩], .tuple #[.string ⟨#[48]⟩, .int .i64 (0)]) :: M37
theorem M38_ok : ∀ q ∈ M38, PFact Tryz.prog Z 19 q.1 q.2.1 q.2.2 := List.forall_mem_cons.2 ⟨m38, M37_ok⟩
theorem m39 : PFact Tryz.prog Z 19 55 [.agg #[.int .i64 (3), .string ⟨#[48]⟩]] (.bool true) := fact_of_run (d := 60) (fuel := 100000) (mt := mt1) shut ext_ok noNum Tryz.checked.mixed (memo_ok M38_ok) rfl rfl (by kernel_rfl)
def M39 : List (FuncId × List Value × Value) := (55, [.agg #[.int .i64 (3), .string ⟨#[48]⟩]], .bool true) :: M38
theorem M39_ok : ∀ q ∈ M39, PFact Tryz.prog Z 19 q.1 q.2.1 q.2.2 := List.forall_mem_cons.2 ⟨m39, M38_ok⟩
theorem m40 : PFact Tryz.prog Z 19 166 [.string ⟨#[45, 48]⟩] (.bool true) := fact_of_run (d := 60) (fuel := 100000) (mt := mt1) shut ext_ok noNum Tryz.checked.mixed (memo_ok M39_ok) rfl rfl (by kernel_rfl)
def M40 : List (FuncId × List Value × Value) := (166, [.string ⟨#[45, 48]⟩], .bool true) :: M39
theorem M40_ok : ∀ q ∈ M40, PFact Tryz.prog Z 19 q.1 q.2.1 q.2.2 := List.forall_mem_cons.2 ⟨m40, M39_ok⟩
theorem m41 : PFact Tryz.prog Z 19 232 [.string ⟨#[48]⟩] (.tuple #[.int .i64 (0), .nilIface]) := fact_of_run (d := 60) (fuel := 100000) (mt := mt1) shut ext_ok noNum Tryz.checked.mixed (memo_ok M40_ok) rfl rfl (by kernel_rfl)
def M41 : List (FuncId × List Value × Value) := (232, [.string ⟨#[48]⟩], .tuple #[.int .i64 (0), .nilIface]) :: M40
theorem M41_ok : ∀ q ∈ M41, PFact Tryz.prog Z 19 q.1 q.2.1 q.2.2 := List.forall_mem_cons.2 ⟨m41, M40_ok⟩
theorem m42 : PFact Tryz.prog Z 19 379 [.string ⟨#[48, 46, 101, 48]⟩] (.tuple #[.int .u64 (0), .int .i64 (0), .bool false, .bool false, .bool false, .int .i64 (4), .bool true]) := fact_of_run (d := 60) (fuel := 100000) (mt := mt1) shut ext_ok noNum Tryz.checked.mixed (memo_ok M41_ok) rfl rfl (by kernel_rfl)
def M42 : List (FuncId × List Value × Value) := (379, [.string ⟨#[48, 46, 101, 48]⟩], .tuple #[.int .u64 (0), .int .i64 (0), .bool false, .bool false, .bool false, .int .i64 (4), .bool true]) :: M41
theorem M42_ok : ∀ q ∈ M42, PFact Tryz.prog Z 19 q.1 q.2.1 q.2.2 := List.forall_mem_cons.2 ⟨m42, M41_ok⟩
theorem m43 : PFact Tryz.prog Z 19 353 [.string ⟨#[48, 46, 101, 48]⟩] (.tuple #[.float .f64 0, .int .i64 (4), .nilIface]) := fact_of_run (d := 60) (fuel := 100000) (mt := mt1) shut ext_ok noNum Tryz.checked.mixed (memo_ok M42_ok) rfl rfl (by kernel_rfl)
def M43 : List (FuncId × List Value × Value) := (353, [.string ⟨#[48, 46, 101, 48]⟩], .tuple #[.float .f64 0, .int .i64 (4), .nilIface]) :: M42
theorem M43_ok : ∀ q ∈ M43, PFact Tryz.prog Z 19 q.1 q.2.1 q.2.2 := List.forall_mem_cons.2 ⟨m43, M42_ok⟩
theorem m44 : PFact Tryz.prog Z 19 167 [.string ⟨#[45, 48]⟩] (.float .f64 9223372036854775808) := fact_of_run (d := 60) (fuel := 100000) (mt := mt1) shut ext_ok noNum Tryz.checked.mixed (memo_ok M43_ok) rfl rfl (by kernel_rfl)
def M44 : List (FuncId × List Value × Value) := (167, [.string ⟨#[45, 48]⟩], .float .f64 9223372036854775808) :: M43
theorem M44_ok : ∀ q ∈ M44, PFact Tryz.prog Z 19 q.1 q.2.1 q.2.2 := List.forall_mem_cons.2 ⟨m44, M43_ok⟩
theorem m45 : PFact Tryz.prog Z 19 127 [.string ⟨#[45, 48]⟩] (.tuple #[.float .f64 9223372036854775808, .bool true]) := fact_of_run (d := 60) (fuel := 100000) (mt := mt1) shut ext_ok noNum Tryz.checked.mixed (memo_ok M44_ok) rfl rfl (by kernel_rfl)
def M45 : List (FuncId × List Value × Value) := (127, [.string ⟨#[45, 48]⟩], .tuple #[.float .f64 9223372036854775808, .bool true]) :: M44
theorem M45_ok : ∀ q ∈ M45, PFact Tryz.prog Z 19 q.1 q.2.1 q.2.2 := List.forall_mem_cons.2 ⟨m45, M44_ok⟩
theorem m46 : PFact Tryz.prog Z 19 126 [.string ⟨#[45, 48]⟩] (.tuple #[.string ⟨#[45, 48]⟩, .bool true]) := fact_of_run (d := 60) (fuel := 100000) (mt := mt1) shut ext_ok noNum Tryz.checked.mixed (memo_ok M45_ok) rfl rfl (by kernel_rfl)
def M46 : List (FuncId × List Value × Value) := (126, [.string ⟨#[45, 48]⟩], .tuple #[.string ⟨#[45, 48]⟩, .bool true]) :: M45
theorem M46_ok : ∀ q ∈ M46, PFact Tryz.prog Z 19 q.1 q.2.1 q.2.2 := List.forall_mem_cons.2 ⟨m46, M45_ok⟩
theorem m47 : PFact Tryz.prog Z 19 55 [.agg #[.int .i64 (1), .string ⟨#[48]⟩]] (.bool true) := fact_of_run (d := 60) (fuel := 100000) (mt := mt1) shut ext_ok noNum Tryz.checked.mixed (memo_ok M46_ok) rfl rfl (by kernel_rfl)
def M47 : List (FuncId × List Value × Value) := (55, [.agg #[.int .i64 (1), .string ⟨#[48]⟩]], .bool true) :: M46
theorem M47_ok : ∀ q ∈ M47, PFact Tryz.prog Z 19 q.1 q.2.1 q.2.2 := List.forall_mem_cons.2 ⟨m47, M46_ok⟩
theorem m48 : PFact Tryz.prog Z 19 48 [.int .u64 (1), .int .u64 (6)] (.tuple #[.int .u64 (0), .int .u64 (6)]) := fact_of_run (d := 60) (fuel := 100000) (mt := mt1) shut ext_ok noNum Tryz.checked.mixed (memo_ok M47_ok) rfl rfl (by kernel_rfl)
def M48 : List (FuncId × List Value × Value) := (48, [.int .u64 (1), .int .u64 (6)], .tuple #[.int .u64 (0), .int .u64 (6)]) :: M47
theorem M48_ok : ∀ q ∈ M48, PFact Tryz.prog Z 19 q.1 q.2.1 q.2.2 := List.forall_mem_cons.2 ⟨m48, M47_ok⟩
theorem m49 : PFact Tryz.prog Z 19 25 [.string ⟨#[48]⟩, .int .i64 (6)] (.string ⟨#[48, 48, 48, 48, 48, 48]⟩) := fact_of_run (d := 60) (fuel := 100000) (mt := mt1) shut ext_ok noNum Tryz.checked.mixed (memo_ok M48_ok) rfl rfl (by kernel_rfl)
def M49 : List (FuncId × List Value × Value) := (25, [.string ⟨#[48]⟩, .int .i64 (6)], .string ⟨#[48, 48, 48, 48, 48, 48]⟩) :: M48
theorem M49_ok : ∀ q ∈ M49, PFact Tryz.prog Z 19 q.1 q.2.1 q.2.2 := List.forall_mem_cons.2 ⟨m49, M48_ok⟩
theorem m50 : PFact Tryz.prog Z 19 232 [.string ⟨#[48, 48, 48, 48, 48, 48, 48]⟩] (.tuple #[.int .i64 (0), .nilIface]) := fact_of_run (d := 60) (fuel := 100000) (mt := mt1) shut ext_ok noNum Tryz.checked.mixed (memo_ok M49_ok) rfl rfl (by kernel_rfl)
def M50 : List (FuncId × List Value × Value) := (232, [.string ⟨#[48, 48, 48, 48, 48, 48, 48]⟩], .tuple #[.int .i64 (0), .nilIface]) :: M49
theorem M50_ok : ∀ q ∈ M50, PFact Tryz.prog Z 19 q.1 q.2.1 q.2.2 := List.forall_mem_cons.2 ⟨m50, M49_ok⟩
theorem m51 : PFact Tryz.prog Z 19 301 [.string ⟨#[48]⟩] (.tuple #[.int .i64 (0), .bool true]) := fact_of_run (d := 60) (fuel := 100000) (mt := mt1) shut ext_ok noNum Tryz.checked.mixed (memo_ok M50_ok) rfl rfl (by kernel_rfl)
def M51 : List (FuncId × List Value × Value) := (301, [.string ⟨#[48]⟩], .tuple #[.int .i64 (0), .bool true]) :: M50
theorem M51_ok : ∀ q ∈ M51, PFact Tryz.prog Z 19 q.1 q.2.1 q.2.2 := List.forall_mem_cons.2 ⟨m51, M50_ok⟩
theorem m52 : PFact Tryz.prog Z 19 237 [.agg #[.int .i64 (2000), .int .i64 (1), .int .i64 (1), .int .i64 (0), .int .i64 (0), .string ⟨#[48]⟩, .int .i64 (0), .bool false]] (.bool true) := fact_of_run (d := 60) (fuel := 100000) (mt := mt1) shut ext_ok noNum Tryz.checked.mixed (memo_ok M51_ok) rfl rfl (by kernel_rfl)
def M52 : List (FuncId × List Value × Value) := (237, [.agg #[.int .i64 (2000), .int .i64 (1), .int .i64 (1), .int .i64 (0), .int .i64 (0), .string ⟨#[48]⟩, .int .i64 (0), .bool false]], .bool true) :: M51
theorem M52_ok : ∀ q ∈ M52, PFact Tryz.prog Z 19 q.1 q.2.1 q.2.2 := List.forall_mem_cons.2 ⟨m52, M51_ok⟩
theorem m53 : PFact Tryz.prog Z 19 236 [.int .i64 (6), .string ⟨#[50, 48, 48, 48, 45, 48, 49, 45, 48, 49]⟩] (.tuple #[.agg #[.int .i64 (2000), .int .i64 (1), .int .i64 (1), .int .i64 (0), .int .i64 (0), .string ⟨#[48]⟩, .int .i64 (0), .bool false], .int .i64 (0)]) := fact_of_run (d := 60) (fuel := 100000) (mt := mt1) shut ext_ok noNum Tryz.checked.mixed (memo_ok M52_ok) rfl rfl (by kernel_rfl)
def M53 : List (FuncId × List Value × Value) := (236, [.int .i64 (6), .string ⟨#[50, 48, 48, 48, 45, 48, 49, 45, 48, 49]⟩], .tuple #[.agg #[.int .i64 (2000), .int .i64 (1), .int .i64 (1), .int .i64 (0), .int .i64 (0), .string ⟨#[48]⟩, .int .i64 (0), .bool false], .int .i64 (0)]) :: M52
theorem M53_ok : ∀ q ∈ M53, PFact Tryz.prog Z 19 q.1 q.2.1 q.2.2 := List.forall_mem_cons.2 ⟨m53, M52_ok⟩
theorem m54 : PFact Tryz.prog Z 19 174 [.int .i64 (6), .string ⟨#[50, 48, 48, 48, 45, 48, 49, 45, 48, 49]⟩] (.tuple #[.agg #[.int .i64 (2000), .int .i64 (1), .int .i64 (1), .int .i64 (0), .int .i64 (0), .string ⟨#[48]⟩, .int .i64 (0), .bool false], .int .i64 (0)]) := fact_of_runX (pt := fun _ => false) (d := 60) (fuel := 100000) (mt := mt1) shut ext_ok noNum Tryz.checked.mixed (memo_ok M53_ok) rfl rfl (by kernel_rfl)
def M54 : List (FuncId × List Value × Value) := (174, [.int .i64 (6), .string ⟨#[50, 48, 48, 48, 45, 48, 49, 45, 48, 49]⟩], .tuple #[.agg #[.int .i64 (2000), .int .i64 (1), .int .i64 (1), .int .i64 (0), .int .i64 (0), .string ⟨#[48]⟩, .int .i64 (0), .bool false], .int .i64 (0)]) :: M53
theorem M54_ok : ∀ q ∈ M54, PFact Tryz.prog Z 19 q.1 q.2.1 q.2.2 := List.forall_mem_cons.2 ⟨m54, M53_ok⟩
theorem m55 : PFact Tryz.prog Z 19 293 [.int .i64 (2000), .int .i64 (10)] (.string ⟨#[50, 48, 48, 48]⟩) := fact_of_run (d := 60) (fuel := 100000) (mt := mt1) shut ext_ok noNum Tryz.checked.mixed (memo_ok M54_ok) rfl rfl (by kernel_rfl)
def M55 : List (FuncId × List Value × Value) := (293, [.int .i64 (2000), .int .i64 (10)], .string ⟨#[50, 48, 48, 48]⟩) :: M54
theorem M55_ok : ∀ q ∈ M55, PFact Tryz.prog Z 19 q.1 q.2.1 q.2.2 := List.forall_mem_cons.2 ⟨m55, M54_ok⟩
theorem m56 : PFact Tryz.prog Z 19 175 [.int .i64 (6), .agg #[.int .i64 (2000), .int .i64 (1), .int .i64 (1), .int .i64 (0), .int .i64 (0), .string ⟨#[48]⟩, .int .i64 (0), .bool false]] (.tuple #[.string ⟨#[50, 48, 48, 48, 45, 48, 49, 45, 48, 49]⟩, .int .i64 (0)]) := fact_of_run (d := 60) (fuel := 100000) (mt := mt1) shut ext_ok noNum Tryz.checked.mixed (memo_ok M55_ok) rfl rfl (by kernel_rfl)
def M56 : List (FuncId × List Value × Value) := (175, [.int .i64 (6), .agg #[.int .i64 (2000), .int .i64 (1), .int .i64 (1), .int .i64 (0), .int .i64 (0), .string ⟨#[48]⟩, .int .i64 (0), .bool false]], .tuple #[.string ⟨#[50, 48, 48, 48, 45, 48, 49, 45, 48, 49]⟩, .int .i64 (0)]) :: M55
theorem M56_ok : ∀ q ∈ M56, PFact Tryz.prog Z 19 q.1 q.2.1 q.2.2 := List.forall_mem_cons.2 ⟨m56, M55_ok⟩
theorem m57 : PFact Tryz.prog Z 19 55 [.agg #[.int .i64 (6), .string ⟨#[50, 48, 48, 48, 45, 48, 49, 45, 48, 49]⟩]] (.bool true) := fact_of_run (d := 60) (fuel := 100000) (mt := mt1) shut ext_ok noNum Tryz.checked.mixed (memo_ok M56_ok) rfl rfl (by kernel_rfl)
def M57 : List (FuncId × List Value × Value) := (55, [.agg #[.int .i64 (6), .string ⟨#[50, 48, 48, 48, 45, 48, 49, 45, 48, 49]⟩]], .bool true) :: M56
theorem M57_ok : ∀ q ∈ M57, PFact Tryz.prog Z 19 q.1 q.2.1 q.2.2 := List.forall_mem_cons.2 ⟨m57, M56_ok⟩
theorem m58 : PFact Tryz.prog Z 19 127 [.string ⟨#[78, 97, 78]⟩] (.tuple #[.float .f64 9221120237041090561, .bool true]) := fact_of_run (d := 60) (fuel := 100000) (mt := mt1) shut ext_ok noNum Tryz.checked.mixed (memo_ok M57_ok) rfl rfl (by kernel_rfl)
def M58 : List (FuncId × List Value × Value) := (127, [.string ⟨#[78, 97, 78]⟩], .tuple #[.float .f64 9221120237041090561, .bool true]) :: M57
theorem M58_ok : ∀ q ∈ M58, PFact Tryz.prog Z 19 q.1 q.2.1 q.2.2 := List.forall_mem_cons.2 ⟨m58, M57_ok⟩
theorem m59 : PFact Tryz.prog Z 19 55 [.agg #[.int .i64 (5), .string ⟨#[78, 97, 78]⟩]] (.bool true) := fact_of_run (d := 60) (fuel := 100000) (mt := mt1) shut ext_ok noNum Tryz.checked.mixed (memo_ok M58_ok) rfl rfl (by kernel_rfl)
def M59 : List (FuncId × List Value × Value) := (55, [.agg #[.int .i64 (5), .string ⟨#[78, 97, 78]⟩]], .bool true) :: M58
theorem M59_ok : ∀ q ∈ M59, PFact Tryz.prog Z 19 q.1 q.2.1 q.2.2 := List.forall_mem_cons.2 ⟨m59, M58_ok⟩
theorem m60 : PFact Tryz.prog Z 19 34 [.agg #[.int .i64 (0), .int .i64 (1)], .agg #[.int .i64 (0), .int .i64 (3)]] (.int .i64 (-1)) := fact_of_run (d := 60) (fuel := 100000) (mt := mt1) shut ext_ok noNum Tryz.checked.mixed (memo_ok M59_ok) rfl rfl (by kernel_rfl)
def M60 : List (FuncId × List Value × Value) := (34, [.agg #[.int .i64 (0), .int .i64 (1)], .agg #[.int .i64 (0), .int .i64 (3)]], .int .i64 (-1)) :: M59
theorem M60_ok : ∀ q ∈ M60, PFact Tryz.prog Z 19 q.1 q.2.1 q.2.2 := List.forall_mem_cons.2 ⟨m60, M59_ok⟩
theorem m61 : PFact Tryz.prog Z 19 34 [.agg #[.int .i64 (0), .int .i64 (3)], .agg #[.int .i64 (0), .int .i64 (3)]] (.int .i64 (0)) := fact_of_run (d := 60) (fuel := 100000) (mt := mt1) shut ext_ok noNum Tryz.checked.mixed (memo_ok M60_ok) rfl rfl (by kernel_rfl)
def M61 : List (FuncId × List Value × Value) := (34, [.agg #[.int .i64 (0), .int .i64 (3)], .agg #[.int .i64 (0), .int .i64 (3)]], .int .i64 (0)) :: M60
theorem M61_ok : ∀ q ∈ M61, PFact Tryz.prog Z 19 q.1 q.2.1 q.2.2 := List.forall_mem_cons.2 ⟨m61, M60_ok⟩
theorem m62 : PFact Tryz.prog Z 19 34 [.agg #[.int .i64 (1), .int .i64 (0)], .agg #[.int .i64 (0), .int .i64 (3)]] (.int .i64 (1)) := fact_of_run (d := 60) (fuel := 100000) (mt := mt1) shut ext_ok noNum Tryz.checked.mixed (memo_ok M61_ok) rfl rfl (by kernel_rfl)
def M62 : List (FuncId × List Value × Value) := (34, [.agg #[.int .i64 (1), .int .i64 (0)], .agg #[.int .i64 (0), .int .i64 (3)]], .int .i64 (1)) :: M61
theorem M62_ok : ∀ q ∈ M62, PFact Tryz.prog Z 19 q.1 q.2.1 q.2.2 := List.forall_mem_cons.2 ⟨m62, M61_ok⟩
theorem m63 : PFact Tryz.prog Z 19 166 [.string ⟨#[49]⟩] (.bool true) := fact_of_run (d := 60) (fuel := 100000) (mt := mt1) shut ext_ok noNum Tryz.checked.mixed (memo_ok M62_ok) rfl rfl (by kernel_rfl)
def M63 : List (FuncId × List Value × Value) := (166, [.string ⟨#[49]⟩], .bool true) :: M62
theorem M63_ok : ∀ q ∈ M63, PFact Tryz.prog Z 19 q.1 q.2.1 q.2.2 := List.forall_mem_cons.2 ⟨m63, M62_ok⟩
theorem m64 : PFact Tryz.prog Z 19 379 [.string ⟨#[48, 46, 49, 101, 49]⟩] (.tuple #[.int .u64 (1), .int .i64 (0), .bool false, .bool false, .bool false, .int .i64 (5), .bool true]) := fact_of_run (d := 60) (fuel := 100000) (mt := mt1) shut ext_ok noNum Tryz.checked.mixed (memo_ok M63_ok) rfl rfl (by kernel_rfl)
def M64 : List (FuncId × List Value × Value) := (379, [.string ⟨#[48, 46, 49, 101, 49]⟩], .tuple #[.int .u64 (1), .int .i64 (0), .bool false, .bool false, .bool false, .int .i64 (5), .bool true]) :: M63
theorem M64_ok : ∀ q ∈ M64, PFact Tryz.prog Z 19 q.1 q.2.1 q.2.2 := List.forall_mem_cons.2 ⟨m64, M63_ok⟩
theorem m65 : PFact Tryz.prog Z 19 353 [.string ⟨#[48, 46, 49, 101, 49]⟩] (.tuple #[.float .f64 4607182418800017408, .int .i64 (5), .nilIface]) := fact_of_run (d := 60) (fuel := 100000) (mt := mt1) shut ext_ok noNum Tryz.checked.mixed (memo_ok M64_ok) rfl rfl (by kernel_rfl)
def M65 : List (FuncId × List Value × Value) := (353, [.string ⟨#[48, 46, 49, 101, 49]⟩], .tuple #[.float .f64 4607182418800017408, .int .i64 (5), .nilIface]) :: M64
theorem M65_ok : ∀ q ∈ M65, PFact Tryz.prog Z 19 q.1 q.2.1 q.2.2 := List.forall_mem_cons.2 ⟨m65, M64_ok⟩
theorem m66 : PFact Tryz.prog Z 19 167 [.string ⟨#[49]⟩] (.float .f64 4607182418800017408) := fact_of_run (d := 60) (fuel := 100000) (mt := mt1) shut ext_ok noNum Tryz.checked.mixed (memo_ok M65_ok) rfl rfl (by kernel_rfl)
def M66 : List (FuncId × List Value × Value) := (167, [.string ⟨#[49]⟩], .float .f64 4607182418800017408) :: M65
theorem M66_ok : ∀ q ∈ M66, PFact Tryz.prog Z 19 q.1 q.2.1 q.2.2 := List.forall_mem_cons.2 ⟨m66, M65_ok⟩
theorem m67 : PFact Tryz.prog Z 19 127 [.string ⟨#[49]⟩] (.tuple #[.float .f64 4607182418800017408, .bool true]) := fact_of_run (d := 60) (fuel := 100000) (mt := mt1) shut ext_ok noNum Tryz.checked.mixed (memo_ok M66_ok) rfl rfl (by kernel_rfl)
def M67 : List (FuncId × List Value × Value) := (127, [.string ⟨#[49]⟩], .tuple #[.float .f64 4607182418800017408, .bool true]) :: M66
theorem M67_ok : ∀ q ∈ M67, PFact Tryz.prog Z 19 q.1 q.2.1 q.2.2 := List.forall_mem_cons.2 ⟨m67, M66_ok⟩
theorem m68 : PFact Tryz.prog Z 19 337 [.int .u64 (9223372036854775808), .int .i64 (-63)] (.tuple #[.int .u64 (1000000000000000), .int .i64 (-15)]) := fact_of_run (d := 60) (fuel := 100000) (mt := mt1) shut ext_ok noNum Tryz.checked.mixed (memo_ok M67_ok) rfl rfl (by kernel_rfl)
def M68 : List (FuncId × List Value × Value) := (337, [.int .u64 (9223372036854775808), .int .i64 (-63)], .tuple #[.int .u64 (1000000000000000), .int .i64 (-15)]) :: M67
theorem M68_ok : ∀ q ∈ M68, PFact Tryz.prog Z 19 q.1 q.2.1 q.2.2 := List.forall_mem_cons.2 ⟨m68, M67_ok⟩
theorem m69 : PFact Tryz.prog Z 19 231 [.float .f64 4607182418800017408, .int .u8 (102), .int .i64 (-1), .int .i64 (64)] (.string ⟨#[49]⟩) := fact_of_run (d := 60) (fuel := 100000) (mt := mt1) shut ext_ok noNum Tryz.checked.mixed (memo_ok M68_ok) rfl rfl (by kernel_rfl)
def M69 : List (FuncId × List Value × Value) := (231, [.float .f64 4607182418800017408, .int .u8 (102), .int .i64 (-1), .int .i64 (64)], .string ⟨#[49]⟩) :: M68
theorem M69_ok : ∀ q ∈ M69, PFact Tryz.prog Z 19 q.1 q.2.1 q.2.2 := List.forall_mem_cons.2 ⟨m69, M68_ok⟩
theorem m70 : PFact Tryz.prog Z 19 126 [.string ⟨#[49]⟩] (.tuple #[.string ⟨#[49]⟩, .bool true]) := fact_of_run (d := 60) (fuel := 100000) (mt := mt1) shut ext_ok noNum Tryz.checked.mixed (memo_ok M69_ok) rfl rfl (by kernel_rfl)
def M70 : List (FuncId × List Value × Value) := (126, [.string ⟨#[49]⟩], .tuple #[.string ⟨#[49]⟩, .bool true]) :: M69
theorem M70_ok : ∀ q ∈ M70, PFact Tryz.prog Z 19 q.1 q.2.1 q.2.2 := List.forall_mem_cons.2 ⟨m70, M69_ok⟩
theorem m71 : PFact Tryz.prog Z 19 152 [.agg #[.int .i64 (5), .string ⟨#[78, 97, 78]⟩], .agg #[.int .i64 (5), .string ⟨#[78, 97, 78]⟩]] (.tuple #[.int .i64 (0), .bool true, .int .i64 (0)]) := fact_of_run (d := 60) (fuel := 100000) (mt := mt1) shut ext_ok noNum Tryz.checked.mixed (memo_ok M70_ok) rfl rfl (by kernel_rfl)
def M71 : List (FuncId × List Value × Value) := (152, [.agg #[.int .i64 (5), .string ⟨#[78, 97, 78]⟩], .agg #[.int .i64 (5), .string ⟨#[78, 97, 78]⟩]], .tuple #[.int .i64 (0), .bool true, .int .i64 (0)]) :: M70
theorem M71_ok : ∀ q ∈ M71, PFact Tryz.prog Z 19 q.1 q.2.1 q.2.2 := List.forall_mem_cons.2 ⟨m71, M70_ok⟩
theorem m72 : PFact Tryz.prog Z 19 379 [.string ⟨#[49]⟩] (.tuple #[.int .u64 (1), .int .i64 (0), .bool false, .bool false, .bool false, .int .i64 (1), .bool true]) := fact_of_run (d := 60) (fuel := 100000) (mt := mt1) shut ext_ok noNum Tryz.checked.mixed (memo_ok M71_ok) rfl rfl (by kernel_rfl)
def M72 : List (FuncId × List Value × Value) := (379, [.string ⟨#[49]⟩], .tuple #[.int .u64 (1), .int .i64 (0), .bool false, .bool false, .bool false, .int .i64 (1), .bool true]) :: M71
theorem M72_ok : ∀ q ∈ M72, PFact Tryz.prog Z 19 q.1 q.2.1 q.2.2 := List.forall_mem_cons.2 ⟨m72, M71_ok⟩
theorem m73 : PFact Tryz.prog Z 19 353 [.string ⟨#[49]⟩] (.tuple #[.float .f64 4607182418800017408, .int .i64 (1), .nilIface]) := fact_of_run (d := 60) (fuel := 100000) (mt := mt1) shut ext_ok noNum Tryz.checked.mixed (memo_ok M72_ok) rfl rfl (by kernel_rfl)
def M73 : List (FuncId × List Value × Value) := (353, [.string ⟨#[49]⟩], .tuple #[.float .f64 4607182418800017408, .int .i64 (1), .nilIface]) :: M72
theorem M73_ok : ∀ q ∈ M73, PFact Tryz.prog Z 19 q.1 q.2.1 q.2.2 := List.forall_mem_cons.2 ⟨m73, M72_ok⟩
theorem m74 : PFact Tryz.prog Z 19 209 [.string ⟨#[49]⟩] (.tuple #[.float .f64 4607182418800017408, .int .i64 (0)]) := fact_of_run (d := 60) (fuel := 100000) (mt := mt1) shut ext_ok noNum Tryz.checked.mixed (memo_ok M73_ok) rfl rfl (by kernel_rfl)
def M74 : List (FuncId × List Value × Value) := (209, [.string ⟨#[49]⟩], .tuple #[.float .f64 4607182418800017408, .int .i64 (0)]) :: M73
theorem M74_ok : ∀ q ∈ M74, PFact Tryz.prog Z 19 q.1 q.2.1 q.2.2 := List.forall_mem_cons.2 ⟨m74, M73_ok⟩
theorem m75 : PFact Tryz.prog Z 19 152 [.agg #[.int .i64 (3), .string ⟨#[49]⟩], .agg #[.int .i64 (5), .string ⟨#[49]⟩]] (.tuple #[.int .i64 (0), .bool false, .int .i64 (0)]) := fact_of_run (d := 60) (fuel := 100000) (mt := mt1) shut ext_ok noNum Tryz.checked.mixed (memo_ok M74_ok) rfl rfl (by kernel_rfl)
def M75 : List (FuncId × List Value × Value) := (152, [.agg #[.int .i64 (3), .string ⟨#[49]⟩], .agg #[.int .i64 (5), .string ⟨#[49]⟩]], .tuple #[.int .i64 (0), .bool false, .int .i64 (0)]) :: M74
theorem M75_ok : ∀ q ∈ M75, PFact Tryz.prog Z 19 q.1 q.2.1 q.2.2 := List.forall_mem_cons.2 ⟨m75, M74_ok⟩
theorem m76 : PFact Tryz.prog Z 19 108 [.string ⟨#[101, 113]⟩, .agg #[.int .i64 (3), .string ⟨#[49]⟩], .agg #[.int .i64 (5), .string ⟨#[49]⟩]] (.tuple #[.bool true, .int .i64 (0)]) := fact_of_run (d := 60) (fuel := 100000) (mt := mt1) shut ext_ok noNum Tryz.checked.mixed (memo_ok M75_ok) rfl rfl (by kernel_rfl)
def M76 : List (FuncId × List Value × Value) := (108, [.string ⟨#[101, 113]⟩, .agg #[.int .i64 (3), .string ⟨#[49]⟩], .agg #[.int .i64 (5), .string ⟨#[49]⟩]], .tuple #[.bool true, .int .i64 (0)]) :: M75
theorem M76_ok : ∀ q ∈ M76, PFact Tryz.prog Z 19 q.1 q.2.1 q.2.2 := List.forall_mem_cons.2 ⟨m76, M75_ok⟩
end Go.Proofs.YtiecjjcemnafaaaGreatDoor.V
