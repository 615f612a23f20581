/- The kernel runs greater calls apart, on the small machine. Conditions: none. -/
import Derived.Test.YtelimgiehdfblaaGreatDoorKm6
namespace Go.Proofs.YtelimgiehdfblaaGreatDoor.V
set_option linter.all false
open Go
set_option maxRecDepth 1000000
theorem m41 : PFact Tryz.prog Z 19 128 [.string ⟨#[49, 48, 48, 48]⟩] (.tuple #[.string ⟨#[49, 48, 48, 48]⟩, .bool true]) := fact_of_run (d := 60) (fuel := 100000) (mt := mt1) shut ext_ok noNum Tryz.checked.mixed (memo_ok M40_ok) rfl rfl (by kernel_rfl)
def M41 : List (FuncId × List Value × Value) := (128, [.string ⟨#[49, 48, 48, 48]⟩], .tuple #[.string ⟨#[49, 48, 48, 48]⟩, .bool true]) :: M40
theorem M41_ok : ∀ q ∈ M41, PFact Tryz.prog Z 19 q.1 q.2.1 q.2.2 := List.forall_mem_cons.2 ⟨m41, M40_ok⟩
theorem m42 : PFact Tryz.prog Z 19 49 [.agg #[.int .i64 (1), .string ⟨#[49, 48, 48, 48]⟩], .int .i64 (5)] (.tuple #[.agg #[.int .i64 (5), .string ⟨#[49, 48, 48, 48]⟩], .int .i64 (0)]) := fact_of_run (d := 60) (fuel := 100000) (mt := mt1) shut ext_ok noNum Tryz.checked.mixed (memo_ok M41_ok) rfl rfl (by kernel_rfl)
def M42 : List (FuncId × List Value × Value) := (49, [.agg #[.int .i64 (1), .string ⟨#[49, 48, 48, 48]⟩], .int .i64 (5)], .tuple #[.agg #[.int .i64 (5), .string ⟨#[49, 48, 48, 48]⟩], .int .i64 (0)]) :: M41
theorem M42_ok : ∀ q ∈ M42, PFact Tryz.prog Z 19 q.1 q.2.1 q.2.2 := List.forall_mem_cons.2 ⟨m42, M41_ok⟩
theorem m43 : PFact Tryz.prog Z 19 96 [.agg #[.int .i64 (5), .string ⟨#[49, 48, 48, 48]⟩], .agg #[.int .i64 (5), .string ⟨#[49]⟩]] (.tuple #[.int .i64 (1), .bool false, .int .i64 (0)]) := fact_of_run (d := 60) (fuel := 100000) (mt := mt1) shut ext_ok noNum Tryz.checked.mixed (memo_ok M42_ok) rfl rfl (by kernel_rfl)
def M43 : List (FuncId × List Value × Value) := (96, [.agg #[.int .i64 (5), .string ⟨#[49, 48, 48, 48]⟩], .agg #[.int .i64 (5), .string ⟨#[49]⟩]], .tuple #[.int .i64 (1), .bool false, .int .i64 (0)]) :: M42
theorem M43_ok : ∀ q ∈ M43, PFact Tryz.prog Z 19 q.1 q.2.1 q.2.2 := List.forall_mem_cons.2 ⟨m43, M42_ok⟩
theorem m44 : PFact Tryz.prog Z 19 96 [.agg #[.int .i64 (5), .string ⟨#[49, 48, 48, 48]⟩], .agg #[.int .i64 (5), .string ⟨#[49, 48, 48, 48]⟩]] (.tuple #[.int .i64 (0), .bool false, .int .i64 (0)]) := fact_of_run (d := 60) (fuel := 100000) (mt := mt1) shut ext_ok noNum Tryz.checked.mixed (memo_ok M43_ok) rfl rfl (by kernel_rfl)
def M44 : List (FuncId × List Value × Value) := (96, [.agg #[.int .i64 (5), .string ⟨#[49, 48, 48, 48]⟩], .agg #[.int .i64 (5), .string ⟨#[49, 48, 48, 48]⟩]], .tuple #[.int .i64 (0), .bool false, .int .i64 (0)]) :: M43
theorem M44_ok : ∀ q ∈ M44, PFact Tryz.prog Z 19 q.1 q.2.1 q.2.2 := List.forall_mem_cons.2 ⟨m44, M43_ok⟩
theorem m45 : PFact Tryz.prog Z 19 72 [.agg #[.int .i64 (1), .string ⟨#[78, 97, 78]⟩], .int .i64 (5)] (.tuple #[.string ⟨#[78, 97, 78]⟩, .bool true]) := fact_of_run (d := 60) (fuel := 100000) (mt := mt1) shut ext_ok noNum Tryz.checked.mixed (memo_ok M44_ok) rfl rfl (by kernel_rfl)
def M45 : List (FuncId × List Value × Value) := (72, [.agg #[.int .i64 (1), .string ⟨#[78, 97, 78]⟩], .int .i64 (5)], .tuple #[.string ⟨#[78, 97, 78]⟩, .bool true]) :: M44
theorem M45_ok : ∀ q ∈ M45, PFact Tryz.prog Z 19 q.1 q.2.1 q.2.2 := List.forall_mem_cons.2 ⟨m45, M44_ok⟩
theorem m46 : PFact Tryz.prog Z 19 96 [.agg #[.int .i64 (5), .string ⟨#[78, 97, 78]⟩], .agg #[.int .i64 (5), .string ⟨#[49]⟩]] (.tuple #[.int .i64 (0), .bool true, .int .i64 (0)]) := fact_of_run (d := 60) (fuel := 100000) (mt := mt1) shut ext_ok noNum Tryz.checked.mixed (memo_ok M45_ok) rfl rfl (by kernel_rfl)
def M46 : List (FuncId × List Value × Value) := (96, [.agg #[.int .i64 (5), .string ⟨#[78, 97, 78]⟩], .agg #[.int .i64 (5), .string ⟨#[49]⟩]], .tuple #[.int .i64 (0), .bool true, .int .i64 (0)]) :: M45
theorem M46_ok : ∀ q ∈ M46, PFact Tryz.prog Z 19 q.1 q.2.1 q.2.2 := List.forall_mem_cons.2 ⟨m46, M45_ok⟩
theorem m47 : PFact Tryz.prog Z 19 41 [.string ⟨#[101, 113]⟩, .agg #[.int .i64 (5), .string ⟨#[78, 97, 78]⟩], .agg #[.int .i64 (5), .string ⟨#[49]⟩]] (.bool false) := fact_of_run (d := 60) (fuel := 100000) (mt := mt1) shut ext_ok noNum Tryz.checked.mixed (memo_ok M46_ok) rfl rfl (by kernel_rfl)
def M47 : List (FuncId × List Value × Value) := (41, [.string ⟨#[101, 113]⟩, .agg #[.int .i64 (5), .string ⟨#[78, 97, 78]⟩], .agg #[.int .i64 (5), .string ⟨#[49]⟩]], .bool false) :: M46
theorem M47_ok : ∀ q ∈ M47, PFact Tryz.prog Z 19 q.1 q.2.1 q.2.2 := List.forall_mem_cons.2 ⟨m47, M46_ok⟩
theorem m48 : PFact Tryz.prog Z 19 96 [.agg #[.int .i64 (5), .string ⟨#[78, 97, 78]⟩], .agg #[.int .i64 (5), .string ⟨#[49, 48, 48, 48]⟩]] (.tuple #[.int .i64 (0), .bool true, .int .i64 (0)]) := fact_of_run (d := 60) (fuel := 100000) (mt := mt1) shut ext_ok noNum Tryz.checked.mixed (memo_ok M47_ok) rfl rfl (by kernel_rfl)
def M48 : List (FuncId × List Value × Value) := (96, [.agg #[.int .i64 (5), .string ⟨#[78, 97, 78]⟩], .agg #[.int .i64 (5), .string ⟨#[49, 48, 48, 48]⟩]], .tuple #[.int .i64 (0), .bool true, .int .i64 (0)]) :: M47
theorem M48_ok : ∀ q ∈ M48, PFact Tryz.prog Z 19 q.1 q.2.1 q.2.2 := List.forall_mem_cons.2 ⟨m48, M47_ok⟩
theorem m49 : PFact Tryz.prog Z 19 41 [.string ⟨#[101, 113]⟩, .agg #[.int .i64 (5), .string ⟨#[78, 97, 78]⟩], .agg #[.int .i64 (5), .string ⟨#[49, 48, 48, 48]⟩]] (.bool false) := fact_of_run (d := 60) (fuel := 100000) (mt := mt1) shut ext_ok noNum Tryz.checked.mixed (memo_ok M48_ok) rfl rfl (by kernel_rfl)
def M49 : List (FuncId × List Value × Value) := (41, [.string ⟨#[101, 113]⟩, .agg #[.int .i64 (5), .string ⟨#[78, 97, 78]⟩], .agg #[.int .i64 (5), .string ⟨#[49, 48, 48, 48]⟩]], .bool false) :: M48
theorem M49_ok : ∀ q ∈ M49, PFact Tryz.prog Z 19 q.1 q.2.1 q.2.2 := List.forall_mem_cons.2 ⟨m49, M48_ok⟩
theorem m50 : PFact Tryz.prog Z 19 49 [.agg #[.int .i64 (1), .string ⟨#[109, 97, 121, 98, 101]⟩], .int .i64 (2)] (.tuple #[.agg #[.int .i64 (0), .string ⟨#[]⟩], .int .i64 (80)]) := fact_of_run (d := 60) (fuel := 100000) (mt := mt1) shut ext_ok noNum Tryz.checked.mixed (memo_ok M49_ok) rfl rfl (by kernel_rfl)
def M50 : List (FuncId × List Value × Value) := (49, [.agg #[.int .i64 (1), .string ⟨#[109, 97, 121, 98, 101]⟩], .int .i64 (2)], .tuple #[.agg #[.int .i64 (0), .string ⟨#[]⟩], .int .i64 (80)]) :: M49
theorem M50_ok : ∀ q ∈ M50, PFact Tryz.prog Z 19 q.1 q.2.1 q.2.2 := List.forall_mem_cons.2 ⟨m50, M49_ok⟩
theorem m51 : PFact Tryz.prog Z 19 34 [.string ⟨#[40]⟩, .string ⟨#[]⟩] (.tuple #[.pointer none, .int .i64 (5)]) := fact_of_runX (d := 60) (fuel := 100000) (mt := mt1) (pt := pt1) shut ext_ok noNum Tryz.checked.mixed (memo_ok M50_ok) rfl rfl (by kernel_rfl)
def M51 : List (FuncId × List Value × Value) := (34, [.string ⟨#[40]⟩, .string ⟨#[]⟩], .tuple #[.pointer none, .int .i64 (5)]) :: M50
theorem M51_ok : ∀ q ∈ M51, PFact Tryz.prog Z 19 q.1 q.2.1 q.2.2 := List.forall_mem_cons.2 ⟨m51, M50_ok⟩
theorem m52 : PFact Tryz.prog Z 19 34 [.string ⟨#[94, 40, 63, 58, 40, 41, 36]⟩, .string ⟨#[]⟩] (.tuple #[.pointer none, .int .i64 (5)]) := fact_of_runX (d := 60) (fuel := 100000) (mt := mt1) (pt := pt1) shut ext_ok noNum Tryz.checked.mixed (memo_ok M51_ok) rfl rfl (by kernel_rfl)
def M52 : List (FuncId × List Value × Value) := (34, [.string ⟨#[94, 40, 63, 58, 40, 41, 36]⟩, .string ⟨#[]⟩], .tuple #[.pointer none, .int .i64 (5)]) :: M51
theorem M52_ok : ∀ q ∈ M52, PFact Tryz.prog Z 19 q.1 q.2.1 q.2.2 := List.forall_mem_cons.2 ⟨m52, M51_ok⟩
theorem m53 : PFact Tryz.prog Z 19 34 [.string ⟨#[97, 41, 124, 40, 63, 58, 98]⟩, .string ⟨#[]⟩] (.tuple #[.pointer none, .int .i64 (5)]) := fact_of_runX (d := 60) (fuel := 100000) (mt := mt1) (pt := pt1) shut ext_ok noNum Tryz.checked.mixed (memo_ok M52_ok) rfl rfl (by kernel_rfl)
def M53 : List (FuncId × List Value × Value) := (34, [.string ⟨#[97, 41, 124, 40, 63, 58, 98]⟩, .string ⟨#[]⟩], .tuple #[.pointer none, .int .i64 (5)]) :: M52
theorem M53_ok : ∀ q ∈ M53, PFact Tryz.prog Z 19 q.1 q.2.1 q.2.2 := List.forall_mem_cons.2 ⟨m53, M52_ok⟩
theorem m54 : PFact Tryz.prog Z 19 15 [.string ⟨#[94, 40, 63, 58, 97, 41, 124, 40, 63, 58, 98, 41, 36]⟩] (.bool true) := fact_of_run (d := 60) (fuel := 100000) (mt := mt1) shut ext_ok noNum Tryz.checked.mixed (memo_ok M53_ok) rfl rfl (by kernel_rfl)
def M54 : List (FuncId × List Value × Value) := (15, [.string ⟨#[94, 40, 63, 58, 97, 41, 124, 40, 63, 58, 98, 41, 36]⟩], .bool true) :: M53
theorem M54_ok : ∀ q ∈ M54, PFact Tryz.prog Z 19 q.1 q.2.1 q.2.2 := List.forall_mem_cons.2 ⟨m54, M53_ok⟩
theorem m55 : PFact Tryz.prog Z 19 49 [.agg #[.int .i64 (1), .string ⟨#[116, 114, 117, 101]⟩], .int .i64 (2)] (.tuple #[.agg #[.int .i64 (2), .string ⟨#[116, 114, 117, 101]⟩], .int .i64 (0)]) := fact_of_run (d := 60) (fuel := 100000) (mt := mt1) shut ext_ok noNum Tryz.checked.mixed (memo_ok M54_ok) rfl rfl (by kernel_rfl)
def M55 : List (FuncId × List Value × Value) := (49, [.agg #[.int .i64 (1), .string ⟨#[116, 114, 117, 101]⟩], .int .i64 (2)], .tuple #[.agg #[.int .i64 (2), .string ⟨#[116, 114, 117, 101]⟩], .int .i64 (0)]) :: M54
theorem M55_ok : ∀ q ∈ M55, PFact Tryz.prog Z 19 q.1 q.2.1 q.2.2 := List.forall_mem_cons.2 ⟨m55, M54_ok⟩
theorem m56 : PFact Tryz.prog Z 19 15 [.string ⟨#[121, 101, 115, 116, 101, 114, 100, 97, 121]⟩] (.bool true) := fact_of_run (d := 60) (fuel := 100000) (mt := mt1) shut ext_ok noNum Tryz.checked.mixed (memo_ok M55_ok) rfl rfl (by kernel_rfl)
def M56 : List (FuncId × List Value × Value) := (15, [.string ⟨#[121, 101, 115, 116, 101, 114, 100, 97, 121]⟩], .bool true) :: M55
theorem M56_ok : ∀ q ∈ M56, PFact Tryz.prog Z 19 q.1 q.2.1 q.2.2 := List.forall_mem_cons.2 ⟨m56, M55_ok⟩
theorem m57 : PFact Tryz.prog Z 19 72 [.agg #[.int .i64 (1), .string ⟨#[121, 101, 115, 116, 101, 114, 100, 97, 121]⟩], .int .i64 (6)] (.tuple #[.string ⟨#[]⟩, .bool false]) := fact_of_runX (d := 60) (fuel := 100000) (mt := mt1) (pt := pt1) shut ext_ok noNum Tryz.checked.mixed (memo_ok M56_ok) rfl rfl (by kernel_rfl)
def M57 : List (FuncId × List Value × Value) := (72, [.agg #[.int .i64 (1), .string ⟨#[121, 101, 115, 116, 101, 114, 100, 97, 121]⟩], .int .i64 (6)], .tuple #[.string ⟨#[]⟩, .bool false]) :: M56
theorem M57_ok : ∀ q ∈ M57, PFact Tryz.prog Z 19 q.1 q.2.1 q.2.2 := List.forall_mem_cons.2 ⟨m57, M56_ok⟩
end Go.Proofs.YtelimgiehdfblaaGreatDoor.V
