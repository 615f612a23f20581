/- The kernel runs greater calls apart, on the small machine. Conditions: none. -/
import Derived.Test.YtiecjjcemnafaaaGreatDoorKm3
namespace Go.Proofs.YtiecjjcemnafaaaGreatDoor.V
set_option linter.all false
open Go
set_option maxRecDepth 1000000
def M57 : List (FuncId × List Value × Value) := M37
theorem M57_ok : ∀ q ∈ M57, PFact Tryz.prog Z 19 q.1 q.2.1 q.2.2 := M37_ok
theorem m58 : PFact Tryz.prog Z 19 127 [.string ⟨#[78, 97, 78]⟩] (.tuple #[.float .f64 9221120237041090561, .bool true]) := fact_of_run (d := 60) (fuel := 100000) (mt := mt1) shut ext_ok noNum Tryz.checked.mixed (memo_ok M57_ok) rfl rfl (by kernel_rfl)
def M58 : List (FuncId × List Value × Value) := (127, [.string ⟨#[78, 97, 78]⟩], .tuple #[.float .f64 9221120237041090561, .bool true]) :: M57
theorem M58_ok : ∀ q ∈ M58, PFact Tryz.prog Z 19 q.1 q.2.1 q.2.2 := List.forall_mem_cons.2 ⟨m58, M57_ok⟩
theorem m59 : PFact Tryz.prog Z 19 55 [.agg #[.int .i64 (5), .string ⟨#[78, 97, 78]⟩]] (.bool true) := fact_of_run (d := 60) (fuel := 100000) (mt := mt1) shut ext_ok noNum Tryz.checked.mixed (memo_ok M58_ok) rfl rfl (by kernel_rfl)
def M59 : List (FuncId × List Value × Value) := (55, [.agg #[.int .i64 (5), .string ⟨#[78, 97, 78]⟩]], .bool true) :: M58
theorem M59_ok : ∀ q ∈ M59, PFact Tryz.prog Z 19 q.1 q.2.1 q.2.2 := List.forall_mem_cons.2 ⟨m59, M58_ok⟩
theorem m60 : PFact Tryz.prog Z 19 34 [.agg #[.int .i64 (0), .int .i64 (1)], .agg #[.int .i64 (0), .int .i64 (3)]] (.int .i64 (-1)) := fact_of_run (d := 60) (fuel := 100000) (mt := mt1) shut ext_ok noNum Tryz.checked.mixed (memo_ok M59_ok) rfl rfl (by kernel_rfl)
def M60 : List (FuncId × List Value × Value) := (34, [.agg #[.int .i64 (0), .int .i64 (1)], .agg #[.int .i64 (0), .int .i64 (3)]], .int .i64 (-1)) :: M59
theorem M60_ok : ∀ q ∈ M60, PFact Tryz.prog Z 19 q.1 q.2.1 q.2.2 := List.forall_mem_cons.2 ⟨m60, M59_ok⟩
theorem m61 : PFact Tryz.prog Z 19 34 [.agg #[.int .i64 (0), .int .i64 (3)], .agg #[.int .i64 (0), .int .i64 (3)]] (.int .i64 (0)) := fact_of_run (d := 60) (fuel := 100000) (mt := mt1) shut ext_ok noNum Tryz.checked.mixed (memo_ok M60_ok) rfl rfl (by kernel_rfl)
def M61 : List (FuncId × List Value × Value) := (34, [.agg #[.int .i64 (0), .int .i64 (3)], .agg #[.int .i64 (0), .int .i64 (3)]], .int .i64 (0)) :: M60
theorem M61_ok : ∀ q ∈ M61, PFact Tryz.prog Z 19 q.1 q.2.1 q.2.2 := List.forall_mem_cons.2 ⟨m61, M60_ok⟩
theorem m62 : PFact Tryz.prog Z 19 34 [.agg #[.int .i64 (1), .int .i64 (0)], .agg #[.int .i64 (0), .int .i64 (3)]] (.int .i64 (1)) := fact_of_run (d := 60) (fuel := 100000) (mt := mt1) shut ext_ok noNum Tryz.checked.mixed (memo_ok M61_ok) rfl rfl (by kernel_rfl)
def M62 : List (FuncId × List Value × Value) := (34, [.agg #[.int .i64 (1), .int .i64 (0)], .agg #[.int .i64 (0), .int .i64 (3)]], .int .i64 (1)) :: M61
theorem M62_ok : ∀ q ∈ M62, PFact Tryz.prog Z 19 q.1 q.2.1 q.2.2 := List.forall_mem_cons.2 ⟨m62, M61_ok⟩
theorem m63 : PFact Tryz.prog Z 19 166 [.string ⟨#[49]⟩] (.bool true) := fact_of_run (d := 60) (fuel := 100000) (mt := mt1) shut ext_ok noNum Tryz.checked.mixed (memo_ok M62_ok) rfl rfl (by kernel_rfl)
def M63 : List (FuncId × List Value × Value) := (166, [.string ⟨#[49]⟩], .bool true) :: M62
theorem M63_ok : ∀ q ∈ M63, PFact Tryz.prog Z 19 q.1 q.2.1 q.2.2 := List.forall_mem_cons.2 ⟨m63, M62_ok⟩
theorem m64 : PFact Tryz.prog Z 19 379 [.string ⟨#[48, 46, 49, 101, 49]⟩] (.tuple #[.int .u64 (1), .int .i64 (0), .bool false, .bool false, .bool false, .int .i64 (5), .bool true]) := fact_of_run (d := 60) (fuel := 100000) (mt := mt1) shut ext_ok noNum Tryz.checked.mixed (memo_ok M63_ok) rfl rfl (by kernel_rfl)
def M64 : List (FuncId × List Value × Value) := (379, [.string ⟨#[48, 46, 49, 101, 49]⟩], .tuple #[.int .u64 (1), .int .i64 (0), .bool false, .bool false, .bool false, .int .i64 (5), .bool true]) :: M63
theorem M64_ok : ∀ q ∈ M64, PFact Tryz.prog Z 19 q.1 q.2.1 q.2.2 := List.forall_mem_cons.2 ⟨m64, M63_ok⟩
theorem m65 : PFact Tryz.prog Z 19 353 [.string ⟨#[48, 46, 49, 101, 49]⟩] (.tuple #[.float .f64 4607182418800017408, .int .i64 (5), .nilIface]) := fact_of_run (d := 60) (fuel := 100000) (mt := mt1) shut ext_ok noNum Tryz.checked.mixed (memo_ok M64_ok) rfl rfl (by kernel_rfl)
def M65 : List (FuncId × List Value × Value) := (353, [.string ⟨#[48, 46, 49, 101, 49]⟩], .tuple #[.float .f64 4607182418800017408, .int .i64 (5), .nilIface]) :: M64
theorem M65_ok : ∀ q ∈ M65, PFact Tryz.prog Z 19 q.1 q.2.1 q.2.2 := List.forall_mem_cons.2 ⟨m65, M64_ok⟩
theorem m66 : PFact Tryz.prog Z 19 167 [.string ⟨#[49]⟩] (.float .f64 4607182418800017408) := fact_of_run (d := 60) (fuel := 100000) (mt := mt1) shut ext_ok noNum Tryz.checked.mixed (memo_ok M65_ok) rfl rfl (by kernel_rfl)
def M66 : List (FuncId × List Value × Value) := (167, [.string ⟨#[49]⟩], .float .f64 4607182418800017408) :: M65
theorem M66_ok : ∀ q ∈ M66, PFact Tryz.prog Z 19 q.1 q.2.1 q.2.2 := List.forall_mem_cons.2 ⟨m66, M65_ok⟩
theorem m67 : PFact Tryz.prog Z 19 127 [.string ⟨#[49]⟩] (.tuple #[.float .f64 4607182418800017408, .bool true]) := fact_of_run (d := 60) (fuel := 100000) (mt := mt1) shut ext_ok noNum Tryz.checked.mixed (memo_ok M66_ok) rfl rfl (by kernel_rfl)
def M67 : List (FuncId × List Value × Value) := (127, [.string ⟨#[49]⟩], .tuple #[.float .f64 4607182418800017408, .bool true]) :: M66
theorem M67_ok : ∀ q ∈ M67, PFact Tryz.prog Z 19 q.1 q.2.1 q.2.2 := List.forall_mem_cons.2 ⟨m67, M66_ok⟩
theorem m68 : PFact Tryz.prog Z 19 337 [.int .u64 (9223372036854775808), .int .i64 (-63)] (.tuple #[.int .u64 (1000000000000000), .int .i64 (-15)]) := fact_of_run (d := 60) (fuel := 100000) (mt := mt1) shut ext_ok noNum Tryz.checked.mixed (memo_ok M67_ok) rfl rfl (by kernel_rfl)
def M68 : List (FuncId × List Value × Value) := (337, [.int .u64 (9223372036854775808), .int .i64 (-63)], .tuple #[.int .u64 (1000000000000000), .int .i64 (-15)]) :: M67
theorem M68_ok : ∀ q ∈ M68, PFact Tryz.prog Z 19 q.1 q.2.1 q.2.2 := List.forall_mem_cons.2 ⟨m68, M67_ok⟩
theorem m69 : PFact Tryz.prog Z 19 231 [.float .f64 4607182418800017408, .int .u8 (102), .int .i64 (-1), .int .i64 (64)] (.string ⟨#[49]⟩) := fact_of_run (d := 60) (fuel := 100000) (mt := mt1) shut ext_ok noNum Tryz.checked.mixed (memo_ok M68_ok) rfl rfl (by kernel_rfl)
def M69 : List (FuncId × List Value × Value) := (231, [.float .f64 4607182418800017408, .int .u8 (102), .int .i64 (-1), .int .i64 (64)], .string ⟨#[49]⟩) :: M68
theorem M69_ok : ∀ q ∈ M69, PFact Tryz.prog Z 19 q.1 q.2.1 q.2.2 := List.forall_mem_cons.2 ⟨m69, M68_ok⟩
theorem m70 : PFact Tryz.prog Z 19 126 [.string ⟨#[49]⟩] (.tuple #[.string ⟨#[49]⟩, .bool true]) := fact_of_run (d := 60) (fuel := 100000) (mt := mt1) shut ext_ok noNum Tryz.checked.mixed (memo_ok M69_ok) rfl rfl (by kernel_rfl)
def M70 : List (FuncId × List Value × Value) := (126, [.string ⟨#[49]⟩], .tuple #[.string ⟨#[49]⟩, .bool true]) :: M69
theorem M70_ok : ∀ q ∈ M70, PFact Tryz.prog Z 19 q.1 q.2.1 q.2.2 := List.forall_mem_cons.2 ⟨m70, M69_ok⟩
theorem m71 : PFact Tryz.prog Z 19 152 [.agg #[.int .i64 (5), .string ⟨#[78, 97, 78]⟩], .agg #[.int .i64 (5), .string ⟨#[78, 97, 78]⟩]] (.tuple #[.int .i64 (0), .bool true, .int .i64 (0)]) := fact_of_run (d := 60) (fuel := 100000) (mt := mt1) shut ext_ok noNum Tryz.checked.mixed (memo_ok M70_ok) rfl rfl (by kernel_rfl)
def M71 : List (FuncId × List Value × Value) := (152, [.agg #[.int .i64 (5), .string ⟨#[78, 97, 78]⟩], .agg #[.int .i64 (5), .string ⟨#[78, 97, 78]⟩]], .tuple #[.int .i64 (0), .bool true, .int .i64 (0)]) :: M70
theorem M71_ok : ∀ q ∈ M71, PFact Tryz.prog Z 19 q.1 q.2.1 q.2.2 := List.forall_mem_cons.2 ⟨m71, M70_ok⟩
theorem m72 : PFact Tryz.prog Z 19 379 [.string ⟨#[49]⟩] (.tuple #[.int .u64 (1), .int .i64 (0), .bool false, .bool false, .bool false, .int .i64 (1), .bool true]) := fact_of_run (d := 60) (fuel := 100000) (mt := mt1) shut ext_ok noNum Tryz.checked.mixed (memo_ok M71_ok) rfl rfl (by kernel_rfl)
def M72 : List (FuncId × List Value × Value) := (379, [.string ⟨#[49]⟩], .tuple #[.int .u64 (1), .int .i64 (0), .bool false, .bool false, .bool false, .int .i64 (1), .bool true]) :: M71
theorem M72_ok : ∀ q ∈ M72, PFact Tryz.prog Z 19 q.1 q.2.1 q.2.2 := List.forall_mem_cons.2 ⟨m72, M71_ok⟩
theorem m73 : PFact Tryz.prog Z 19 353 [.string ⟨#[49]⟩] (.tuple #[.float .f64 4607182418800017408, .int .i64 (1), .nilIface]) := fact_of_run (d := 60) (fuel := 100000) (mt := mt1) shut ext_ok noNum Tryz.checked.mixed (memo_ok M72_ok) rfl rfl (by kernel_rfl)
def M73 : List (FuncId × List Value × Value) := (353, [.string ⟨#[49]⟩], .tuple #[.float .f64 4607182418800017408, .int .i64 (1), .nilIface]) :: M72
theorem M73_ok : ∀ q ∈ M73, PFact Tryz.prog Z 19 q.1 q.2.1 q.2.2 := List.forall_mem_cons.2 ⟨m73, M72_ok⟩
theorem m74 : PFact Tryz.prog Z 19 209 [.string ⟨#[49]⟩] (.tuple #[.float .f64 4607182418800017408, .int .i64 (0)]) := fact_of_run (d := 60) (fuel := 100000) (mt := mt1) shut ext_ok noNum Tryz.checked.mixed (memo_ok M73_ok) rfl rfl (by kernel_rfl)
def M74 : List (FuncId × List Value × Value) := (209, [.string ⟨#[49]⟩], .tuple #[.float .f64 4607182418800017408, .int .i64 (0)]) :: M73
theorem M74_ok : ∀ q ∈ M74, PFact Tryz.prog Z 19 q.1 q.2.1 q.2.2 := List.forall_mem_cons.2 ⟨m74, M73_ok⟩
theorem m75 : PFact Tryz.prog Z 19 152 [.agg #[.int .i64 (3), .string ⟨#[49]⟩], .agg #[.int .i64 (5), .string ⟨#[49]⟩]] (.tuple #[.int .i64 (0), .bool false, .int .i64 (0)]) := fact_of_run (d := 60) (fuel := 100000) (mt := mt1) shut ext_ok noNum Tryz.checked.mixed (memo_ok M74_ok) rfl rfl (by kernel_rfl)
def M75 : List (FuncId × List Value × Value) := (152, [.agg #[.int .i64 (3), .string ⟨#[49]⟩], .agg #[.int .i64 (5), .string ⟨#[49]⟩]], .tuple #[.int .i64 (0), .bool false, .int .i64 (0)]) :: M74
theorem M75_ok : ∀ q ∈ M75, PFact Tryz.prog Z 19 q.1 q.2.1 q.2.2 := List.forall_mem_cons.2 ⟨m75, M74_ok⟩
theorem m76 : PFact Tryz.prog Z 19 108 [.string ⟨#[101, 113]⟩, .agg #[.int .i64 (3), .string ⟨#[49]⟩], .agg #[.int .i64 (5), .string ⟨#[49]⟩]] (.tuple #[.bool true, .int .i64 (0)]) := fact_of_run (d := 60) (fuel := 100000) (mt := mt1) shut ext_ok noNum Tryz.checked.mixed (memo_ok M75_ok) rfl rfl (by kernel_rfl)
def M76 : List (FuncId × List Value × Value) := (108, [.string ⟨#[101, 113]⟩, .agg #[.int .i64 (3), .string ⟨#[49]⟩], .agg #[.int .i64 (5), .string ⟨#[49]⟩]], .tuple #[.bool true, .int .i64 (0)]) :: M75
theorem M76_ok : ∀ q ∈ M76, PFact Tryz.prog Z 19 q.1 q.2.1 q.2.2 := List.forall_mem_cons.2 ⟨m76, M75_ok⟩
end Go.Proofs.YtiecjjcemnafaaaGreatDoor.V
