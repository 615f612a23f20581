/- The kernel runs greater calls apart, on the small machine. Conditions: none. -/
import Derived.Test.YtibffohcmegooaaGreatDoorKs
namespace Go.Proofs.YtibffohcmegooaaGreatDoor.V
set_option linter.all false
open Go
set_option maxRecDepth 1000000
def M0 : List (FuncId × List Value × Value) := []
theorem M0_ok : ∀ q ∈ M0, PFact Tryz.prog Z 19 q.1 q.2.1 q.2.2 := fun q hq => by cases hq
theorem m1 : PFact Tryz.prog Z 19 80 [.string ⟨#[49]⟩] (.tuple #[.string ⟨#[49]⟩, .int .i64 (0)]) := fact_of_run (d := 60) (fuel := 100000) (mt := mt1) shut ext_ok noNum Tryz.checked.mixed (memo_ok M0_ok) rfl rfl (by kernel_rfl)
def M1 : List (FuncId × List Value × Value) := (80, [.string ⟨#[49]⟩], .tuple #[.string ⟨#[49]⟩, .int .i64 (0)]) :: M0
theorem M1_ok : ∀ q ∈ M1, PFact Tryz.prog Z 19 q.1 q.2.1 q.2.2 := List.forall_mem_cons.2 ⟨m1, M0_ok⟩
theorem m2 : PFact Tryz.prog Z 19 80 [.string ⟨#[50]⟩] (.tuple #[.string ⟨#[50]⟩, .int .i64 (0)]) := fact_of_run (d := 60) (fuel := 100000) (mt := mt1) shut ext_ok noNum Tryz.checked.mixed (memo_ok M1_ok) rfl rfl (by kernel_rfl)
def M2 : List (FuncId × List Value × Value) := (80, [.string ⟨#[50]⟩], .tuple #[.string ⟨#[50]⟩, .int .i64 (0)]) :: M1
theorem M2_ok : ∀ q ∈ M2, PFact Tryz.prog Z 19 q.1 q.2.1 q.2.2 := List.forall_mem_cons.2 ⟨m2, M1_ok⟩
theorem m3 : PFact Tryz.prog Z 19 80 [.string ⟨#[51]⟩] (.tuple #[.string ⟨#[51]⟩, .int .i64 (0)]) := fact_of_run (d := 60) (fuel := 100000) (mt := mt1) shut ext_ok noNum Tryz.checked.mixed (memo_ok M2_ok) rfl rfl (by kernel_rfl)
def M3 : List (FuncId × List Value × Value) := (80, [.string ⟨#[51]⟩], .tuple #[.string ⟨#[51]⟩, .int .i64 (0)]) :: M2
theorem M3_ok : ∀ q ∈ M3, PFact Tryz.prog Z 19 q.1 q.2.1 q.2.2 := List.forall_mem_cons.2 ⟨m3, M2_ok⟩
end Go.Proofs.YtibffohcmegooaaGreatDoor.V
