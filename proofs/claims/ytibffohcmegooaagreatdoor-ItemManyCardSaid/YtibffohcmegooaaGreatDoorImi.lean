/- Closed facts of chisellaw17.ItemMany that a tied card's builder asks. Conditions: none. -/
import Derived.Test.YtibffohcmegooaaGreatDoorRows
import Derived.SevenTiedAt
namespace Go.Proofs.YtibffohcmegooaaGreatDoor.V
set_option linter.all false
open Go
theorem f3_funcNamed : Tryz.prog.funcNamed "chisel/chisellaw17.ItemMany" = some 3 := by kernel_rfl
theorem f3_noGoes : Tryz.prog.funcs.any Func.goes = false := by kernel_rfl
theorem goes_none {P : Program} (h : P.funcs.any Func.goes = false) (f : FuncId) : P.goes f = false := by
  have hg : ∀ g : Nat, (P.funcs[g]?).any Func.goes = false := by
    intro g
    cases hf : P.funcs[g]? with
    | none => rfl
    | some fn =>
      rw [Array.any_eq_false] at h
      obtain ⟨hlt, rfl⟩ := Array.getElem?_eq_some_iff.1 hf
      simpa using h g hlt
  unfold Program.goes
  rw [h, Bool.and_false, Bool.or_false]
  cases hc : (P.closure f).any fun g => (P.funcs[g]?).any Func.goes with
  | false => rfl
  | true =>
    simp [hg] at hc
theorem goesAt_none {P : Program} (h : P.funcs.any Func.goes = false) (s : Start) (f : String) : P.goesAt s f = false := by
  have h1 : ∀ o : Option FuncId, o.any P.goes = false := fun o => by cases o with | none => rfl | some g => exact goes_none h g
  have h2 : P.inits.toList.any P.goes = false := by
    rw [List.any_eq_false]
    intro g _
    rw [goes_none h g]
    simp
  unfold Program.goesAt Program.goesFrom
  rw [h1]
  cases s <;> first | rfl | exact h2
theorem f3_goesBy : false = Rows.itemManyRow.goesBy Tryz.prog := (goesAt_none f3_noGoes _ _).symm
end Go.Proofs.YtibffohcmegooaaGreatDoor.V
