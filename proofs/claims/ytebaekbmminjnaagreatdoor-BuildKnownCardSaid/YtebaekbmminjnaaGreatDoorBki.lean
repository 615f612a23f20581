/- Closed facts of chisellaw28.BuildKnown that a tied card's builder asks. Conditions: none. -/
import Derived.Test.YtebaekbmminjnaaGreatDoorRows
import Derived.SevenTiedAt
namespace Go.Proofs.YtebaekbmminjnaaGreatDoor.V
open Go
theorem f6_funcNamed : Tryz.prog.funcNamed "chisel/chisellaw28.BuildKnown" = some 6 := by kernel_rfl
theorem f6_noGoes : Tryz.prog.funcs.any Func.goes = false := by kernel_rfl
theorem goes_none {P : Program} (h : P.funcs.any Func.goes = false) (f : FuncId) : P.goes f = false := by
  have hg : ∀ g : Nat, (P.funcs[g]?).any Func.goes = false := by
    intro g
    cases hf : P.funcs[g]? with
    | none => rfl
    | some fn =>
      rw [Array.any_eq_false] at h
      obtain ⟨hlt, rfl⟩ := Array.getElem?_eq_some_iff.1 hf
      simpa using h g hlt
  unfold Program.goes
  rw [h, Bool.and_false, Bool.or_false]
  cases hc : (P.closure f).any fun g => (P.funcs[g]?).any Func.goes with
  | false => rfl
  | true =>
    simp [hg] at hc
theorem goesAt_none {P : Program} (h : P.funcs.any Func.goes = false) (s : Start) (f : String) : P.goesAt s f = false := by
  have h1 : ∀ o : Option FuncId, o.any P.goes = false := fun o => by cases o with | none => rfl | some g => exact goes_none h g
  have h2 : P.inits.toList.any P.goes = false := by
    rw [List.any_eq_false]
    intro g _
    rw [goes_none h g]
    simp
  unfold Program.goesAt Program.goesFrom
  rw [h1]
  cases s <;> first | rfl | exact h2
theorem f6_goesBy : false = Rows.buildKnownRow.goesBy Tryz.prog := (goesAt_none f6_noGoes _ _).symm
end Go.Proofs.YtebaekbmminjnaaGreatDoor.V
