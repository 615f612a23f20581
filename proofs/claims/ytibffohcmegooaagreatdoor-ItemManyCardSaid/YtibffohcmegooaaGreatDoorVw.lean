/- Laws of the fenced walk that the small machine needs: a frame of a function, or of a round of a loop over a function. Conditions: none. -/
import Derived.RangeFuncRecord
import Derived.OrdersIn
import Derived.LoopNIn
import Derived.Scope
import Derived.Test.YtibffohcmegooaaGreatDoorVd
namespace Go.Proofs.YtibffohcmegooaaGreatDoor.V
set_option linter.all false
open Go

/-- The wide fence, of an activation or of a round. -/
def Fr (ro : Option Nat) : Fence := { Fence.wide with round := ro }

theorem Fr_none : Fr none = Fence.wide := rfl
theorem Fr_round (l : Nat) : Fr (some l) = (Fr none).inRound l := rfl

section
variable {P : Program} {o : Oper} {a : Act} {w : World} {next : Act → World → Prop} {Q : Exit → Act → World → Prop}

theorem uponIn_Fr (ro : Option Nat) (r : Result Next) : o.uponIn (Fr ro) 0 P a next Q r ↔ o.uponIn Fence.wide 0 P a next Q r := by
  cases r with
  | ok x w' => cases x <;> exact Iff.rfl
  | halt x w' => cases x <;> exact Iff.rfl

theorem wpIn_Fr (h : o.wpIn Fence.wide 0 P a w next Q) (hd : ∀ c, o.op ≠ .defer c) (ro : Option Nat) : o.wpIn (Fr ro) 0 P a w next Q := by
  refine ⟨fun _ _ => trivial, ?_⟩
  rw [uponIn_Fr]
  have := h.2
  rw [show Fence.wide.round = Option.none from rfl, Oper.semAt_none] at this
  rw [Oper.semAt_eq _ _ _ hd]
  exact this

theorem wpIn_val {v' : Value} {w' : World} (hr : (execOp a.eval o).run P w = .ok (.value v') w') (hn : next (a.put o.dst v') w') : o.wpIn Fence.wide 0 P a w next Q := by
  refine ⟨fun _ _ => trivial, ?_⟩
  rw [show Fence.wide.round = Option.none from rfl, Oper.semAt_none, hr]
  exact hn

theorem wpIn_skip' {w' : World} (hr : (execOp a.eval o).run P w = .ok .skip w') (hn : next (a.put o.dst undef) w') : o.wpIn Fence.wide 0 P a w next Q := by
  refine ⟨fun _ _ => trivial, ?_⟩
  rw [show Fence.wide.round = Option.none from rfl, Oper.semAt_none, hr]
  exact hn

theorem wpIn_call {f : FuncId} {args : Array Value} {w' : World} (hr : (execOp a.eval o).run P w = .ok (.enter f args) w')
    (h : Calls P f args w' fun
      | .returned v, w'' => next (a.put o.dst v) w''
      | .panicked chain, w'' => Q (.panic chain) a w''
      | .outgrown, _ => LetsOut Q) : o.wpIn Fence.wide 0 P a w next Q := by
  refine ⟨fun _ _ => trivial, ?_⟩
  rw [show Fence.wide.round = Option.none from rfl, Oper.semAt_none, hr, Oper.uponIn_enter]
  exact ⟨fun h => (by cases h), callsIn_wide.2 h⟩

theorem wpIn_yield {l : Nat} {f : FuncId} {tmps : Array Value} {x y : Code} {w' : World} (hr : (execOp a.eval o).run P w = .ok (.round l f tmps x y) w')
    (h : RoundIn Fence.wide 0 P l f tmps x y w' fun
      | .returned v, w'' => next (a.put o.dst v) w''
      | .panicked chain, w'' => Q (.panic chain) a w''
      | .outgrown, _ => LetsOut Q) : o.wpIn Fence.wide 0 P a w next Q := by
  refine ⟨fun _ _ => trivial, ?_⟩
  rw [show Fence.wide.round = Option.none from rfl, Oper.semAt_none, hr, Oper.uponIn_round]
  exact ⟨fun h => (by cases h), h⟩
end

section
variable {F : Fence} {n : Nat} {P : Program} {b : Frame} {a : Act} {k : List Item} {cs : List Frame} {w : World} {Q : Exit → Act → World → Prop}

theorem stepR_scope {c : Code} : step P (lone (b.atR a (.code (.scope c) :: k)) cs w) = .next (lone (b.atR a (.code c :: .inScope c :: k)) cs w) :=
  step_lone_go (by simp [stepG, stepG.exec, Frame.atR])
theorem stepR_inScope {c : Code} : step P (lone (b.atR a (.inScope c :: k)) cs w) = .next (lone (b.atR a k) cs w) :=
  step_lone_go (by simp [stepG, stepG.exec, Frame.atR])

theorem wpIn_scope {c : Code} (h : c.wpIn F n P (Exit.noGoto Q) a w) : (Code.scope c).wpIn F n P Q a w := by
  intro b k cs hro hb hr
  have h0 : (lone (b.atR a (.code (.scope c) :: k)) cs w).fenced P F := fenced_calm hb hr rfl
  obtain ⟨e, a₁, w₁, hq, harr⟩ := h b (.inScope c :: k) cs hro hb hr
  cases e with
  | normal => exact ⟨.normal, a₁, w₁, hq, .head h0 stepR_scope (StepsIn.trans harr (.one (fenced_calm hb hr rfl) stepR_inScope))⟩
  | exit id =>
    have hx : exitTo id (.inScope c :: k) = exitTo id k := by simp [exitTo]
    exact ⟨.exit id, a₁, w₁, hq, fun k' hk => .head h0 stepR_scope (harr.1 k' (by rw [hx]; exact hk)),
      fun hr' hk => let ⟨k₁, h1, h2⟩ := harr.2 hr' (by rw [hx]; exact hk); ⟨k₁, h1, .head h0 stepR_scope h2⟩⟩
  | goto l => exact hq.elim
  | ret => exact ⟨_, a₁, w₁, hq, .of_steps (.one h0 stepR_scope) harr⟩
  | panic ch => exact ⟨_, a₁, w₁, hq, .of_steps (.one h0 stepR_scope) harr⟩
  | outgrown => exact ⟨_, a₁, w₁, hq, .of_steps (.one h0 stepR_scope) harr⟩
end

end Go.Proofs.YtibffohcmegooaaGreatDoor.V
