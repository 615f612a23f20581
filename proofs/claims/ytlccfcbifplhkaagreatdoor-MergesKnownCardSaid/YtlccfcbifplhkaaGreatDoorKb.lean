/- The kernel runs chisellaw31.MergesKnown on the small machine: it answers true. Conditions: none. -/
import Derived.Test.YtlccfcbifplhkaaGreatDoorKa
import Derived.Test.YtlccfcbifplhkaaGreatDoorChecked
namespace Go.Proofs.YtlccfcbifplhkaaGreatDoor.V
open Go
set_option maxRecDepth 1000000

def ext1 : FuncId → Option Ext := fun g => match g with
  | 144 => some .cmp
  | _ => none
def mt1 : FuncId → Bool := fun g => Nat.beq g 37 || Nat.beq g 50 || Nat.beq g 70 || Nat.beq g 71 || Nat.beq g 105 || Nat.beq g 145

theorem noNum : NoNum Tryz.prog := noNum_of (by kernel_rfl)
theorem ext_ok : ExtOK Tryz.prog ext1 := by
  intro g x fn hx hf
  by_cases hg : g = 144
  · subst hg
    obtain rfl : x = .cmp := (Option.some.inj hx).symm
    have h0 : Tryz.prog.funcs[144]? = some Tryz.f144 := Tryz.func144
    obtain rfl := Option.some.inj (h0.symm.trans hf)
    exact ⟨by kernel_rfl, by kernel_rfl⟩
  · unfold ext1 at hx
    split at hx
    · exact absurd rfl hg
    · cases hx

theorem run5 : isTrueB (deepB Tryz.prog 19 ext1 100000 mt1 60 5 [] (start 19)) = true := by kernel_rfl

theorem mergesKnown (w : World) : Calls Tryz.prog 5 #[] w fun e w' => e = .returned (.bool true) ∧ Kept w w' :=
  closed_call ext_ok noNum Tryz.checked.mixed (by decide) run5 w

end Go.Proofs.YtlccfcbifplhkaaGreatDoor.V
