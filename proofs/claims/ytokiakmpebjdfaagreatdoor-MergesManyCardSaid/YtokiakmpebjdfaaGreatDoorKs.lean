/- The seat's own words for the small machine: the served functions, those that write to blocks of their callers, the listed variables' cells. Conditions: none. -/
import Derived.Test.YtokiakmpebjdfaaGreatDoorKa
import Derived.Test.YtokiakmpebjdfaaGreatDoorChecked
import Derived.Test.YtokiakmpebjdfaaGreatDoorRows
namespace Go.Proofs.YtokiakmpebjdfaaGreatDoor.V
set_option linter.all false
open Go
set_option maxRecDepth 1000000

def ext1 : FuncId → Option Ext := fun g => match g with
  | 83 => some .cmp
  | 85 => some .cmp
  | 242 => some .indexByte
  | 107 => some .bits64
  | 210 => some .bits64
  | 101 => some .from64
  | 289 => some .from64
  | 245 => some .same
  | 246 => some .noZero
  | _ => none
def codeOf : List (Nat × Nat) → FuncId → Nat
  | [], _ => 0
  | (x, c) :: xs, g => match Nat.beq g x with | true => c | false => codeOf xs g
def mt1 : FuncId → Nat := codeOf [(148, 1), (84, 1), (13, 1), (20, 1), (29, 1), (30, 1), (53, 1), (86, 1), (255, 1), (228, 1), (216, 1), (213, 1), (160, 1), (202, 1), (153, 1), (154, 1), (205, 1), (152, 1), (203, 1), (155, 1), (318, 1), (70, 4), (167, 1), (168, 1), (169, 1), (170, 1), (231, 1), (114, 1)]
def pt1 : FuncId → Bool := fun g => match codeOf [(167, 1), (168, 1), (169, 1), (170, 1), (231, 1), (115, 1), (70, 1)] g with | 0 => false | _ => true

theorem noNum : NoNum Tryz.prog := noNum_of (by kernel_rfl)
theorem ext_ok : ExtOK Tryz.prog ext1 := by
  intro g x fn hx hf
  unfold ext1 at hx
  split at hx
  · cases hx; obtain rfl := Option.some.inj (Tryz.func83.symm.trans hf); exact ⟨by kernel_rfl, by kernel_rfl⟩
  · cases hx; obtain rfl := Option.some.inj (Tryz.func85.symm.trans hf); exact ⟨by kernel_rfl, by kernel_rfl⟩
  · cases hx; obtain rfl := Option.some.inj (Tryz.func242.symm.trans hf); exact ⟨by kernel_rfl, by kernel_rfl⟩
  · cases hx; obtain rfl := Option.some.inj (Tryz.func107.symm.trans hf); exact ⟨by kernel_rfl, by kernel_rfl⟩
  · cases hx; obtain rfl := Option.some.inj (Tryz.func210.symm.trans hf); exact ⟨by kernel_rfl, by kernel_rfl⟩
  · cases hx; obtain rfl := Option.some.inj (Tryz.func101.symm.trans hf); exact ⟨by kernel_rfl, by kernel_rfl⟩
  · cases hx; obtain rfl := Option.some.inj (Tryz.func289.symm.trans hf); exact ⟨by kernel_rfl, by kernel_rfl⟩
  · cases hx; obtain rfl := Option.some.inj (Tryz.func245.symm.trans hf); exact ⟨by kernel_rfl, by kernel_rfl⟩
  · cases hx; obtain rfl := Option.some.inj (Tryz.func246.symm.trans hf); exact ⟨by kernel_rfl, by kernel_rfl⟩
  · cases hx

/-- The listed variables but for the two that hold interface values. -/
def keepVar (x : String × DataW Unit) : Bool := !(x.1 == "strconv.ErrRange") && !(x.1 == "strconv.ErrSyntax")
noncomputable def laidL : List (String × DataW Unit) := Rows.mergesManyRow.laid.filter keepVar
noncomputable def Y : List (Nat × List Value) × List (List Value) := (gList Tryz.prog 19 laidL).getD ([], [])
theorem hY : gList Tryz.prog 19 laidL = some Y := by kernel_rfl
theorem shut : shutY 19 Y = true := by kernel_rfl
noncomputable abbrev Z : AH := startL 19 Y
end Go.Proofs.YtokiakmpebjdfaaGreatDoor.V
