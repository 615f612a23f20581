/- The seat's own words for the small machine: the served functions, those that write to blocks of their callers, the listed variables' cells. Conditions: none. -/
import Derived.Test.YtebaekbmminjnaaGreatDoorKa
import Derived.Test.YtebaekbmminjnaaGreatDoorChecked
import Derived.Test.YtebaekbmminjnaaGreatDoorRows
namespace Go.Proofs.YtebaekbmminjnaaGreatDoor.V
set_option linter.all false
open Go
set_option maxRecDepth 1000000

def ext1 : FuncId → Option Ext := fun g => match g with
  | 186 => some .indexByte
  | 206 => some .bits64
  | 274 => some .bits64
  | 203 => some .from64
  | 337 => some .from64
  | 88 => some .same
  | 150 => some .noZero
  | _ => none
def codeOf : List (Nat × Nat) → FuncId → Nat
  | [], _ => 0
  | (x, c) :: xs, g => match Nat.beq g x with | true => c | false => codeOf xs g
def mt1 : FuncId → Nat := codeOf [(247, 1), (308, 1), (292, 1), (280, 1), (277, 1), (250, 1), (43, 1), (73, 1), (75, 1), (70, 1), (71, 1), (55, 1), (53, 2), (85, 2), (87, 2), (110, 2), (84, 2), (111, 2), (86, 2), (80, 2), (79, 2), (62, 2), (57, 1), (26, 1), (94, 1), (116, 1), (93, 1), (113, 1), (28, 1), (44, 1), (53, 2), (85, 2), (87, 2), (76, 1), (77, 1), (78, 1), (46, 1), (81, 1), (144, 1), (145, 1), (169, 4), (257, 1), (258, 1), (259, 1), (260, 1), (294, 1), (212, 1), (82, 1), (47, 1), (48, 1), (49, 1), (50, 1)]
def pt1 : FuncId → Bool := fun g => match codeOf [(257, 1), (258, 1), (259, 1), (260, 1), (294, 1), (213, 1), (169, 1)] g with | 0 => false | _ => true

theorem noNum : NoNum Tryz.prog := noNum_of (by kernel_rfl)
theorem ext_ok : ExtOK Tryz.prog ext1 := by
  intro g x fn hx hf
  unfold ext1 at hx
  split at hx
  · cases hx; obtain rfl := Option.some.inj (Tryz.func186.symm.trans hf); exact ⟨by kernel_rfl, by kernel_rfl⟩
  · cases hx; obtain rfl := Option.some.inj (Tryz.func206.symm.trans hf); exact ⟨by kernel_rfl, by kernel_rfl⟩
  · cases hx; obtain rfl := Option.some.inj (Tryz.func274.symm.trans hf); exact ⟨by kernel_rfl, by kernel_rfl⟩
  · cases hx; obtain rfl := Option.some.inj (Tryz.func203.symm.trans hf); exact ⟨by kernel_rfl, by kernel_rfl⟩
  · cases hx; obtain rfl := Option.some.inj (Tryz.func337.symm.trans hf); exact ⟨by kernel_rfl, by kernel_rfl⟩
  · cases hx; obtain rfl := Option.some.inj (Tryz.func88.symm.trans hf); exact ⟨by kernel_rfl, by kernel_rfl⟩
  · cases hx; obtain rfl := Option.some.inj (Tryz.func150.symm.trans hf); exact ⟨by kernel_rfl, by kernel_rfl⟩
  · cases hx

/-- The listed variables but for the two that hold interface values. -/
def keepVar (x : String × DataW Unit) : Bool := !(x.1 == "strconv.ErrRange") && !(x.1 == "strconv.ErrSyntax")
noncomputable def laidL : List (String × DataW Unit) := Rows.buildKnownRow.laid.filter keepVar
noncomputable def Y : List (Nat × List Value) × List (List Value) := (gList Tryz.prog 19 laidL).getD ([], [])
theorem hY : gList Tryz.prog 19 laidL = some Y := by kernel_rfl
theorem shut : shutY 19 Y = true := by kernel_rfl
noncomputable abbrev Z : AH := startL 19 Y
end Go.Proofs.YtebaekbmminjnaaGreatDoor.V
