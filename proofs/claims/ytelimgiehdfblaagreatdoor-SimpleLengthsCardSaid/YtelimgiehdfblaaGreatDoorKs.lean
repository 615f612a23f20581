/- The seat's own words for the small machine: the served functions, those that write to blocks of their callers, the listed variables' cells. Conditions: none. -/
import Derived.Test.YtelimgiehdfblaaGreatDoorKz
import Derived.Test.YtelimgiehdfblaaGreatDoorChecked
import Derived.Test.YtelimgiehdfblaaGreatDoorRows
namespace Go.Proofs.YtelimgiehdfblaaGreatDoor.V
set_option linter.all false
open Go
set_option maxRecDepth 1000000

def ext1 : FuncId → Option Ext := fun g => match g with
  | 213 => some .cmp
  | 75 => some .count
  | 150 => some .indexByte
  | 230 => some .bits64
  | 292 => some .bits64
  | 228 => some .from64
  | 352 => some .from64
  | 100 => some .same
  | 101 => some .noZero
  | _ => none
def codeOf : List (Nat × Nat) → FuncId → Nat
  | [], _ => 0
  | (x, c) :: xs, g => match Nat.beq g x with | true => c | false => codeOf xs g
def mt1 : FuncId → Nat := codeOf [(265, 1), (323, 1), (310, 1), (298, 1), (295, 1), (270, 1), (45, 2), (73, 1), (51, 1), (266, 1), (209, 1), (50, 1), (74, 1), (52, 1), (382, 1), (185, 4), (277, 1), (278, 1), (279, 1), (280, 1), (312, 1), (236, 1), (34, 4), (155, 1), (91, 1), (159, 1), (157, 1), (208, 1), (158, 1), (110, 1), (160, 1), (161, 1), (111, 1), (90, 1), (62, 1), (64, 1), (112, 1), (93, 1), (92, 1), (63, 1), (113, 1), (21, 2), (44, 2)]
def pt1 : FuncId → Bool := fun g => match codeOf [(277, 1), (278, 1), (279, 1), (280, 1), (312, 1), (237, 1), (185, 1), (155, 1), (159, 1), (157, 1), (208, 1), (158, 1), (110, 1), (111, 1), (90, 1), (62, 1)] g with | 0 => false | _ => true

theorem noNum : NoNum Tryz.prog := noNum_of (by kernel_rfl)
theorem ext_ok : ExtOK Tryz.prog ext1 := by
  intro g x fn hx hf
  unfold ext1 at hx
  split at hx
  · cases hx; obtain rfl := Option.some.inj (Tryz.func213.symm.trans hf); exact ⟨by kernel_rfl, by kernel_rfl⟩
  · cases hx; obtain rfl := Option.some.inj (Tryz.func75.symm.trans hf); exact ⟨by kernel_rfl, by kernel_rfl⟩
  · cases hx; obtain rfl := Option.some.inj (Tryz.func150.symm.trans hf); exact ⟨by kernel_rfl, by kernel_rfl⟩
  · cases hx; obtain rfl := Option.some.inj (Tryz.func230.symm.trans hf); exact ⟨by kernel_rfl, by kernel_rfl⟩
  · cases hx; obtain rfl := Option.some.inj (Tryz.func292.symm.trans hf); exact ⟨by kernel_rfl, by kernel_rfl⟩
  · cases hx; obtain rfl := Option.some.inj (Tryz.func228.symm.trans hf); exact ⟨by kernel_rfl, by kernel_rfl⟩
  · cases hx; obtain rfl := Option.some.inj (Tryz.func352.symm.trans hf); exact ⟨by kernel_rfl, by kernel_rfl⟩
  · cases hx; obtain rfl := Option.some.inj (Tryz.func100.symm.trans hf); exact ⟨by kernel_rfl, by kernel_rfl⟩
  · cases hx; obtain rfl := Option.some.inj (Tryz.func101.symm.trans hf); exact ⟨by kernel_rfl, by kernel_rfl⟩
  · cases hx

/-- The listed variables but for the two that hold interface values. -/
def keepVar (x : String × DataW Unit) : Bool := !(x.1 == "strconv.ErrRange") && !(x.1 == "strconv.ErrSyntax")
noncomputable def laidL : List (String × DataW Unit) := Rows.simpleKnownRow.laid.filter keepVar
noncomputable def Y : List (Nat × List Value) × List (List Value) := (gList Tryz.prog 19 laidL).getD ([], [])
theorem hY : gList Tryz.prog 19 laidL = some Y := by kernel_rfl
theorem shut : shutY 19 Y = true := by kernel_rfl
noncomputable abbrev Z : AH := startL 19 Y
end Go.Proofs.YtelimgiehdfblaaGreatDoor.V
