/- The seat's own words for the small machine: the served functions, those that write to blocks of their callers, the listed variables' cells. Conditions: none. -/
import Derived.Test.YtibffohcmegooaaGreatDoorKa
import Derived.Test.YtibffohcmegooaaGreatDoorChecked
import Derived.Test.YtibffohcmegooaaGreatDoorRows
namespace Go.Proofs.YtibffohcmegooaaGreatDoor.V
set_option linter.all false
open Go
set_option maxRecDepth 1000000

def ext1 : FuncId → Option Ext := fun g => match g with
  | 283 => some .cmp
  | 327 => some .indexByte
  | 187 => some .bits64
  | 295 => some .bits64
  | 184 => some .from64
  | 371 => some .from64
  | 116 => some .same
  | 322 => some .noZero
  | _ => none
def codeOf : List (Nat × Nat) → FuncId → Nat
  | [], _ => 0
  | (x, c) :: xs, g => match Nat.beq g x with | true => c | false => codeOf xs g
def mt1 : FuncId → Nat := codeOf [(244, 1), (285, 1), (338, 1), (312, 1), (300, 1), (298, 1), (247, 1), (36, 1), (62, 1), (101, 1), (102, 1), (103, 1), (104, 1), (105, 1), (106, 1), (107, 1), (108, 1), (17, 1), (33, 1), (35, 1), (23, 1), (24, 1), (15, 1), (13, 2), (28, 2), (30, 2), (46, 2), (27, 2), (47, 2), (29, 2), (71, 2), (73, 1), (50, 1), (217, 1), (273, 1), (216, 1), (271, 1), (51, 1), (13, 2), (28, 2), (30, 2), (399, 1), (132, 4), (254, 1), (255, 1), (256, 1), (257, 1), (315, 1), (193, 1)]
def pt1 : FuncId → Bool := fun g => match codeOf [(254, 1), (255, 1), (256, 1), (257, 1), (315, 1), (194, 1), (132, 1)] g with | 0 => false | _ => true

theorem noNum : NoNum Tryz.prog := noNum_of (by kernel_rfl)
theorem ext_ok : ExtOK Tryz.prog ext1 := by
  intro g x fn hx hf
  unfold ext1 at hx
  split at hx
  · cases hx; obtain rfl := Option.some.inj (Tryz.func283.symm.trans hf); exact ⟨by kernel_rfl, by kernel_rfl⟩
  · cases hx; obtain rfl := Option.some.inj (Tryz.func327.symm.trans hf); exact ⟨by kernel_rfl, by kernel_rfl⟩
  · cases hx; obtain rfl := Option.some.inj (Tryz.func187.symm.trans hf); exact ⟨by kernel_rfl, by kernel_rfl⟩
  · cases hx; obtain rfl := Option.some.inj (Tryz.func295.symm.trans hf); exact ⟨by kernel_rfl, by kernel_rfl⟩
  · cases hx; obtain rfl := Option.some.inj (Tryz.func184.symm.trans hf); exact ⟨by kernel_rfl, by kernel_rfl⟩
  · cases hx; obtain rfl := Option.some.inj (Tryz.func371.symm.trans hf); exact ⟨by kernel_rfl, by kernel_rfl⟩
  · cases hx; obtain rfl := Option.some.inj (Tryz.func116.symm.trans hf); exact ⟨by kernel_rfl, by kernel_rfl⟩
  · cases hx; obtain rfl := Option.some.inj (Tryz.func322.symm.trans hf); exact ⟨by kernel_rfl, by kernel_rfl⟩
  · cases hx

/-- The listed variables but for the two that hold interface values. -/
def keepVar (x : String × DataW Unit) : Bool := !(x.1 == "strconv.ErrRange") && !(x.1 == "strconv.ErrSyntax")
noncomputable def laidL : List (String × DataW Unit) := Rows.itemManyRow.laid.filter keepVar
noncomputable def Y : List (Nat × List Value) × List (List Value) := (gList Tryz.prog 19 laidL).getD ([], [])
theorem hY : gList Tryz.prog 19 laidL = some Y := by kernel_rfl
theorem shut : shutY 19 Y = true := by kernel_rfl
noncomputable abbrev Z : AH := startL 19 Y
end Go.Proofs.YtibffohcmegooaaGreatDoor.V
