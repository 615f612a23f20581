/- The seat's own words for the small machine: the served functions, those that write to blocks of their callers, the listed variables' cells. Conditions: none. -/
import Derived.Test.YtiecjjcemnafaaaGreatDoorKa
import Derived.Test.YtiecjjcemnafaaaGreatDoorChecked
import Derived.Test.YtiecjjcemnafaaaGreatDoorRows
namespace Go.Proofs.YtiecjjcemnafaaaGreatDoor.V
set_option linter.all false
open Go
set_option maxRecDepth 1000000

def ext1 : FuncId → Option Ext := fun g => match g with
  | 312 => some .cmp
  | 307 => some .indexByte
  | 229 => some .bits64
  | 325 => some .bits64
  | 226 => some .from64
  | 388 => some .from64
  | 118 => some .same
  | 119 => some .noZero
  | _ => none
def codeOf : List (Nat × Nat) → FuncId → Nat
  | [], _ => 0
  | (x, c) :: xs, g => match Nat.beq g x with | true => c | false => codeOf xs g
def mt1 : FuncId → Nat := codeOf [(284, 1), (314, 1), (358, 1), (342, 1), (330, 1), (328, 1), (287, 1), (33, 1), (61, 1), (95, 1), (96, 1), (97, 1), (98, 1), (99, 1), (100, 1), (101, 1), (102, 1), (41, 1), (74, 1), (76, 1), (46, 1), (47, 1), (44, 1), (42, 2), (77, 2), (78, 2), (105, 2), (66, 2), (106, 2), (68, 2), (94, 2), (82, 1), (51, 1), (141, 1), (191, 1), (50, 1), (83, 1), (53, 1), (42, 2), (77, 2), (78, 2), (416, 1), (174, 4), (294, 1), (295, 1), (296, 1), (297, 1), (344, 1), (235, 1)]

theorem noNum : NoNum Tryz.prog := noNum_of (by kernel_rfl)
theorem ext_ok : ExtOK Tryz.prog ext1 := by
  intro g x fn hx hf
  unfold ext1 at hx
  split at hx
  · cases hx; obtain rfl := Option.some.inj (Tryz.func312.symm.trans hf); exact ⟨by kernel_rfl, by kernel_rfl⟩
  · cases hx; obtain rfl := Option.some.inj (Tryz.func307.symm.trans hf); exact ⟨by kernel_rfl, by kernel_rfl⟩
  · cases hx; obtain rfl := Option.some.inj (Tryz.func229.symm.trans hf); exact ⟨by kernel_rfl, by kernel_rfl⟩
  · cases hx; obtain rfl := Option.some.inj (Tryz.func325.symm.trans hf); exact ⟨by kernel_rfl, by kernel_rfl⟩
  · cases hx; obtain rfl := Option.some.inj (Tryz.func226.symm.trans hf); exact ⟨by kernel_rfl, by kernel_rfl⟩
  · cases hx; obtain rfl := Option.some.inj (Tryz.func388.symm.trans hf); exact ⟨by kernel_rfl, by kernel_rfl⟩
  · cases hx; obtain rfl := Option.some.inj (Tryz.func118.symm.trans hf); exact ⟨by kernel_rfl, by kernel_rfl⟩
  · cases hx; obtain rfl := Option.some.inj (Tryz.func119.symm.trans hf); exact ⟨by kernel_rfl, by kernel_rfl⟩
  · cases hx

/-- The listed variables but for the two that hold interface values. -/
def keepVar (x : String × DataW Unit) : Bool := !(x.1 == "strconv.ErrRange") && !(x.1 == "strconv.ErrSyntax")
noncomputable def laidL : List (String × DataW Unit) := Rows.itemDepthRow.laid.filter keepVar
noncomputable def Y : List (Nat × List Value) × List (List Value) := (gList Tryz.prog 19 laidL).getD ([], [])
theorem hY : gList Tryz.prog 19 laidL = some Y := by kernel_rfl
theorem shut : shutY 19 Y = true := by kernel_rfl
noncomputable abbrev Z : AH := startL 19 Y
end Go.Proofs.YtiecjjcemnafaaaGreatDoor.V
