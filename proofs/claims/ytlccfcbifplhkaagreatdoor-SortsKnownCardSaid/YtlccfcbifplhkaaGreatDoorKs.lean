/- The seat's own words for the small machine: the served functions, those that write to blocks of their callers, the listed variables' cells. Conditions: none. -/
import Derived.Test.YtlccfcbifplhkaaGreatDoorKa
import Derived.Test.YtlccfcbifplhkaaGreatDoorChecked
import Derived.Test.YtlccfcbifplhkaaGreatDoorRows
namespace Go.Proofs.YtlccfcbifplhkaaGreatDoor.V
open Go
set_option maxRecDepth 1000000

def ext1 : FuncId → Option Ext := fun g => match g with
  | 144 => some .cmp
  | 142 => some .cmp
  | 108 => some .count
  | 202 => some .indexByte
  | 175 => some .bits64
  | 275 => some .bits64
  | 169 => some .from64
  | 334 => some .from64
  | 266 => some .same
  | _ => none
def anyOf : List Nat → FuncId → Bool
  | [], _ => false
  | x :: xs, g => match Nat.beq g x with | true => true | false => anyOf xs g
def mt1 : FuncId → Bool := anyOf [222, 143, 42, 54, 55, 56, 77, 37, 50, 70, 71, 105, 145, 305, 61, 280, 278, 233]

theorem noNum : NoNum Tryz.prog := noNum_of (by kernel_rfl)
theorem ext_ok : ExtOK Tryz.prog ext1 := by
  intro g x fn hx hf
  unfold ext1 at hx
  split at hx
  · cases hx; obtain rfl := Option.some.inj (Tryz.func144.symm.trans hf); exact ⟨by kernel_rfl, by kernel_rfl⟩
  · cases hx; obtain rfl := Option.some.inj (Tryz.func142.symm.trans hf); exact ⟨by kernel_rfl, by kernel_rfl⟩
  · cases hx; obtain rfl := Option.some.inj (Tryz.func108.symm.trans hf); exact ⟨by kernel_rfl, by kernel_rfl⟩
  · cases hx; obtain rfl := Option.some.inj (Tryz.func202.symm.trans hf); exact ⟨by kernel_rfl, by kernel_rfl⟩
  · cases hx; obtain rfl := Option.some.inj (Tryz.func175.symm.trans hf); exact ⟨by kernel_rfl, by kernel_rfl⟩
  · cases hx; obtain rfl := Option.some.inj (Tryz.func275.symm.trans hf); exact ⟨by kernel_rfl, by kernel_rfl⟩
  · cases hx; obtain rfl := Option.some.inj (Tryz.func169.symm.trans hf); exact ⟨by kernel_rfl, by kernel_rfl⟩
  · cases hx; obtain rfl := Option.some.inj (Tryz.func334.symm.trans hf); exact ⟨by kernel_rfl, by kernel_rfl⟩
  · cases hx; obtain rfl := Option.some.inj (Tryz.func266.symm.trans hf); exact ⟨by kernel_rfl, by kernel_rfl⟩
  · cases hx

/-- The listed variables but for the two that hold interface values. -/
def keepVar (x : String × DataW Unit) : Bool := !(x.1 == "strconv.ErrRange") && !(x.1 == "strconv.ErrSyntax")
noncomputable def laidL : List (String × DataW Unit) := Rows.sortsKnownRow.laid.filter keepVar
noncomputable def Y : List (Nat × List Value) × List (List Value) := (gList Tryz.prog 19 laidL).getD ([], [])
theorem hY : gList Tryz.prog 19 laidL = some Y := by kernel_rfl
theorem shut : shutY 19 Y = true := by kernel_rfl
noncomputable abbrev Z : AH := startL 19 Y
end Go.Proofs.YtlccfcbifplhkaaGreatDoor.V
