/- What the types of the functions that are walked come to. Conditions: none. -/
import Derived.Test.YtelimgiehdfblaaGreatDoorWf
import Derived.Test.YtelimgiehdfblaaGreatDoorProg
import Derived.KernelRfl
namespace Go.Proofs.YtelimgiehdfblaaGreatDoor.V
set_option linter.all false
open Go
noncomputable section
theorem sz3 : szOf Tryz.prog 3 = some 1 := by kernel_rfl
theorem ag3 : isAggB Tryz.prog 3 = some false := by kernel_rfl
theorem ze3 : zeroOf Tryz.prog 3 = some (.int .i64 (0)) := by kernel_rfl
theorem sz4 : szOf Tryz.prog 4 = some 1 := by kernel_rfl
theorem ag4 : isAggB Tryz.prog 4 = some false := by kernel_rfl
theorem ze4 : zeroOf Tryz.prog 4 = some (.bool false) := by kernel_rfl
theorem sz9 : szOf Tryz.prog 9 = some 1 := by kernel_rfl
theorem ag9 : isAggB Tryz.prog 9 = some false := by kernel_rfl
theorem ze9 : zeroOf Tryz.prog 9 = some (.string ⟨#[]⟩) := by kernel_rfl
theorem sz21 : szOf Tryz.prog 21 = some 1 := by kernel_rfl
theorem ag21 : isAggB Tryz.prog 21 = some false := by kernel_rfl
theorem ze21 : zeroOf Tryz.prog 21 = some (.int .i32 (0)) := by kernel_rfl
theorem sz22 : szOf Tryz.prog 22 = some 1 := by kernel_rfl
theorem ag22 : isAggB Tryz.prog 22 = some false := by kernel_rfl
theorem ze22 : zeroOf Tryz.prog 22 = some (.slice none 0 0) := by kernel_rfl
theorem sz24 : szOf Tryz.prog 24 = some 8 := by kernel_rfl
theorem ag24 : isAggB Tryz.prog 24 = some true := by kernel_rfl
theorem ze24 : zeroOf Tryz.prog 24 = some (.agg #[.int .i64 (0), .bool false, .slice none 0 0, .string ⟨#[]⟩, .string ⟨#[]⟩, .string ⟨#[]⟩, .int .i64 (0), .int .i64 (0)]) := by kernel_rfl
theorem sz27 : szOf Tryz.prog 27 = some 1 := by kernel_rfl
theorem ag27 : isAggB Tryz.prog 27 = some false := by kernel_rfl
theorem ze27 : zeroOf Tryz.prog 27 = some (.slice none 0 0) := by kernel_rfl
theorem sz28 : szOf Tryz.prog 28 = some 1 := by kernel_rfl
theorem ag28 : isAggB Tryz.prog 28 = some false := by kernel_rfl
theorem ze28 : zeroOf Tryz.prog 28 = some (.int .i64 (0)) := by kernel_rfl
theorem sz36 : szOf Tryz.prog 36 = some 1 := by kernel_rfl
theorem ag36 : isAggB Tryz.prog 36 = some false := by kernel_rfl
theorem ze36 : zeroOf Tryz.prog 36 = some (.nilFunc) := by kernel_rfl
theorem sz39 : szOf Tryz.prog 39 = some 2 := by kernel_rfl
theorem ag39 : isAggB Tryz.prog 39 = some true := by kernel_rfl
theorem ze39 : zeroOf Tryz.prog 39 = some (.agg #[.int .i64 (0), .string ⟨#[]⟩]) := by kernel_rfl
theorem sz47 : szOf Tryz.prog 47 = some 1 := by kernel_rfl
theorem ag47 : isAggB Tryz.prog 47 = some false := by kernel_rfl
theorem ze47 : zeroOf Tryz.prog 47 = some (.slice none 0 0) := by kernel_rfl
theorem sz49 : szOf Tryz.prog 49 = some 2 := by kernel_rfl
theorem ag49 : isAggB Tryz.prog 49 = some true := by kernel_rfl
theorem ze49 : zeroOf Tryz.prog 49 = some (.agg #[.nilFunc, .slice none 0 0]) := by kernel_rfl
theorem sz54 : szOf Tryz.prog 54 = some 1 := by kernel_rfl
theorem ag54 : isAggB Tryz.prog 54 = some false := by kernel_rfl
theorem ze54 : zeroOf Tryz.prog 54 = some (.nilFunc) := by kernel_rfl
theorem sz59 : szOf Tryz.prog 59 = some 1 := by kernel_rfl
theorem ag59 : isAggB Tryz.prog 59 = some false := by kernel_rfl
theorem ze59 : zeroOf Tryz.prog 59 = some (.nilFunc) := by kernel_rfl
theorem sz66 : szOf Tryz.prog 66 = some 1 := by kernel_rfl
theorem ag66 : isAggB Tryz.prog 66 = some false := by kernel_rfl
theorem ze66 : zeroOf Tryz.prog 66 = some (.pointer none) := by kernel_rfl
theorem sz72 : szOf Tryz.prog 72 = some 2 := by kernel_rfl
theorem ag72 : isAggB Tryz.prog 72 = some true := by kernel_rfl
theorem ze72 : zeroOf Tryz.prog 72 = some (.agg #[.string ⟨#[]⟩, .string ⟨#[]⟩]) := by kernel_rfl
theorem sz73 : szOf Tryz.prog 73 = some 4 := by kernel_rfl
theorem ag73 : isAggB Tryz.prog 73 = some true := by kernel_rfl
theorem ze73 : zeroOf Tryz.prog 73 = some (.agg #[.string ⟨#[]⟩, .string ⟨#[]⟩, .string ⟨#[]⟩, .string ⟨#[]⟩]) := by kernel_rfl
theorem sz112 : szOf Tryz.prog 112 = some 1 := by kernel_rfl
theorem ag112 : isAggB Tryz.prog 112 = some false := by kernel_rfl
theorem ze112 : zeroOf Tryz.prog 112 = some (.slice none 0 0) := by kernel_rfl
theorem sz114 : szOf Tryz.prog 114 = some 5 := by kernel_rfl
theorem ag114 : isAggB Tryz.prog 114 = some true := by kernel_rfl
theorem ze114 : zeroOf Tryz.prog 114 = some (.agg #[.slice none 0 0, .int .i64 (0), .bool false, .bool false, .int .i64 (0)]) := by kernel_rfl
theorem sz148 : szOf Tryz.prog 148 = some 1 := by kernel_rfl
theorem ag148 : isAggB Tryz.prog 148 = some false := by kernel_rfl
theorem ze148 : zeroOf Tryz.prog 148 = some (.nilFunc) := by kernel_rfl
theorem sz151 : szOf Tryz.prog 151 = some 1 := by kernel_rfl
theorem ag151 : isAggB Tryz.prog 151 = some false := by kernel_rfl
theorem ze151 : zeroOf Tryz.prog 151 = some (.nilFunc) := by kernel_rfl
theorem sz152 : szOf Tryz.prog 152 = some 1 := by kernel_rfl
theorem ag152 : isAggB Tryz.prog 152 = some false := by kernel_rfl
theorem ze152 : zeroOf Tryz.prog 152 = some (.map none) := by kernel_rfl
theorem sz154 : szOf Tryz.prog 154 = some 2 := by kernel_rfl
theorem ag154 : isAggB Tryz.prog 154 = some true := by kernel_rfl
theorem ze154 : zeroOf Tryz.prog 154 = some (.agg #[.int .i64 (0), .int .i64 (0)]) := by kernel_rfl

section
variable {P : Program} {base : Orc} {walk : Nat → Bool} (E : Alike P Tryz.prog base walk)
include E
theorem U3 : P.underlying 3 = some (.int (.i64)) := (E.ut 3).trans Tryz.underlying3
theorem S3 : szOf P 3 = some 1 := (E.sz 3).trans sz3
theorem A3 : isAggB P 3 = some false := (E.ag 3).trans ag3
theorem Z3 : zeroOf P 3 = some (.int .i64 (0)) := (E.ze 3).trans ze3
theorem U4 : P.underlying 4 = some (.bool) := (E.ut 4).trans Tryz.underlying4
theorem S4 : szOf P 4 = some 1 := (E.sz 4).trans sz4
theorem A4 : isAggB P 4 = some false := (E.ag 4).trans ag4
theorem Z4 : zeroOf P 4 = some (.bool false) := (E.ze 4).trans ze4
theorem U9 : P.underlying 9 = some (.string) := (E.ut 9).trans Tryz.underlying9
theorem S9 : szOf P 9 = some 1 := (E.sz 9).trans sz9
theorem A9 : isAggB P 9 = some false := (E.ag 9).trans ag9
theorem Z9 : zeroOf P 9 = some (.string ⟨#[]⟩) := (E.ze 9).trans ze9
theorem U21 : P.underlying 21 = some (.int (.i32)) := (E.ut 21).trans Tryz.underlying21
theorem S21 : szOf P 21 = some 1 := (E.sz 21).trans sz21
theorem A21 : isAggB P 21 = some false := (E.ag 21).trans ag21
theorem Z21 : zeroOf P 21 = some (.int .i32 (0)) := (E.ze 21).trans ze21
theorem U22 : P.underlying 22 = some (.slice 9) := (E.ut 22).trans Tryz.underlying22
theorem S22 : szOf P 22 = some 1 := (E.sz 22).trans sz22
theorem A22 : isAggB P 22 = some false := (E.ag 22).trans ag22
theorem Z22 : zeroOf P 22 = some (.slice none 0 0) := (E.ze 22).trans ze22
theorem U24 : P.underlying 24 = some (.struct #[{ name := "Base", type := 3, offset := 0, embedded := false, tag := "", pkgPath := "", byteOffset := 0 }, { name := "List", type := 4, offset := 1, embedded := false, tag := "", pkgPath := "", byteOffset := 8 }, { name := "Enum", type := 22, offset := 2, embedded := false, tag := "", pkgPath := "", byteOffset := 16 }, { name := "Pattern", type := 9, offset := 3, embedded := false, tag := "", pkgPath := "", byteOffset := 40 }, { name := "Min", type := 9, offset := 4, embedded := false, tag := "", pkgPath := "", byteOffset := 56 }, { name := "Max", type := 9, offset := 5, embedded := false, tag := "", pkgPath := "", byteOffset := 72 }, { name := "Short", type := 3, offset := 6, embedded := false, tag := "", pkgPath := "", byteOffset := 88 }, { name := "Long", type := 3, offset := 7, embedded := false, tag := "", pkgPath := "", byteOffset := 96 }]) := (E.ut 24).trans Tryz.underlying24
theorem S24 : szOf P 24 = some 8 := (E.sz 24).trans sz24
theorem A24 : isAggB P 24 = some true := (E.ag 24).trans ag24
theorem Z24 : zeroOf P 24 = some (.agg #[.int .i64 (0), .bool false, .slice none 0 0, .string ⟨#[]⟩, .string ⟨#[]⟩, .string ⟨#[]⟩, .int .i64 (0), .int .i64 (0)]) := (E.ze 24).trans ze24
theorem U27 : P.underlying 27 = some (.slice 39) := (E.ut 27).trans Tryz.underlying27
theorem S27 : szOf P 27 = some 1 := (E.sz 27).trans sz27
theorem A27 : isAggB P 27 = some false := (E.ag 27).trans ag27
theorem Z27 : zeroOf P 27 = some (.slice none 0 0) := (E.ze 27).trans ze27
theorem U28 : P.underlying 28 = some (.int (.i64)) := (E.ut 28).trans Tryz.underlying28
theorem S28 : szOf P 28 = some 1 := (E.sz 28).trans sz28
theorem A28 : isAggB P 28 = some false := (E.ag 28).trans ag28
theorem Z28 : zeroOf P 28 = some (.int .i64 (0)) := (E.ze 28).trans ze28
theorem U36 : P.underlying 36 = some (.func #[9] #[4] false) := (E.ut 36).trans Tryz.underlying36
theorem S36 : szOf P 36 = some 1 := (E.sz 36).trans sz36
theorem A36 : isAggB P 36 = some false := (E.ag 36).trans ag36
theorem Z36 : zeroOf P 36 = some (.nilFunc) := (E.ze 36).trans ze36
theorem U39 : P.underlying 39 = some (.struct #[{ name := "Kind", type := 3, offset := 0, embedded := false, tag := "", pkgPath := "", byteOffset := 0 }, { name := "Text", type := 9, offset := 1, embedded := false, tag := "", pkgPath := "", byteOffset := 8 }]) := (E.ut 39).trans Tryz.underlying39
theorem S39 : szOf P 39 = some 2 := (E.sz 39).trans sz39
theorem A39 : isAggB P 39 = some true := (E.ag 39).trans ag39
theorem Z39 : zeroOf P 39 = some (.agg #[.int .i64 (0), .string ⟨#[]⟩]) := (E.ze 39).trans ze39
theorem U47 : P.underlying 47 = some (.slice 59) := (E.ut 47).trans Tryz.underlying47
theorem S47 : szOf P 47 = some 1 := (E.sz 47).trans sz47
theorem A47 : isAggB P 47 = some false := (E.ag 47).trans ag47
theorem Z47 : zeroOf P 47 = some (.slice none 0 0) := (E.ze 47).trans ze47
theorem U49 : P.underlying 49 = some (.struct #[{ name := "fits", type := 36, offset := 0, embedded := false, tag := "", pkgPath := "chisel/simple", byteOffset := 0 }, { name := "facets", type := 47, offset := 1, embedded := false, tag := "", pkgPath := "chisel/simple", byteOffset := 8 }]) := (E.ut 49).trans Tryz.underlying49
theorem S49 : szOf P 49 = some 2 := (E.sz 49).trans sz49
theorem A49 : isAggB P 49 = some true := (E.ag 49).trans ag49
theorem Z49 : zeroOf P 49 = some (.agg #[.nilFunc, .slice none 0 0]) := (E.ze 49).trans ze49
theorem U54 : P.underlying 54 = some (.func #[36] #[] false) := (E.ut 54).trans Tryz.underlying54
theorem S54 : szOf P 54 = some 1 := (E.sz 54).trans sz54
theorem A54 : isAggB P 54 = some false := (E.ag 54).trans ag54
theorem Z54 : zeroOf P 54 = some (.nilFunc) := (E.ze 54).trans ze54
theorem U59 : P.underlying 59 = some (.func #[9, 39] #[4] false) := (E.ut 59).trans Tryz.underlying59
theorem S59 : szOf P 59 = some 1 := (E.sz 59).trans sz59
theorem A59 : isAggB P 59 = some false := (E.ag 59).trans ag59
theorem Z59 : zeroOf P 59 = some (.nilFunc) := (E.ze 59).trans ze59
theorem U66 : P.underlying 66 = some (.pointer 114) := (E.ut 66).trans Tryz.underlying66
theorem S66 : szOf P 66 = some 1 := (E.sz 66).trans sz66
theorem A66 : isAggB P 66 = some false := (E.ag 66).trans ag66
theorem Z66 : zeroOf P 66 = some (.pointer none) := (E.ze 66).trans ze66
theorem U72 : P.underlying 72 = some (.struct #[{ name := "op", type := 9, offset := 0, embedded := false, tag := "", pkgPath := "chisel/simple", byteOffset := 0 }, { name := "bound", type := 9, offset := 1, embedded := false, tag := "", pkgPath := "chisel/simple", byteOffset := 16 }]) := (E.ut 72).trans Tryz.underlying72
theorem S72 : szOf P 72 = some 2 := (E.sz 72).trans sz72
theorem A72 : isAggB P 72 = some true := (E.ag 72).trans ag72
theorem Z72 : zeroOf P 72 = some (.agg #[.string ⟨#[]⟩, .string ⟨#[]⟩]) := (E.ze 72).trans ze72
theorem U73 : P.underlying 73 = some (.array 2 72) := (E.ut 73).trans Tryz.underlying73
theorem S73 : szOf P 73 = some 4 := (E.sz 73).trans sz73
theorem A73 : isAggB P 73 = some true := (E.ag 73).trans ag73
theorem Z73 : zeroOf P 73 = some (.agg #[.string ⟨#[]⟩, .string ⟨#[]⟩, .string ⟨#[]⟩, .string ⟨#[]⟩]) := (E.ze 73).trans ze73
theorem U112 : P.underlying 112 = some (.slice 118) := (E.ut 112).trans Tryz.underlying112
theorem S112 : szOf P 112 = some 1 := (E.sz 112).trans sz112
theorem A112 : isAggB P 112 = some false := (E.ag 112).trans ag112
theorem Z112 : zeroOf P 112 = some (.slice none 0 0) := (E.ze 112).trans ze112
theorem U114 : P.underlying 114 = some (.struct #[{ name := "steps", type := 112, offset := 0, embedded := false, tag := "", pkgPath := "chisel/regex", byteOffset := 0 }, { name := "groups", type := 3, offset := 1, embedded := false, tag := "", pkgPath := "chisel/regex", byteOffset := 24 }, { name := "fold", type := 4, offset := 2, embedded := false, tag := "", pkgPath := "chisel/regex", byteOffset := 32 }, { name := "lines", type := 4, offset := 3, embedded := false, tag := "", pkgPath := "chisel/regex", byteOffset := 33 }, { name := "weight", type := 3, offset := 4, embedded := false, tag := "", pkgPath := "chisel/regex", byteOffset := 40 }]) := (E.ut 114).trans Tryz.underlying114
theorem S114 : szOf P 114 = some 5 := (E.sz 114).trans sz114
theorem A114 : isAggB P 114 = some true := (E.ag 114).trans ag114
theorem Z114 : zeroOf P 114 = some (.agg #[.slice none 0 0, .int .i64 (0), .bool false, .bool false, .int .i64 (0)]) := (E.ze 114).trans ze114
theorem U148 : P.underlying 148 = some (.func #[9] #[9, 4] false) := (E.ut 148).trans Tryz.underlying148
theorem S148 : szOf P 148 = some 1 := (E.sz 148).trans sz148
theorem A148 : isAggB P 148 = some false := (E.ag 148).trans ag148
theorem Z148 : zeroOf P 148 = some (.nilFunc) := (E.ze 148).trans ze148
theorem U151 : P.underlying 151 = some (.func #[39] #[9, 4] false) := (E.ut 151).trans Tryz.underlying151
theorem S151 : szOf P 151 = some 1 := (E.sz 151).trans sz151
theorem A151 : isAggB P 151 = some false := (E.ag 151).trans ag151
theorem Z151 : zeroOf P 151 = some (.nilFunc) := (E.ze 151).trans ze151
theorem U152 : P.underlying 152 = some (.map 154 151) := (E.ut 152).trans Tryz.underlying152
theorem S152 : szOf P 152 = some 1 := (E.sz 152).trans sz152
theorem A152 : isAggB P 152 = some false := (E.ag 152).trans ag152
theorem Z152 : zeroOf P 152 = some (.map none) := (E.ze 152).trans ze152
theorem U154 : P.underlying 154 = some (.array 2 3) := (E.ut 154).trans Tryz.underlying154
theorem S154 : szOf P 154 = some 2 := (E.sz 154).trans sz154
theorem A154 : isAggB P 154 = some true := (E.ag 154).trans ag154
theorem Z154 : zeroOf P 154 = some (.agg #[.int .i64 (0), .int .i64 (0)]) := (E.ze 154).trans ze154
end

end
end Go.Proofs.YtelimgiehdfblaaGreatDoor.V

namespace Go.Proofs.YtelimgiehdfblaaGreatDoor.V
set_option linter.all false
open Go
noncomputable section

theorem dec_pos (s : ByteArray) (i : Nat) : 1 ≤ (Utf8.decode s i).2 := by
  simp only [Utf8.decode]
  repeat' split
  all_goals simp_all
theorem dec_max (s : ByteArray) (i : Nat) : (Utf8.decode s i).1 ≤ 1114111 := by
  have hb : ∀ k, (s.get! (i + k)).toNat < 256 := fun k => (s.get! (i + k)).toNat_lt
  have h0 := hb 0; have h1 := hb 1; have h2 := hb 2; have h3 := hb 3
  simp only [Utf8.decode]
  repeat' split
  all_goals simp_all [Utf8.runeError, Utf8.valid]
  all_goals omega

/-- A character, by its number. -/
def charB (c : Nat) : Bool := decide (c = 9 ∨ c = 10 ∨ c = 13 ∨ (32 ≤ c ∧ c ≤ 55295) ∨ (57344 ≤ c ∧ c ≤ 65533) ∨ 65536 ≤ c)
/-- The bytes of U+FFFD stand ahead. -/
def badB (l : List UInt8) : Bool := match decide (3 ≤ l.length) with
  | true => bytesEq (l.take 3) [239, 191, 189]
  | false => false
def okB (s : ByteArray) (p : Nat) : Bool := match charB (Utf8.decode s p).1 with
  | true => (match decide ((Utf8.decode s p).1 = 65533) with | true => badB (s.data.toList.drop p) | false => true)
  | false => false
def isTF (s : ByteArray) : Nat → Nat → Bool
  | 0, _ => true
  | f + 1, p => match decide (p < s.data.toList.length) with
    | true => (match okB s p with | true => isTF s f (p + (Utf8.decode s p).2) | false => false)
    | false => true
def isT (s : ByteArray) : Bool := isTF s (s.data.toList.length + 1) 0
def numF (s : ByteArray) : Nat → Nat → Nat
  | 0, _ => 0
  | f + 1, p => match decide (p < s.data.toList.length) with
    | true => numF s f (p + (Utf8.decode s p).2) + 1
    | false => 0
def numT (s : ByteArray) : Nat := numF s (s.data.toList.length + 1) 0
def lenT (s : ByteArray) : Nat := match isT s with | true => numT s | false => 0

theorem isTF_in {s : ByteArray} {f p : Nat} (h : p < s.data.toList.length) (ho : okB s p = true) : isTF s (f + 1) p = isTF s f (p + (Utf8.decode s p).2) := by
  simp only [isTF, decide_eq_true h, ho]
theorem isTF_no {s : ByteArray} {f p : Nat} (h : p < s.data.toList.length) (ho : okB s p = false) : isTF s (f + 1) p = false := by
  simp only [isTF, decide_eq_true h, ho]
theorem isTF_end {s : ByteArray} {f p : Nat} (h : s.data.toList.length ≤ p) : isTF s f p = true := by
  cases f with
  | zero => rfl
  | succ f => simp only [isTF, decide_eq_false (show ¬ p < s.data.toList.length by omega)]
theorem numF_in {s : ByteArray} {f p : Nat} (h : p < s.data.toList.length) : numF s (f + 1) p = numF s f (p + (Utf8.decode s p).2) + 1 := by
  simp only [numF, decide_eq_true h]
theorem numF_end {s : ByteArray} {f p : Nat} (h : s.data.toList.length ≤ p) : numF s f p = 0 := by
  cases f with
  | zero => rfl
  | succ f => simp only [numF, decide_eq_false (show ¬ p < s.data.toList.length by omega)]
theorem numF_le (s : ByteArray) : ∀ f p, numF s f p ≤ s.data.toList.length - p
  | 0, _ => Nat.zero_le _
  | f + 1, p => by
    have h1 := dec_pos s p
    have h2 := numF_le s f (p + (Utf8.decode s p).2)
    by_cases h : p < s.data.toList.length
    · rw [numF_in h]; omega
    · rw [numF_end (by omega)]; omega
theorem lenT_le (s : ByteArray) : lenT s ≤ s.data.toList.length := by
  unfold lenT
  split
  · exact numF_le s _ 0
  · omega

/-- The functions that are walked. -/
def walkJ : Nat → Bool := fun g => match g with
  | 5 | 11 | 13 | 15 | 16 | 20 | 21 | 22 | 23 | 24 | 28 | 29 | 30 | 33 | 42 | 44 | 45 | 47 | 48 | 49 | 53 | 70 | 71 | 72 | 97 => true
  | _ => false
/-- Who writes what it did not make: 1. -/
def mtJ : FuncId → List Value → Nat := fun g _ => match g with
  | 45 => 1
  | _ => 0

abbrev ptJ (b : Nat) : Value := .pointer (some ⟨b, 0, none⟩)
abbrev tyJ (sh lg : Int) : Array Value := #[.int .i64 1, .bool false, .slice none 0 0, .string ⟨#[]⟩, .string ⟨#[]⟩, .string ⟨#[]⟩, .int .i64 sh, .int .i64 lg]
abbrev atJ (s : ByteArray) : Value := .agg #[.int .i64 1, .string s]

theorem yid_none {P : Program} {base : Orc} (E : Alike P Tryz.prog base walkJ) : P.funcs[yid]? = none := by
  rw [E.fn]
  kernel_rfl

end
end Go.Proofs.YtelimgiehdfblaaGreatDoor.V

namespace Go.Proofs.YtelimgiehdfblaaGreatDoor.V
set_option linter.all false
open Go
noncomputable section

section
variable {P : Program} {G : Nat} {ext : FuncId → Option Ext} {base : Orc}

theorem f97_ok (E : Alike P Tryz.prog base walkJ) {d : Nat} {h : AH} (hd : 1 ≤ d) (hok : HOK h) : deepF P G ext 2199023255552 base mtJ d 97 [.int .i64 1] h = some (.bool true, none) := by
  have u3:=U3 E;have s3:=S3 E;have a3:=A3 E;have e3:=Z3 E
  refine over_eq (by omega) rfl (E.no 97 _ _ rfl) rfl ((E.fn 97).trans Tryz.func97) rfl hok rfl ?_
  have hokl := hok.locked
  have hnl : h.locked.next = h.next := rfl
  have hll : h.locked.lock = h.next := rfl
  have hil : h.locked.imp = h.imp := rfl
  have hfll : h.locked.fl = h.fl := rfl
  conv => whnf
  refine ⟨by simp [Tryz.f97], ?_⟩
  repeat ((conv=>whnf);first|((with_reducible refine Exists.intro ?_ (Exists.intro ?_ (And.intro (a:=_=some (Blk.cells _ _)) ?_ ?_)));rotate_left 2;· (try dsimp only);(repeat first|with_reducible assumption|with_reducible exact uA (by assumption)|with_reducible exact nA (by assumption)|((with_reducible refine uN (by assumption) ?_ ?_);· omega)|((with_reducible refine nN (by assumption) ?_ ?_);· omega)))|((with_reducible refine Exists.intro ?_ (And.intro ?_ ?_));rotate_left;· first|with_reducible assumption|((conv=>lhs;arg 2;whnf);with_reducible assumption)|exact rfl)|((with_reducible refine And.intro (a:=AH.may _ _=true) ?_ ?_);· (try dsimp only);(repeat first|with_reducible assumption|((with_reducible refine New.mayNew (by assumption) (by assumption) ?_ ?_ ?_)<;>omega)|refine Upd.mayOf (by assumption) ?_|refine New.mayOf (by assumption) ?_|refine Ke.mayOf (by assumption) ?_))|((with_reducible refine And.intro (a:=szOf _ _=_) ?_ ?_);· refine Eq.trans (by assumption) ?_;kernel_rfl)|((with_reducible refine And.intro (a:=List.all _ _=true) ?_ ?_);· kernel_rfl)|((with_reducible refine And.intro (a:=_=_) ?_ ?_);· first|with_reducible assumption|rfl)|((with_reducible refine And.intro (a:=_≤_) ?_ ?_);· first|omega|exact Nat.le_of_ble_eq_true (by kernel_rfl))|((with_reducible refine And.intro (a:=_<_) ?_ ?_);· omega)|((with_reducible refine And.intro (a:=_∧_) ?_ ?_);· constructor<;>first|omega|(simp<;>omega))|(refine brk_true ?_ ?_;· first|rfl|(simp only [q1,q2,q3,q4,q7,q8,ne_eq,q5,q6];omega))|(refine brk_false ?_ ?_;· first|rfl|(simp only [q1,q2,q3,q4,q7,q8,ne_eq,q5,q6];omega))|(intro aa uu;(try dsimp only at uu);have okk:=uu.ok;have nxx:=uu.next;have lkk:=uu.lock;have imm:=uu.imp))
  try conv=>whnf
  rfl

theorem f28_ok (E : Alike P Tryz.prog base walkJ) {d c : Nat} {h : AH} (hc : c ≤ 1114111) (hd : 1 ≤ d) (hok : HOK h) : deepF P G ext 2199023255552 base mtJ d 28 [.int .i32 (c : Int)] h = some (.bool (charB c), none) := by
  rcases (show c = 9 ∨ c = 10 ∨ c = 13 ∨ (32 ≤ c ∧ c ≤ 55295) ∨ (57344 ≤ c ∧ c ≤ 65533) ∨ 65536 ≤ c ∨ (c < 32 ∧ c ≠ 9 ∧ c ≠ 10 ∧ c ≠ 13) ∨ (55295 < c ∧ c < 57344) ∨ (65533 < c ∧ c < 65536) by omega) with h1 | h1 | h1 | h1 | h1 | h1 | h1 | h1 | h1
  · have hb : charB c = true := by
      unfold charB
      exact decide_eq_true (by omega)
    rw [hb]
    have u21:=U21 E;have s21:=S21 E;have a21:=A21 E;have e21:=Z21 E
    refine over_eq (by omega) rfl (E.no 28 _ _ rfl) rfl ((E.fn 28).trans Tryz.func28) rfl hok rfl ?_
    have hokl := hok.locked
    have hnl : h.locked.next = h.next := rfl
    have hll : h.locked.lock = h.next := rfl
    have hil : h.locked.imp = h.imp := rfl
    have hfll : h.locked.fl = h.fl := rfl
    conv => whnf
    refine ⟨by simp [Tryz.f28], ?_⟩
    repeat ((conv=>whnf);first|((with_reducible refine Exists.intro ?_ (Exists.intro ?_ (And.intro (a:=_=some (Blk.cells _ _)) ?_ ?_)));rotate_left 2;· (try dsimp only);(repeat first|with_reducible assumption|with_reducible exact uA (by assumption)|with_reducible exact nA (by assumption)|((with_reducible refine uN (by assumption) ?_ ?_);· omega)|((with_reducible refine nN (by assumption) ?_ ?_);· omega)))|((with_reducible refine Exists.intro ?_ (And.intro ?_ ?_));rotate_left;· first|with_reducible assumption|((conv=>lhs;arg 2;whnf);with_reducible assumption)|exact rfl)|((with_reducible refine And.intro (a:=AH.may _ _=true) ?_ ?_);· (try dsimp only);(repeat first|with_reducible assumption|((with_reducible refine New.mayNew (by assumption) (by assumption) ?_ ?_ ?_)<;>omega)|refine Upd.mayOf (by assumption) ?_|refine New.mayOf (by assumption) ?_|refine Ke.mayOf (by assumption) ?_))|((with_reducible refine And.intro (a:=szOf _ _=_) ?_ ?_);· refine Eq.trans (by assumption) ?_;kernel_rfl)|((with_reducible refine And.intro (a:=List.all _ _=true) ?_ ?_);· kernel_rfl)|((with_reducible refine And.intro (a:=_=_) ?_ ?_);· first|with_reducible assumption|rfl)|((with_reducible refine And.intro (a:=_≤_) ?_ ?_);· first|omega|exact Nat.le_of_ble_eq_true (by kernel_rfl))|((with_reducible refine And.intro (a:=_<_) ?_ ?_);· omega)|((with_reducible refine And.intro (a:=_∧_) ?_ ?_);· constructor<;>first|omega|(simp<;>omega))|(refine brk_true ?_ ?_;· first|rfl|(simp only [q1,q2,q3,q4,q7,q8,ne_eq,q5,q6];omega))|(refine brk_false ?_ ?_;· first|rfl|(simp only [q1,q2,q3,q4,q7,q8,ne_eq,q5,q6];omega))|(intro aa uu;(try dsimp only at uu);have okk:=uu.ok;have nxx:=uu.next;have lkk:=uu.lock;have imm:=uu.imp))
    try conv=>whnf
    rfl
  · have hb : charB c = true := by
      unfold charB
      exact decide_eq_true (by omega)
    rw [hb]
    have u21:=U21 E;have s21:=S21 E;have a21:=A21 E;have e21:=Z21 E
    refine over_eq (by omega) rfl (E.no 28 _ _ rfl) rfl ((E.fn 28).trans Tryz.func28) rfl hok rfl ?_
    have hokl := hok.locked
    have hnl : h.locked.next = h.next := rfl
    have hll : h.locked.lock = h.next := rfl
    have hil : h.locked.imp = h.imp := rfl
    have hfll : h.locked.fl = h.fl := rfl
    conv => whnf
    refine ⟨by simp [Tryz.f28], ?_⟩
    repeat ((conv=>whnf);first|((with_reducible refine Exists.intro ?_ (Exists.intro ?_ (And.intro (a:=_=some (Blk.cells _ _)) ?_ ?_)));rotate_left 2;· (try dsimp only);(repeat first|with_reducible assumption|with_reducible exact uA (by assumption)|with_reducible exact nA (by assumption)|((with_reducible refine uN (by assumption) ?_ ?_);· omega)|((with_reducible refine nN (by assumption) ?_ ?_);· omega)))|((with_reducible refine Exists.intro ?_ (And.intro ?_ ?_));rotate_left;· first|with_reducible assumption|((conv=>lhs;arg 2;whnf);with_reducible assumption)|exact rfl)|((with_reducible refine And.intro (a:=AH.may _ _=true) ?_ ?_);· (try dsimp only);(repeat first|with_reducible assumption|((with_reducible refine New.mayNew (by assumption) (by assumption) ?_ ?_ ?_)<;>omega)|refine Upd.mayOf (by assumption) ?_|refine New.mayOf (by assumption) ?_|refine Ke.mayOf (by assumption) ?_))|((with_reducible refine And.intro (a:=szOf _ _=_) ?_ ?_);· refine Eq.trans (by assumption) ?_;kernel_rfl)|((with_reducible refine And.intro (a:=List.all _ _=true) ?_ ?_);· kernel_rfl)|((with_reducible refine And.intro (a:=_=_) ?_ ?_);· first|with_reducible assumption|rfl)|((with_reducible refine And.intro (a:=_≤_) ?_ ?_);· first|omega|exact Nat.le_of_ble_eq_true (by kernel_rfl))|((with_reducible refine And.intro (a:=_<_) ?_ ?_);· omega)|((with_reducible refine And.intro (a:=_∧_) ?_ ?_);· constructor<;>first|omega|(simp<;>omega))|(refine brk_true ?_ ?_;· first|rfl|(simp only [q1,q2,q3,q4,q7,q8,ne_eq,q5,q6];omega))|(refine brk_false ?_ ?_;· first|rfl|(simp only [q1,q2,q3,q4,q7,q8,ne_eq,q5,q6];omega))|(intro aa uu;(try dsimp only at uu);have okk:=uu.ok;have nxx:=uu.next;have lkk:=uu.lock;have imm:=uu.imp))
    try conv=>whnf
    rfl
  · have hb : charB c = true := by
      unfold charB
      exact decide_eq_true (by omega)
    rw [hb]
    have u21:=U21 E;have s21:=S21 E;have a21:=A21 E;have e21:=Z21 E
    refine over_eq (by omega) rfl (E.no 28 _ _ rfl) rfl ((E.fn 28).trans Tryz.func28) rfl hok rfl ?_
    have hokl := hok.locked
    have hnl : h.locked.next = h.next := rfl
    have hll : h.locked.lock = h.next := rfl
    have hil : h.locked.imp = h.imp := rfl
    have hfll : h.locked.fl = h.fl := rfl
    conv => whnf
    refine ⟨by simp [Tryz.f28], ?_⟩
    repeat ((conv=>whnf);first|((with_reducible refine Exists.intro ?_ (Exists.intro ?_ (And.intro (a:=_=some (Blk.cells _ _)) ?_ ?_)));rotate_left 2;· (try dsimp only);(repeat first|with_reducible assumption|with_reducible exact uA (by assumption)|with_reducible exact nA (by assumption)|((with_reducible refine uN (by assumption) ?_ ?_);· omega)|((with_reducible refine nN (by assumption) ?_ ?_);· omega)))|((with_reducible refine Exists.intro ?_ (And.intro ?_ ?_));rotate_left;· first|with_reducible assumption|((conv=>lhs;arg 2;whnf);with_reducible assumption)|exact rfl)|((with_reducible refine And.intro (a:=AH.may _ _=true) ?_ ?_);· (try dsimp only);(repeat first|with_reducible assumption|((with_reducible refine New.mayNew (by assumption) (by assumption) ?_ ?_ ?_)<;>omega)|refine Upd.mayOf (by assumption) ?_|refine New.mayOf (by assumption) ?_|refine Ke.mayOf (by assumption) ?_))|((with_reducible refine And.intro (a:=szOf _ _=_) ?_ ?_);· refine Eq.trans (by assumption) ?_;kernel_rfl)|((with_reducible refine And.intro (a:=List.all _ _=true) ?_ ?_);· kernel_rfl)|((with_reducible refine And.intro (a:=_=_) ?_ ?_);· first|with_reducible assumption|rfl)|((with_reducible refine And.intro (a:=_≤_) ?_ ?_);· first|omega|exact Nat.le_of_ble_eq_true (by kernel_rfl))|((with_reducible refine And.intro (a:=_<_) ?_ ?_);· omega)|((with_reducible refine And.intro (a:=_∧_) ?_ ?_);· constructor<;>first|omega|(simp<;>omega))|(refine brk_true ?_ ?_;· first|rfl|(simp only [q1,q2,q3,q4,q7,q8,ne_eq,q5,q6];omega))|(refine brk_false ?_ ?_;· first|rfl|(simp only [q1,q2,q3,q4,q7,q8,ne_eq,q5,q6];omega))|(intro aa uu;(try dsimp only at uu);have okk:=uu.ok;have nxx:=uu.next;have lkk:=uu.lock;have imm:=uu.imp))
    try conv=>whnf
    rfl
  · have hb : charB c = true := by
      unfold charB
      exact decide_eq_true (by omega)
    rw [hb]
    have u21:=U21 E;have s21:=S21 E;have a21:=A21 E;have e21:=Z21 E
    refine over_eq (by omega) rfl (E.no 28 _ _ rfl) rfl ((E.fn 28).trans Tryz.func28) rfl hok rfl ?_
    have hokl := hok.locked
    have hnl : h.locked.next = h.next := rfl
    have hll : h.locked.lock = h.next := rfl
    have hil : h.locked.imp = h.imp := rfl
    have hfll : h.locked.fl = h.fl := rfl
    conv => whnf
    refine ⟨by simp [Tryz.f28], ?_⟩
    repeat ((conv=>whnf);first|((with_reducible refine Exists.intro ?_ (Exists.intro ?_ (And.intro (a:=_=some (Blk.cells _ _)) ?_ ?_)));rotate_left 2;· (try dsimp only);(repeat first|with_reducible assumption|with_reducible exact uA (by assumption)|with_reducible exact nA (by assumption)|((with_reducible refine uN (by assumption) ?_ ?_);· omega)|((with_reducible refine nN (by assumption) ?_ ?_);· omega)))|((with_reducible refine Exists.intro ?_ (And.intro ?_ ?_));rotate_left;· first|with_reducible assumption|((conv=>lhs;arg 2;whnf);with_reducible assumption)|exact rfl)|((with_reducible refine And.intro (a:=AH.may _ _=true) ?_ ?_);· (try dsimp only);(repeat first|with_reducible assumption|((with_reducible refine New.mayNew (by assumption) (by assumption) ?_ ?_ ?_)<;>omega)|refine Upd.mayOf (by assumption) ?_|refine New.mayOf (by assumption) ?_|refine Ke.mayOf (by assumption) ?_))|((with_reducible refine And.intro (a:=szOf _ _=_) ?_ ?_);· refine Eq.trans (by assumption) ?_;kernel_rfl)|((with_reducible refine And.intro (a:=List.all _ _=true) ?_ ?_);· kernel_rfl)|((with_reducible refine And.intro (a:=_=_) ?_ ?_);· first|with_reducible assumption|rfl)|((with_reducible refine And.intro (a:=_≤_) ?_ ?_);· first|omega|exact Nat.le_of_ble_eq_true (by kernel_rfl))|((with_reducible refine And.intro (a:=_<_) ?_ ?_);· omega)|((with_reducible refine And.intro (a:=_∧_) ?_ ?_);· constructor<;>first|omega|(simp<;>omega))|(refine brk_true ?_ ?_;· first|rfl|(simp only [q1,q2,q3,q4,q7,q8,ne_eq,q5,q6];omega))|(refine brk_false ?_ ?_;· first|rfl|(simp only [q1,q2,q3,q4,q7,q8,ne_eq,q5,q6];omega))|(intro aa uu;(try dsimp only at uu);have okk:=uu.ok;have nxx:=uu.next;have lkk:=uu.lock;have imm:=uu.imp))
    try conv=>whnf
    rfl
  · have hb : charB c = true := by
      unfold charB
      exact decide_eq_true (by omega)
    rw [hb]
    have u21:=U21 E;have s21:=S21 E;have a21:=A21 E;have e21:=Z21 E
    refine over_eq (by omega) rfl (E.no 28 _ _ rfl) rfl ((E.fn 28).trans Tryz.func28) rfl hok rfl ?_
    have hokl := hok.locked
    have hnl : h.locked.next = h.next := rfl
    have hll : h.locked.lock = h.next := rfl
    have hil : h.locked.imp = h.imp := rfl
    have hfll : h.locked.fl = h.fl := rfl
    conv => whnf
    refine ⟨by simp [Tryz.f28], ?_⟩
    repeat ((conv=>whnf);first|((with_reducible refine Exists.intro ?_ (Exists.intro ?_ (And.intro (a:=_=some (Blk.cells _ _)) ?_ ?_)));rotate_left 2;· (try dsimp only);(repeat first|with_reducible assumption|with_reducible exact uA (by assumption)|with_reducible exact nA (by assumption)|((with_reducible refine uN (by assumption) ?_ ?_);· omega)|((with_reducible refine nN (by assumption) ?_ ?_);· omega)))|((with_reducible refine Exists.intro ?_ (And.intro ?_ ?_));rotate_left;· first|with_reducible assumption|((conv=>lhs;arg 2;whnf);with_reducible assumption)|exact rfl)|((with_reducible refine And.intro (a:=AH.may _ _=true) ?_ ?_);· (try dsimp only);(repeat first|with_reducible assumption|((with_reducible refine New.mayNew (by assumption) (by assumption) ?_ ?_ ?_)<;>omega)|refine Upd.mayOf (by assumption) ?_|refine New.mayOf (by assumption) ?_|refine Ke.mayOf (by assumption) ?_))|((with_reducible refine And.intro (a:=szOf _ _=_) ?_ ?_);· refine Eq.trans (by assumption) ?_;kernel_rfl)|((with_reducible refine And.intro (a:=List.all _ _=true) ?_ ?_);· kernel_rfl)|((with_reducible refine And.intro (a:=_=_) ?_ ?_);· first|with_reducible assumption|rfl)|((with_reducible refine And.intro (a:=_≤_) ?_ ?_);· first|omega|exact Nat.le_of_ble_eq_true (by kernel_rfl))|((with_reducible refine And.intro (a:=_<_) ?_ ?_);· omega)|((with_reducible refine And.intro (a:=_∧_) ?_ ?_);· constructor<;>first|omega|(simp<;>omega))|(refine brk_true ?_ ?_;· first|rfl|(simp only [q1,q2,q3,q4,q7,q8,ne_eq,q5,q6];omega))|(refine brk_false ?_ ?_;· first|rfl|(simp only [q1,q2,q3,q4,q7,q8,ne_eq,q5,q6];omega))|(intro aa uu;(try dsimp only at uu);have okk:=uu.ok;have nxx:=uu.next;have lkk:=uu.lock;have imm:=uu.imp))
    try conv=>whnf
    rfl
  · have hb : charB c = true := by
      unfold charB
      exact decide_eq_true (by omega)
    rw [hb]
    have u21:=U21 E;have s21:=S21 E;have a21:=A21 E;have e21:=Z21 E
    refine over_eq (by omega) rfl (E.no 28 _ _ rfl) rfl ((E.fn 28).trans Tryz.func28) rfl hok rfl ?_
    have hokl := hok.locked
    have hnl : h.locked.next = h.next := rfl
    have hll : h.locked.lock = h.next := rfl
    have hil : h.locked.imp = h.imp := rfl
    have hfll : h.locked.fl = h.fl := rfl
    conv => whnf
    refine ⟨by simp [Tryz.f28], ?_⟩
    repeat ((conv=>whnf);first|((with_reducible refine Exists.intro ?_ (Exists.intro ?_ (And.intro (a:=_=some (Blk.cells _ _)) ?_ ?_)));rotate_left 2;· (try dsimp only);(repeat first|with_reducible assumption|with_reducible exact uA (by assumption)|with_reducible exact nA (by assumption)|((with_reducible refine uN (by assumption) ?_ ?_);· omega)|((with_reducible refine nN (by assumption) ?_ ?_);· omega)))|((with_reducible refine Exists.intro ?_ (And.intro ?_ ?_));rotate_left;· first|with_reducible assumption|((conv=>lhs;arg 2;whnf);with_reducible assumption)|exact rfl)|((with_reducible refine And.intro (a:=AH.may _ _=true) ?_ ?_);· (try dsimp only);(repeat first|with_reducible assumption|((with_reducible refine New.mayNew (by assumption) (by assumption) ?_ ?_ ?_)<;>omega)|refine Upd.mayOf (by assumption) ?_|refine New.mayOf (by assumption) ?_|refine Ke.mayOf (by assumption) ?_))|((with_reducible refine And.intro (a:=szOf _ _=_) ?_ ?_);· refine Eq.trans (by assumption) ?_;kernel_rfl)|((with_reducible refine And.intro (a:=List.all _ _=true) ?_ ?_);· kernel_rfl)|((with_reducible refine And.intro (a:=_=_) ?_ ?_);· first|with_reducible assumption|rfl)|((with_reducible refine And.intro (a:=_≤_) ?_ ?_);· first|omega|exact Nat.le_of_ble_eq_true (by kernel_rfl))|((with_reducible refine And.intro (a:=_<_) ?_ ?_);· omega)|((with_reducible refine And.intro (a:=_∧_) ?_ ?_);· constructor<;>first|omega|(simp<;>omega))|(refine brk_true ?_ ?_;· first|rfl|(simp only [q1,q2,q3,q4,q7,q8,ne_eq,q5,q6];omega))|(refine brk_false ?_ ?_;· first|rfl|(simp only [q1,q2,q3,q4,q7,q8,ne_eq,q5,q6];omega))|(intro aa uu;(try dsimp only at uu);have okk:=uu.ok;have nxx:=uu.next;have lkk:=uu.lock;have imm:=uu.imp))
    try conv=>whnf
    exact congrArg Value.bool (decide_eq_true (by omega))
  · have hb : charB c = false := by
      unfold charB
      exact decide_eq_false (by omega)
    rw [hb]
    have u21:=U21 E;have s21:=S21 E;have a21:=A21 E;have e21:=Z21 E
    refine over_eq (by omega) rfl (E.no 28 _ _ rfl) rfl ((E.fn 28).trans Tryz.func28) rfl hok rfl ?_
    have hokl := hok.locked
    have hnl : h.locked.next = h.next := rfl
    have hll : h.locked.lock = h.next := rfl
    have hil : h.locked.imp = h.imp := rfl
    have hfll : h.locked.fl = h.fl := rfl
    conv => whnf
    refine ⟨by simp [Tryz.f28], ?_⟩
    repeat ((conv=>whnf);first|((with_reducible refine Exists.intro ?_ (Exists.intro ?_ (And.intro (a:=_=some (Blk.cells _ _)) ?_ ?_)));rotate_left 2;· (try dsimp only);(repeat first|with_reducible assumption|with_reducible exact uA (by assumption)|with_reducible exact nA (by assumption)|((with_reducible refine uN (by assumption) ?_ ?_);· omega)|((with_reducible refine nN (by assumption) ?_ ?_);· omega)))|((with_reducible refine Exists.intro ?_ (And.intro ?_ ?_));rotate_left;· first|with_reducible assumption|((conv=>lhs;arg 2;whnf);with_reducible assumption)|exact rfl)|((with_reducible refine And.intro (a:=AH.may _ _=true) ?_ ?_);· (try dsimp only);(repeat first|with_reducible assumption|((with_reducible refine New.mayNew (by assumption) (by assumption) ?_ ?_ ?_)<;>omega)|refine Upd.mayOf (by assumption) ?_|refine New.mayOf (by assumption) ?_|refine Ke.mayOf (by assumption) ?_))|((with_reducible refine And.intro (a:=szOf _ _=_) ?_ ?_);· refine Eq.trans (by assumption) ?_;kernel_rfl)|((with_reducible refine And.intro (a:=List.all _ _=true) ?_ ?_);· kernel_rfl)|((with_reducible refine And.intro (a:=_=_) ?_ ?_);· first|with_reducible assumption|rfl)|((with_reducible refine And.intro (a:=_≤_) ?_ ?_);· first|omega|exact Nat.le_of_ble_eq_true (by kernel_rfl))|((with_reducible refine And.intro (a:=_<_) ?_ ?_);· omega)|((with_reducible refine And.intro (a:=_∧_) ?_ ?_);· constructor<;>first|omega|(simp<;>omega))|(refine brk_true ?_ ?_;· first|rfl|(simp only [q1,q2,q3,q4,q7,q8,ne_eq,q5,q6];omega))|(refine brk_false ?_ ?_;· first|rfl|(simp only [q1,q2,q3,q4,q7,q8,ne_eq,q5,q6];omega))|(intro aa uu;(try dsimp only at uu);have okk:=uu.ok;have nxx:=uu.next;have lkk:=uu.lock;have imm:=uu.imp))
    try conv=>whnf
    rfl
  · have hb : charB c = false := by
      unfold charB
      exact decide_eq_false (by omega)
    rw [hb]
    have u21:=U21 E;have s21:=S21 E;have a21:=A21 E;have e21:=Z21 E
    refine over_eq (by omega) rfl (E.no 28 _ _ rfl) rfl ((E.fn 28).trans Tryz.func28) rfl hok rfl ?_
    have hokl := hok.locked
    have hnl : h.locked.next = h.next := rfl
    have hll : h.locked.lock = h.next := rfl
    have hil : h.locked.imp = h.imp := rfl
    have hfll : h.locked.fl = h.fl := rfl
    conv => whnf
    refine ⟨by simp [Tryz.f28], ?_⟩
    repeat ((conv=>whnf);first|((with_reducible refine Exists.intro ?_ (Exists.intro ?_ (And.intro (a:=_=some (Blk.cells _ _)) ?_ ?_)));rotate_left 2;· (try dsimp only);(repeat first|with_reducible assumption|with_reducible exact uA (by assumption)|with_reducible exact nA (by assumption)|((with_reducible refine uN (by assumption) ?_ ?_);· omega)|((with_reducible refine nN (by assumption) ?_ ?_);· omega)))|((with_reducible refine Exists.intro ?_ (And.intro ?_ ?_));rotate_left;· first|with_reducible assumption|((conv=>lhs;arg 2;whnf);with_reducible assumption)|exact rfl)|((with_reducible refine And.intro (a:=AH.may _ _=true) ?_ ?_);· (try dsimp only);(repeat first|with_reducible assumption|((with_reducible refine New.mayNew (by assumption) (by assumption) ?_ ?_ ?_)<;>omega)|refine Upd.mayOf (by assumption) ?_|refine New.mayOf (by assumption) ?_|refine Ke.mayOf (by assumption) ?_))|((with_reducible refine And.intro (a:=szOf _ _=_) ?_ ?_);· refine Eq.trans (by assumption) ?_;kernel_rfl)|((with_reducible refine And.intro (a:=List.all _ _=true) ?_ ?_);· kernel_rfl)|((with_reducible refine And.intro (a:=_=_) ?_ ?_);· first|with_reducible assumption|rfl)|((with_reducible refine And.intro (a:=_≤_) ?_ ?_);· first|omega|exact Nat.le_of_ble_eq_true (by kernel_rfl))|((with_reducible refine And.intro (a:=_<_) ?_ ?_);· omega)|((with_reducible refine And.intro (a:=_∧_) ?_ ?_);· constructor<;>first|omega|(simp<;>omega))|(refine brk_true ?_ ?_;· first|rfl|(simp only [q1,q2,q3,q4,q7,q8,ne_eq,q5,q6];omega))|(refine brk_false ?_ ?_;· first|rfl|(simp only [q1,q2,q3,q4,q7,q8,ne_eq,q5,q6];omega))|(intro aa uu;(try dsimp only at uu);have okk:=uu.ok;have nxx:=uu.next;have lkk:=uu.lock;have imm:=uu.imp))
    try conv=>whnf
    rfl
  · have hb : charB c = false := by
      unfold charB
      exact decide_eq_false (by omega)
    rw [hb]
    have u21:=U21 E;have s21:=S21 E;have a21:=A21 E;have e21:=Z21 E
    refine over_eq (by omega) rfl (E.no 28 _ _ rfl) rfl ((E.fn 28).trans Tryz.func28) rfl hok rfl ?_
    have hokl := hok.locked
    have hnl : h.locked.next = h.next := rfl
    have hll : h.locked.lock = h.next := rfl
    have hil : h.locked.imp = h.imp := rfl
    have hfll : h.locked.fl = h.fl := rfl
    conv => whnf
    refine ⟨by simp [Tryz.f28], ?_⟩
    repeat ((conv=>whnf);first|((with_reducible refine Exists.intro ?_ (Exists.intro ?_ (And.intro (a:=_=some (Blk.cells _ _)) ?_ ?_)));rotate_left 2;· (try dsimp only);(repeat first|with_reducible assumption|with_reducible exact uA (by assumption)|with_reducible exact nA (by assumption)|((with_reducible refine uN (by assumption) ?_ ?_);· omega)|((with_reducible refine nN (by assumption) ?_ ?_);· omega)))|((with_reducible refine Exists.intro ?_ (And.intro ?_ ?_));rotate_left;· first|with_reducible assumption|((conv=>lhs;arg 2;whnf);with_reducible assumption)|exact rfl)|((with_reducible refine And.intro (a:=AH.may _ _=true) ?_ ?_);· (try dsimp only);(repeat first|with_reducible assumption|((with_reducible refine New.mayNew (by assumption) (by assumption) ?_ ?_ ?_)<;>omega)|refine Upd.mayOf (by assumption) ?_|refine New.mayOf (by assumption) ?_|refine Ke.mayOf (by assumption) ?_))|((with_reducible refine And.intro (a:=szOf _ _=_) ?_ ?_);· refine Eq.trans (by assumption) ?_;kernel_rfl)|((with_reducible refine And.intro (a:=List.all _ _=true) ?_ ?_);· kernel_rfl)|((with_reducible refine And.intro (a:=_=_) ?_ ?_);· first|with_reducible assumption|rfl)|((with_reducible refine And.intro (a:=_≤_) ?_ ?_);· first|omega|exact Nat.le_of_ble_eq_true (by kernel_rfl))|((with_reducible refine And.intro (a:=_<_) ?_ ?_);· omega)|((with_reducible refine And.intro (a:=_∧_) ?_ ?_);· constructor<;>first|omega|(simp<;>omega))|(refine brk_true ?_ ?_;· first|rfl|(simp only [q1,q2,q3,q4,q7,q8,ne_eq,q5,q6];omega))|(refine brk_false ?_ ?_;· first|rfl|(simp only [q1,q2,q3,q4,q7,q8,ne_eq,q5,q6];omega))|(intro aa uu;(try dsimp only at uu);have okk:=uu.ok;have nxx:=uu.next;have lkk:=uu.lock;have imm:=uu.imp))
    try conv=>whnf
    rfl

theorem f53_ok (E : Alike P Tryz.prog base walkJ) {d : Nat} {h : AH} {s : ByteArray} (hs : s.data.toList.length ≤ 1000000) (hd : 1 ≤ d) (hok : HOK h) : deepF P G ext 2199023255552 base mtJ d 53 [.string s, .string ⟨#[239, 191, 189]⟩] h = some (.bool (badB s.data.toList), none) := by
  rcases Nat.lt_or_ge s.data.toList.length 3 with h1 | h1
  · have hb : badB s.data.toList = false := by
      unfold badB
      rw [decide_eq_false (by omega)]
    rw [hb]
    have u3:=U3 E;have s3:=S3 E;have a3:=A3 E;have e3:=Z3 E
    have u9:=U9 E;have s9:=S9 E;have a9:=A9 E;have e9:=Z9 E
    refine over_eq (by omega) rfl (E.no 53 _ _ rfl) rfl ((E.fn 53).trans Tryz.func53) rfl hok rfl ?_
    have hokl := hok.locked
    have hnl : h.locked.next = h.next := rfl
    have hll : h.locked.lock = h.next := rfl
    have hil : h.locked.imp = h.imp := rfl
    have hfll : h.locked.fl = h.fl := rfl
    conv => whnf
    refine ⟨by simp [Tryz.f53], ?_⟩
    repeat ((conv=>whnf);first|((with_reducible refine Exists.intro ?_ (Exists.intro ?_ (And.intro (a:=_=some (Blk.cells _ _)) ?_ ?_)));rotate_left 2;· (try dsimp only);(repeat first|with_reducible assumption|with_reducible exact uA (by assumption)|with_reducible exact nA (by assumption)|((with_reducible refine uN (by assumption) ?_ ?_);· omega)|((with_reducible refine nN (by assumption) ?_ ?_);· omega)))|((with_reducible refine Exists.intro ?_ (And.intro ?_ ?_));rotate_left;· first|with_reducible assumption|((conv=>lhs;arg 2;whnf);with_reducible assumption)|exact rfl)|((with_reducible refine And.intro (a:=AH.may _ _=true) ?_ ?_);· (try dsimp only);(repeat first|with_reducible assumption|((with_reducible refine New.mayNew (by assumption) (by assumption) ?_ ?_ ?_)<;>omega)|refine Upd.mayOf (by assumption) ?_|refine New.mayOf (by assumption) ?_|refine Ke.mayOf (by assumption) ?_))|((with_reducible refine And.intro (a:=szOf _ _=_) ?_ ?_);· refine Eq.trans (by assumption) ?_;kernel_rfl)|((with_reducible refine And.intro (a:=List.all _ _=true) ?_ ?_);· kernel_rfl)|((with_reducible refine And.intro (a:=_=_) ?_ ?_);· first|with_reducible assumption|rfl)|((with_reducible refine And.intro (a:=_≤_) ?_ ?_);· first|omega|exact Nat.le_of_ble_eq_true (by kernel_rfl))|((with_reducible refine And.intro (a:=_<_) ?_ ?_);· omega)|((with_reducible refine And.intro (a:=_∧_) ?_ ?_);· constructor<;>first|omega|(simp<;>omega))|(refine brk_true ?_ ?_;· first|rfl|(simp only [q1,q2,q3,q4,q7,q8,ne_eq,q5,q6];omega))|(refine brk_false ?_ ?_;· first|rfl|(simp only [q1,q2,q3,q4,q7,q8,ne_eq,q5,q6];omega))|(intro aa uu;(try dsimp only at uu);have okk:=uu.ok;have nxx:=uu.next;have lkk:=uu.lock;have imm:=uu.imp))
    try conv=>whnf
    rfl
  · have hb : badB s.data.toList = bytesEq (s.data.toList.take 3) [239, 191, 189] := by
      unfold badB
      rw [decide_eq_true h1]
    rw [hb]
    have h2 := h1
    simp at h2
    have u3:=U3 E;have s3:=S3 E;have a3:=A3 E;have e3:=Z3 E
    have u9:=U9 E;have s9:=S9 E;have a9:=A9 E;have e9:=Z9 E
    refine over_eq (by omega) rfl (E.no 53 _ _ rfl) rfl ((E.fn 53).trans Tryz.func53) rfl hok rfl ?_
    have hokl := hok.locked
    have hnl : h.locked.next = h.next := rfl
    have hll : h.locked.lock = h.next := rfl
    have hil : h.locked.imp = h.imp := rfl
    have hfll : h.locked.fl = h.fl := rfl
    conv => whnf
    refine ⟨by simp [Tryz.f53], ?_⟩
    repeat ((conv=>whnf);first|((with_reducible refine Exists.intro ?_ (Exists.intro ?_ (And.intro (a:=_=some (Blk.cells _ _)) ?_ ?_)));rotate_left 2;· (try dsimp only);(repeat first|with_reducible assumption|with_reducible exact uA (by assumption)|with_reducible exact nA (by assumption)|((with_reducible refine uN (by assumption) ?_ ?_);· omega)|((with_reducible refine nN (by assumption) ?_ ?_);· omega)))|((with_reducible refine Exists.intro ?_ (And.intro ?_ ?_));rotate_left;· first|with_reducible assumption|((conv=>lhs;arg 2;whnf);with_reducible assumption)|exact rfl)|((with_reducible refine And.intro (a:=AH.may _ _=true) ?_ ?_);· (try dsimp only);(repeat first|with_reducible assumption|((with_reducible refine New.mayNew (by assumption) (by assumption) ?_ ?_ ?_)<;>omega)|refine Upd.mayOf (by assumption) ?_|refine New.mayOf (by assumption) ?_|refine Ke.mayOf (by assumption) ?_))|((with_reducible refine And.intro (a:=szOf _ _=_) ?_ ?_);· refine Eq.trans (by assumption) ?_;kernel_rfl)|((with_reducible refine And.intro (a:=List.all _ _=true) ?_ ?_);· kernel_rfl)|((with_reducible refine And.intro (a:=_=_) ?_ ?_);· first|with_reducible assumption|rfl)|((with_reducible refine And.intro (a:=_≤_) ?_ ?_);· first|omega|exact Nat.le_of_ble_eq_true (by kernel_rfl))|((with_reducible refine And.intro (a:=_<_) ?_ ?_);· omega)|((with_reducible refine And.intro (a:=_∧_) ?_ ?_);· constructor<;>first|omega|(simp<;>omega))|(refine brk_true ?_ ?_;· first|rfl|(simp only [q1,q2,q3,q4,q7,q8,ne_eq,q5,q6];omega))|(refine brk_false ?_ ?_;· first|rfl|(simp only [q1,q2,q3,q4,q7,q8,ne_eq,q5,q6];omega))|(intro aa uu;(try dsimp only at uu);have okk:=uu.ok;have nxx:=uu.next;have lkk:=uu.lock;have imm:=uu.imp))
    try conv=>whnf
    rfl

theorem f29_ok (E : Alike P Tryz.prog base walkJ) {d : Nat} {h : AH} {s : ByteArray} {l : List UInt8} (hl : s.data.toList = l) (hs : l.length ≤ 1000000) (hd : 2 ≤ d) (hok : HOK h) : deepF P G ext 2199023255552 base mtJ d 29 [.string s, .string ⟨#[239, 191, 189]⟩] h = some (.bool (badB l), none) := by
  subst hl
  have u9:=U9 E;have s9:=S9 E;have a9:=A9 E;have e9:=Z9 E
  refine over_eq (by omega) rfl (E.no 29 _ _ rfl) rfl ((E.fn 29).trans Tryz.func29) rfl hok rfl ?_
  have hokl := hok.locked
  have hnl : h.locked.next = h.next := rfl
  have hll : h.locked.lock = h.next := rfl
  have hil : h.locked.imp = h.imp := rfl
  have hfll : h.locked.fl = h.fl := rfl
  conv => whnf
  refine ⟨by simp [Tryz.f29], ?_⟩
  repeat ((conv=>whnf);first|((with_reducible refine Exists.intro ?_ (Exists.intro ?_ (And.intro (a:=_=some (Blk.cells _ _)) ?_ ?_)));rotate_left 2;· (try dsimp only);(repeat first|with_reducible assumption|with_reducible exact uA (by assumption)|with_reducible exact nA (by assumption)|((with_reducible refine uN (by assumption) ?_ ?_);· omega)|((with_reducible refine nN (by assumption) ?_ ?_);· omega)))|((with_reducible refine Exists.intro ?_ (And.intro ?_ ?_));rotate_left;· first|with_reducible assumption|((conv=>lhs;arg 2;whnf);with_reducible assumption)|exact rfl)|((with_reducible refine And.intro (a:=AH.may _ _=true) ?_ ?_);· (try dsimp only);(repeat first|with_reducible assumption|((with_reducible refine New.mayNew (by assumption) (by assumption) ?_ ?_ ?_)<;>omega)|refine Upd.mayOf (by assumption) ?_|refine New.mayOf (by assumption) ?_|refine Ke.mayOf (by assumption) ?_))|((with_reducible refine And.intro (a:=szOf _ _=_) ?_ ?_);· refine Eq.trans (by assumption) ?_;kernel_rfl)|((with_reducible refine And.intro (a:=List.all _ _=true) ?_ ?_);· kernel_rfl)|((with_reducible refine And.intro (a:=_=_) ?_ ?_);· first|with_reducible assumption|rfl)|((with_reducible refine And.intro (a:=_≤_) ?_ ?_);· first|omega|exact Nat.le_of_ble_eq_true (by kernel_rfl))|((with_reducible refine And.intro (a:=_<_) ?_ ?_);· omega)|((with_reducible refine And.intro (a:=_∧_) ?_ ?_);· constructor<;>first|omega|(simp<;>omega))|(refine brk_true ?_ ?_;· first|rfl|(simp only [q1,q2,q3,q4,q7,q8,ne_eq,q5,q6];omega))|(refine brk_false ?_ ?_;· first|rfl|(simp only [q1,q2,q3,q4,q7,q8,ne_eq,q5,q6];omega))|(intro aa uu;(try dsimp only at uu);have okk:=uu.ok;have nxx:=uu.next;have lkk:=uu.lock;have imm:=uu.imp))
  try conv=>whnf
  refine callB_pure ((E.fn 53).trans Tryz.func53) rfl ?_
  refine ⟨by assumption, _, (f53_ok E hs (by omega) (by assumption)), ?_⟩
  repeat ((conv=>whnf);first|((with_reducible refine Exists.intro ?_ (Exists.intro ?_ (And.intro (a:=_=some (Blk.cells _ _)) ?_ ?_)));rotate_left 2;· (try dsimp only);(repeat first|with_reducible assumption|with_reducible exact uA (by assumption)|with_reducible exact nA (by assumption)|((with_reducible refine uN (by assumption) ?_ ?_);· omega)|((with_reducible refine nN (by assumption) ?_ ?_);· omega)))|((with_reducible refine Exists.intro ?_ (And.intro ?_ ?_));rotate_left;· first|with_reducible assumption|((conv=>lhs;arg 2;whnf);with_reducible assumption)|exact rfl)|((with_reducible refine And.intro (a:=AH.may _ _=true) ?_ ?_);· (try dsimp only);(repeat first|with_reducible assumption|((with_reducible refine New.mayNew (by assumption) (by assumption) ?_ ?_ ?_)<;>omega)|refine Upd.mayOf (by assumption) ?_|refine New.mayOf (by assumption) ?_|refine Ke.mayOf (by assumption) ?_))|((with_reducible refine And.intro (a:=szOf _ _=_) ?_ ?_);· refine Eq.trans (by assumption) ?_;kernel_rfl)|((with_reducible refine And.intro (a:=List.all _ _=true) ?_ ?_);· kernel_rfl)|((with_reducible refine And.intro (a:=_=_) ?_ ?_);· first|with_reducible assumption|rfl)|((with_reducible refine And.intro (a:=_≤_) ?_ ?_);· first|omega|exact Nat.le_of_ble_eq_true (by kernel_rfl))|((with_reducible refine And.intro (a:=_<_) ?_ ?_);· omega)|((with_reducible refine And.intro (a:=_∧_) ?_ ?_);· constructor<;>first|omega|(simp<;>omega))|(refine brk_true ?_ ?_;· first|rfl|(simp only [q1,q2,q3,q4,q7,q8,ne_eq,q5,q6];omega))|(refine brk_false ?_ ?_;· first|rfl|(simp only [q1,q2,q3,q4,q7,q8,ne_eq,q5,q6];omega))|(intro aa uu;(try dsimp only at uu);have okk:=uu.ok;have nxx:=uu.next;have lkk:=uu.lock;have imm:=uu.imp))
  try conv=>whnf
  rfl
end

end
end Go.Proofs.YtelimgiehdfblaaGreatDoor.V

namespace Go.Proofs.YtelimgiehdfblaaGreatDoor.V
set_option linter.all false
open Go
noncomputable section

section
variable {P : Program} {G : Nat} {ext : FuncId → Option Ext} {base : Orc}

theorem tail_eq (s : ByteArray) (p : Nat) : ((s.data.toList.drop p).take (s.data.toList.length - p)).toArray.toList = s.data.toList.drop p := by
  show (s.data.toList.drop p).take (s.data.toList.length - p) = s.data.toList.drop p
  rw [List.take_of_length_le (by rw [List.length_drop]; omega)]

theorem f15_ok (E : Alike P Tryz.prog base walkJ) {d : Nat} {h : AH} {s : ByteArray} (hs : s.data.toList.length ≤ 1000) (hd : 3 ≤ d) (hok : HOK h) (hn : h.next < 65000) (hi : h.imp ≤ h.next) : deepF P G ext 2199023255552 base mtJ d 15 [.string s] h = some (.bool (isT s), none) := by
  have u4:=U4 E;have s4:=S4 E;have a4:=A4 E;have e4:=Z4 E
  have u9:=U9 E;have s9:=S9 E;have a9:=A9 E;have e9:=Z9 E
  have u21:=U21 E;have s21:=S21 E;have a21:=A21 E;have e21:=Z21 E
  refine over_eq (by omega) rfl (E.no 15 _ _ rfl) rfl ((E.fn 15).trans Tryz.func15) rfl hok rfl ?_
  have hokl := hok.locked
  have hnl : h.locked.next = h.next := rfl
  have hll : h.locked.lock = h.next := rfl
  have hil : h.locked.imp = h.imp := rfl
  have hfll : h.locked.fl = h.fl := rfl
  conv => whnf
  refine ⟨by simp [Tryz.f15], ?_⟩
  repeat ((conv=>whnf);first|((with_reducible refine Exists.intro ?_ (Exists.intro ?_ (And.intro (a:=_=some (Blk.cells _ _)) ?_ ?_)));rotate_left 2;· (try dsimp only);(repeat first|with_reducible assumption|with_reducible exact uA (by assumption)|with_reducible exact nA (by assumption)|((with_reducible refine uN (by assumption) ?_ ?_);· omega)|((with_reducible refine nN (by assumption) ?_ ?_);· omega)))|((with_reducible refine Exists.intro ?_ (And.intro ?_ ?_));rotate_left;· first|with_reducible assumption|((conv=>lhs;arg 2;whnf);with_reducible assumption)|exact rfl)|((with_reducible refine And.intro (a:=AH.may _ _=true) ?_ ?_);· (try dsimp only);(repeat first|with_reducible assumption|((with_reducible refine New.mayNew (by assumption) (by assumption) ?_ ?_ ?_)<;>omega)|refine Upd.mayOf (by assumption) ?_|refine New.mayOf (by assumption) ?_|refine Ke.mayOf (by assumption) ?_))|((with_reducible refine And.intro (a:=szOf _ _=_) ?_ ?_);· refine Eq.trans (by assumption) ?_;kernel_rfl)|((with_reducible refine And.intro (a:=List.all _ _=true) ?_ ?_);· kernel_rfl)|((with_reducible refine And.intro (a:=_=_) ?_ ?_);· first|with_reducible assumption|rfl)|((with_reducible refine And.intro (a:=_≤_) ?_ ?_);· first|omega|exact Nat.le_of_ble_eq_true (by kernel_rfl))|((with_reducible refine And.intro (a:=_<_) ?_ ?_);· omega)|((with_reducible refine And.intro (a:=_∧_) ?_ ?_);· constructor<;>first|omega|(simp<;>omega))|(refine brk_true ?_ ?_;· first|rfl|(simp only [q1,q2,q3,q4,q7,q8,ne_eq,q5,q6];omega))|(refine brk_false ?_ ?_;· first|rfl|(simp only [q1,q2,q3,q4,q7,q8,ne_eq,q5,q6];omega))|(intro aa uu;(try dsimp only at uu);have okk:=uu.ok;have nxx:=uu.next;have lkk:=uu.lock;have imm:=uu.imp))
  try conv=>whnf
  refine .inl ⟨fun m env h' => sh 5 env = true ∧ ∃ p : Nat, isTF s m p = isT s ∧ s.data.toList.length < m + p ∧ has env [(0, .string s), (6, ptJ h.locked.next)] ∧ h'.get h.locked.next = some (.iter s p) ∧ h'.may h.locked.next = true, s.data.toList.length + 1, by omega,
    ⟨by kernel_rfl, 0, rfl, by omega, ⟨by kernel_rfl, by kernel_rfl, trivial⟩, by (repeat first|with_reducible assumption|with_reducible exact uA (by assumption)|with_reducible exact nA (by assumption)|((with_reducible refine Eq.trans (uA (by assumption)) ?_);kernel_rfl)|((with_reducible refine Eq.trans (nA (by assumption)) ?_);kernel_rfl)|((with_reducible refine uN (by assumption) ?_ ?_);· omega)|((with_reducible refine nN (by assumption) ?_ ?_);· omega)), by (repeat first|with_reducible assumption|((with_reducible refine New.mayNew (by assumption) (by assumption) ?_ ?_ ?_)<;>omega)|refine Upd.mayOf (by assumption) ?_|refine New.mayOf (by assumption) ?_|refine Ke.mayOf (by assumption) ?_)⟩, ?_⟩
  rintro m env h' hok' ⟨hsh, p, hp1, hp2, hhas, hg, hm⟩
  rw [env_form hsh hhas]
  repeat ((conv=>whnf);first|((with_reducible refine Exists.intro ?_ (Exists.intro ?_ (And.intro (a:=_=some (Blk.cells _ _)) ?_ ?_)));rotate_left 2;· (try dsimp only);(repeat first|with_reducible assumption|with_reducible exact uA (by assumption)|with_reducible exact nA (by assumption)|((with_reducible refine uN (by assumption) ?_ ?_);· omega)|((with_reducible refine nN (by assumption) ?_ ?_);· omega)))|((with_reducible refine Exists.intro ?_ (And.intro ?_ ?_));rotate_left;· first|with_reducible assumption|((conv=>lhs;arg 2;whnf);with_reducible assumption)|exact rfl)|((with_reducible refine And.intro (a:=AH.may _ _=true) ?_ ?_);· (try dsimp only);(repeat first|with_reducible assumption|((with_reducible refine New.mayNew (by assumption) (by assumption) ?_ ?_ ?_)<;>omega)|refine Upd.mayOf (by assumption) ?_|refine New.mayOf (by assumption) ?_|refine Ke.mayOf (by assumption) ?_))|((with_reducible refine And.intro (a:=szOf _ _=_) ?_ ?_);· refine Eq.trans (by assumption) ?_;kernel_rfl)|((with_reducible refine And.intro (a:=List.all _ _=true) ?_ ?_);· kernel_rfl)|((with_reducible refine And.intro (a:=_=_) ?_ ?_);· first|with_reducible assumption|rfl)|((with_reducible refine And.intro (a:=_≤_) ?_ ?_);· first|omega|exact Nat.le_of_ble_eq_true (by kernel_rfl))|((with_reducible refine And.intro (a:=_<_) ?_ ?_);· omega)|((with_reducible refine And.intro (a:=_∧_) ?_ ?_);· constructor<;>first|omega|(simp<;>omega))|(refine brk_true ?_ ?_;· first|rfl|(simp only [q1,q2,q3,q4,q7,q8,ne_eq,q5,q6];omega))|(refine brk_false ?_ ?_;· first|rfl|(simp only [q1,q2,q3,q4,q7,q8,ne_eq,q5,q6];omega))|(intro aa uu;(try dsimp only at uu);have okk:=uu.ok;have nxx:=uu.next;have lkk:=uu.lock;have imm:=uu.imp))
  try conv=>whnf
  refine ⟨s, p, hg, ?_⟩
  refine brk_of (fun hlt => ?_) (fun hge => ?_)
  · have hlt := blt_iff.1 hlt
    obtain ⟨m, rfl⟩ : ∃ k, m = k + 1 := ⟨m - 1, by omega⟩
    have hw := dec_pos s p
    repeat ((conv=>whnf);first|((with_reducible refine Exists.intro ?_ (Exists.intro ?_ (And.intro (a:=_=some (Blk.cells _ _)) ?_ ?_)));rotate_left 2;· (try dsimp only);(repeat first|with_reducible assumption|with_reducible exact uA (by assumption)|with_reducible exact nA (by assumption)|((with_reducible refine uN (by assumption) ?_ ?_);· omega)|((with_reducible refine nN (by assumption) ?_ ?_);· omega)))|((with_reducible refine Exists.intro ?_ (And.intro ?_ ?_));rotate_left;· first|with_reducible assumption|((conv=>lhs;arg 2;whnf);with_reducible assumption)|exact rfl)|((with_reducible refine And.intro (a:=AH.may _ _=true) ?_ ?_);· (try dsimp only);(repeat first|with_reducible assumption|((with_reducible refine New.mayNew (by assumption) (by assumption) ?_ ?_ ?_)<;>omega)|refine Upd.mayOf (by assumption) ?_|refine New.mayOf (by assumption) ?_|refine Ke.mayOf (by assumption) ?_))|((with_reducible refine And.intro (a:=szOf _ _=_) ?_ ?_);· refine Eq.trans (by assumption) ?_;kernel_rfl)|((with_reducible refine And.intro (a:=List.all _ _=true) ?_ ?_);· kernel_rfl)|((with_reducible refine And.intro (a:=_=_) ?_ ?_);· first|with_reducible assumption|rfl)|((with_reducible refine And.intro (a:=_≤_) ?_ ?_);· first|omega|exact Nat.le_of_ble_eq_true (by kernel_rfl))|((with_reducible refine And.intro (a:=_<_) ?_ ?_);· omega)|((with_reducible refine And.intro (a:=_∧_) ?_ ?_);· constructor<;>first|omega|(simp<;>omega))|(refine brk_true ?_ ?_;· first|rfl|(simp only [q1,q2,q3,q4,q7,q8,ne_eq,q5,q6];omega))|(refine brk_false ?_ ?_;· first|rfl|(simp only [q1,q2,q3,q4,q7,q8,ne_eq,q5,q6];omega))|(intro aa uu;(try dsimp only at uu);have okk:=uu.ok;have nxx:=uu.next;have lkk:=uu.lock;have imm:=uu.imp))
    try conv=>whnf
    refine callB_pure ((E.fn 28).trans Tryz.func28) rfl ?_
    refine ⟨by assumption, _, (f28_ok E (dec_max s p) (by omega) (by assumption)), ?_⟩
    cases hc : charB (Utf8.decode s p).1
    · repeat ((conv=>whnf);first|((with_reducible refine Exists.intro ?_ (Exists.intro ?_ (And.intro (a:=_=some (Blk.cells _ _)) ?_ ?_)));rotate_left 2;· (try dsimp only);(repeat first|with_reducible assumption|with_reducible exact uA (by assumption)|with_reducible exact nA (by assumption)|((with_reducible refine uN (by assumption) ?_ ?_);· omega)|((with_reducible refine nN (by assumption) ?_ ?_);· omega)))|((with_reducible refine Exists.intro ?_ (And.intro ?_ ?_));rotate_left;· first|with_reducible assumption|((conv=>lhs;arg 2;whnf);with_reducible assumption)|exact rfl)|((with_reducible refine And.intro (a:=AH.may _ _=true) ?_ ?_);· (try dsimp only);(repeat first|with_reducible assumption|((with_reducible refine New.mayNew (by assumption) (by assumption) ?_ ?_ ?_)<;>omega)|refine Upd.mayOf (by assumption) ?_|refine New.mayOf (by assumption) ?_|refine Ke.mayOf (by assumption) ?_))|((with_reducible refine And.intro (a:=szOf _ _=_) ?_ ?_);· refine Eq.trans (by assumption) ?_;kernel_rfl)|((with_reducible refine And.intro (a:=List.all _ _=true) ?_ ?_);· kernel_rfl)|((with_reducible refine And.intro (a:=_=_) ?_ ?_);· first|with_reducible assumption|rfl)|((with_reducible refine And.intro (a:=_≤_) ?_ ?_);· first|omega|exact Nat.le_of_ble_eq_true (by kernel_rfl))|((with_reducible refine And.intro (a:=_<_) ?_ ?_);· omega)|((with_reducible refine And.intro (a:=_∧_) ?_ ?_);· constructor<;>first|omega|(simp<;>omega))|(refine brk_true ?_ ?_;· first|rfl|(simp only [q1,q2,q3,q4,q7,q8,ne_eq,q5,q6];omega))|(refine brk_false ?_ ?_;· first|rfl|(simp only [q1,q2,q3,q4,q7,q8,ne_eq,q5,q6];omega))|(intro aa uu;(try dsimp only at uu);have okk:=uu.ok;have nxx:=uu.next;have lkk:=uu.lock;have imm:=uu.imp))
      try conv=>whnf
      refine congrArg Value.bool ?_
      rw [← hp1, isTF_no hlt (by unfold okB; rw [hc])]
    · rcases Nat.lt_trichotomy (Utf8.decode s p).1 65533 with h65 | h65 | h65
      · have hb : okB s p = true := by simp only [okB, hc, decide_eq_false (show ¬ (Utf8.decode s p).1 = 65533 by omega)]
        repeat ((conv=>whnf);first|((with_reducible refine Exists.intro ?_ (Exists.intro ?_ (And.intro (a:=_=some (Blk.cells _ _)) ?_ ?_)));rotate_left 2;· (try dsimp only);(repeat first|with_reducible assumption|with_reducible exact uA (by assumption)|with_reducible exact nA (by assumption)|((with_reducible refine uN (by assumption) ?_ ?_);· omega)|((with_reducible refine nN (by assumption) ?_ ?_);· omega)))|((with_reducible refine Exists.intro ?_ (And.intro ?_ ?_));rotate_left;· first|with_reducible assumption|((conv=>lhs;arg 2;whnf);with_reducible assumption)|exact rfl)|((with_reducible refine And.intro (a:=AH.may _ _=true) ?_ ?_);· (try dsimp only);(repeat first|with_reducible assumption|((with_reducible refine New.mayNew (by assumption) (by assumption) ?_ ?_ ?_)<;>omega)|refine Upd.mayOf (by assumption) ?_|refine New.mayOf (by assumption) ?_|refine Ke.mayOf (by assumption) ?_))|((with_reducible refine And.intro (a:=szOf _ _=_) ?_ ?_);· refine Eq.trans (by assumption) ?_;kernel_rfl)|((with_reducible refine And.intro (a:=List.all _ _=true) ?_ ?_);· kernel_rfl)|((with_reducible refine And.intro (a:=_=_) ?_ ?_);· first|with_reducible assumption|rfl)|((with_reducible refine And.intro (a:=_≤_) ?_ ?_);· first|omega|exact Nat.le_of_ble_eq_true (by kernel_rfl))|((with_reducible refine And.intro (a:=_<_) ?_ ?_);· omega)|((with_reducible refine And.intro (a:=_∧_) ?_ ?_);· constructor<;>first|omega|(simp<;>omega))|(refine brk_true ?_ ?_;· first|rfl|(simp only [q1,q2,q3,q4,q7,q8,ne_eq,q5,q6];omega))|(refine brk_false ?_ ?_;· first|rfl|(simp only [q1,q2,q3,q4,q7,q8,ne_eq,q5,q6];omega))|(intro aa uu;(try dsimp only at uu);have okk:=uu.ok;have nxx:=uu.next;have lkk:=uu.lock;have imm:=uu.imp))
        try conv=>whnf
        refine ⟨m, by omega, by kernel_rfl, p + (Utf8.decode s p).2, ?_, by omega, ⟨by kernel_rfl, by kernel_rfl, trivial⟩, by (repeat first|with_reducible assumption|with_reducible exact uA (by assumption)|with_reducible exact nA (by assumption)|((with_reducible refine Eq.trans (uA (by assumption)) ?_);kernel_rfl)|((with_reducible refine Eq.trans (nA (by assumption)) ?_);kernel_rfl)|((with_reducible refine uN (by assumption) ?_ ?_);· omega)|((with_reducible refine nN (by assumption) ?_ ?_);· omega)), by (repeat first|with_reducible assumption|((with_reducible refine New.mayNew (by assumption) (by assumption) ?_ ?_ ?_)<;>omega)|refine Upd.mayOf (by assumption) ?_|refine New.mayOf (by assumption) ?_|refine Ke.mayOf (by assumption) ?_)⟩
        rw [← hp1, isTF_in hlt hb]
      · have hl : ((s.data.toList.drop p).take (s.data.toList.length - p)).toArray.toList = s.data.toList.drop p := tail_eq s p
        repeat ((conv=>whnf);first|((with_reducible refine Exists.intro ?_ (Exists.intro ?_ (And.intro (a:=_=some (Blk.cells _ _)) ?_ ?_)));rotate_left 2;· (try dsimp only);(repeat first|with_reducible assumption|with_reducible exact uA (by assumption)|with_reducible exact nA (by assumption)|((with_reducible refine uN (by assumption) ?_ ?_);· omega)|((with_reducible refine nN (by assumption) ?_ ?_);· omega)))|((with_reducible refine Exists.intro ?_ (And.intro ?_ ?_));rotate_left;· first|with_reducible assumption|((conv=>lhs;arg 2;whnf);with_reducible assumption)|exact rfl)|((with_reducible refine And.intro (a:=AH.may _ _=true) ?_ ?_);· (try dsimp only);(repeat first|with_reducible assumption|((with_reducible refine New.mayNew (by assumption) (by assumption) ?_ ?_ ?_)<;>omega)|refine Upd.mayOf (by assumption) ?_|refine New.mayOf (by assumption) ?_|refine Ke.mayOf (by assumption) ?_))|((with_reducible refine And.intro (a:=szOf _ _=_) ?_ ?_);· refine Eq.trans (by assumption) ?_;kernel_rfl)|((with_reducible refine And.intro (a:=List.all _ _=true) ?_ ?_);· kernel_rfl)|((with_reducible refine And.intro (a:=_=_) ?_ ?_);· first|with_reducible assumption|rfl)|((with_reducible refine And.intro (a:=_≤_) ?_ ?_);· first|omega|exact Nat.le_of_ble_eq_true (by kernel_rfl))|((with_reducible refine And.intro (a:=_<_) ?_ ?_);· omega)|((with_reducible refine And.intro (a:=_∧_) ?_ ?_);· constructor<;>first|omega|(simp<;>omega))|(refine brk_true ?_ ?_;· first|rfl|(simp only [q1,q2,q3,q4,q7,q8,ne_eq,q5,q6];omega))|(refine brk_false ?_ ?_;· first|rfl|(simp only [q1,q2,q3,q4,q7,q8,ne_eq,q5,q6];omega))|(intro aa uu;(try dsimp only at uu);have okk:=uu.ok;have nxx:=uu.next;have lkk:=uu.lock;have imm:=uu.imp))
        try conv=>whnf
        refine callB_pure ((E.fn 29).trans Tryz.func29) rfl ?_
        refine ⟨by assumption, _, (f29_ok E hl (by rw [List.length_drop]; omega) (by omega) (by assumption)), ?_⟩
        cases hq : badB (s.data.toList.drop p)
        · repeat ((conv=>whnf);first|((with_reducible refine Exists.intro ?_ (Exists.intro ?_ (And.intro (a:=_=some (Blk.cells _ _)) ?_ ?_)));rotate_left 2;· (try dsimp only);(repeat first|with_reducible assumption|with_reducible exact uA (by assumption)|with_reducible exact nA (by assumption)|((with_reducible refine uN (by assumption) ?_ ?_);· omega)|((with_reducible refine nN (by assumption) ?_ ?_);· omega)))|((with_reducible refine Exists.intro ?_ (And.intro ?_ ?_));rotate_left;· first|with_reducible assumption|((conv=>lhs;arg 2;whnf);with_reducible assumption)|exact rfl)|((with_reducible refine And.intro (a:=AH.may _ _=true) ?_ ?_);· (try dsimp only);(repeat first|with_reducible assumption|((with_reducible refine New.mayNew (by assumption) (by assumption) ?_ ?_ ?_)<;>omega)|refine Upd.mayOf (by assumption) ?_|refine New.mayOf (by assumption) ?_|refine Ke.mayOf (by assumption) ?_))|((with_reducible refine And.intro (a:=szOf _ _=_) ?_ ?_);· refine Eq.trans (by assumption) ?_;kernel_rfl)|((with_reducible refine And.intro (a:=List.all _ _=true) ?_ ?_);· kernel_rfl)|((with_reducible refine And.intro (a:=_=_) ?_ ?_);· first|with_reducible assumption|rfl)|((with_reducible refine And.intro (a:=_≤_) ?_ ?_);· first|omega|exact Nat.le_of_ble_eq_true (by kernel_rfl))|((with_reducible refine And.intro (a:=_<_) ?_ ?_);· omega)|((with_reducible refine And.intro (a:=_∧_) ?_ ?_);· constructor<;>first|omega|(simp<;>omega))|(refine brk_true ?_ ?_;· first|rfl|(simp only [q1,q2,q3,q4,q7,q8,ne_eq,q5,q6];omega))|(refine brk_false ?_ ?_;· first|rfl|(simp only [q1,q2,q3,q4,q7,q8,ne_eq,q5,q6];omega))|(intro aa uu;(try dsimp only at uu);have okk:=uu.ok;have nxx:=uu.next;have lkk:=uu.lock;have imm:=uu.imp))
          try conv=>whnf
          refine congrArg Value.bool ?_
          rw [← hp1, isTF_no hlt (by simp only [okB, hc, decide_eq_true h65, hq])]
        · have hb : okB s p = true := by simp only [okB, hc, decide_eq_true h65, hq]
          repeat ((conv=>whnf);first|((with_reducible refine Exists.intro ?_ (Exists.intro ?_ (And.intro (a:=_=some (Blk.cells _ _)) ?_ ?_)));rotate_left 2;· (try dsimp only);(repeat first|with_reducible assumption|with_reducible exact uA (by assumption)|with_reducible exact nA (by assumption)|((with_reducible refine uN (by assumption) ?_ ?_);· omega)|((with_reducible refine nN (by assumption) ?_ ?_);· omega)))|((with_reducible refine Exists.intro ?_ (And.intro ?_ ?_));rotate_left;· first|with_reducible assumption|((conv=>lhs;arg 2;whnf);with_reducible assumption)|exact rfl)|((with_reducible refine And.intro (a:=AH.may _ _=true) ?_ ?_);· (try dsimp only);(repeat first|with_reducible assumption|((with_reducible refine New.mayNew (by assumption) (by assumption) ?_ ?_ ?_)<;>omega)|refine Upd.mayOf (by assumption) ?_|refine New.mayOf (by assumption) ?_|refine Ke.mayOf (by assumption) ?_))|((with_reducible refine And.intro (a:=szOf _ _=_) ?_ ?_);· refine Eq.trans (by assumption) ?_;kernel_rfl)|((with_reducible refine And.intro (a:=List.all _ _=true) ?_ ?_);· kernel_rfl)|((with_reducible refine And.intro (a:=_=_) ?_ ?_);· first|with_reducible assumption|rfl)|((with_reducible refine And.intro (a:=_≤_) ?_ ?_);· first|omega|exact Nat.le_of_ble_eq_true (by kernel_rfl))|((with_reducible refine And.intro (a:=_<_) ?_ ?_);· omega)|((with_reducible refine And.intro (a:=_∧_) ?_ ?_);· constructor<;>first|omega|(simp<;>omega))|(refine brk_true ?_ ?_;· first|rfl|(simp only [q1,q2,q3,q4,q7,q8,ne_eq,q5,q6];omega))|(refine brk_false ?_ ?_;· first|rfl|(simp only [q1,q2,q3,q4,q7,q8,ne_eq,q5,q6];omega))|(intro aa uu;(try dsimp only at uu);have okk:=uu.ok;have nxx:=uu.next;have lkk:=uu.lock;have imm:=uu.imp))
          try conv=>whnf
          refine ⟨m, by omega, by kernel_rfl, p + (Utf8.decode s p).2, ?_, by omega, ⟨by kernel_rfl, by kernel_rfl, trivial⟩, by (repeat first|with_reducible assumption|with_reducible exact uA (by assumption)|with_reducible exact nA (by assumption)|((with_reducible refine Eq.trans (uA (by assumption)) ?_);kernel_rfl)|((with_reducible refine Eq.trans (nA (by assumption)) ?_);kernel_rfl)|((with_reducible refine uN (by assumption) ?_ ?_);· omega)|((with_reducible refine nN (by assumption) ?_ ?_);· omega)), by (repeat first|with_reducible assumption|((with_reducible refine New.mayNew (by assumption) (by assumption) ?_ ?_ ?_)<;>omega)|refine Upd.mayOf (by assumption) ?_|refine New.mayOf (by assumption) ?_|refine Ke.mayOf (by assumption) ?_)⟩
          rw [← hp1, isTF_in hlt hb]
      · have hb : okB s p = true := by simp only [okB, hc, decide_eq_false (show ¬ (Utf8.decode s p).1 = 65533 by omega)]
        repeat ((conv=>whnf);first|((with_reducible refine Exists.intro ?_ (Exists.intro ?_ (And.intro (a:=_=some (Blk.cells _ _)) ?_ ?_)));rotate_left 2;· (try dsimp only);(repeat first|with_reducible assumption|with_reducible exact uA (by assumption)|with_reducible exact nA (by assumption)|((with_reducible refine uN (by assumption) ?_ ?_);· omega)|((with_reducible refine nN (by assumption) ?_ ?_);· omega)))|((with_reducible refine Exists.intro ?_ (And.intro ?_ ?_));rotate_left;· first|with_reducible assumption|((conv=>lhs;arg 2;whnf);with_reducible assumption)|exact rfl)|((with_reducible refine And.intro (a:=AH.may _ _=true) ?_ ?_);· (try dsimp only);(repeat first|with_reducible assumption|((with_reducible refine New.mayNew (by assumption) (by assumption) ?_ ?_ ?_)<;>omega)|refine Upd.mayOf (by assumption) ?_|refine New.mayOf (by assumption) ?_|refine Ke.mayOf (by assumption) ?_))|((with_reducible refine And.intro (a:=szOf _ _=_) ?_ ?_);· refine Eq.trans (by assumption) ?_;kernel_rfl)|((with_reducible refine And.intro (a:=List.all _ _=true) ?_ ?_);· kernel_rfl)|((with_reducible refine And.intro (a:=_=_) ?_ ?_);· first|with_reducible assumption|rfl)|((with_reducible refine And.intro (a:=_≤_) ?_ ?_);· first|omega|exact Nat.le_of_ble_eq_true (by kernel_rfl))|((with_reducible refine And.intro (a:=_<_) ?_ ?_);· omega)|((with_reducible refine And.intro (a:=_∧_) ?_ ?_);· constructor<;>first|omega|(simp<;>omega))|(refine brk_true ?_ ?_;· first|rfl|(simp only [q1,q2,q3,q4,q7,q8,ne_eq,q5,q6];omega))|(refine brk_false ?_ ?_;· first|rfl|(simp only [q1,q2,q3,q4,q7,q8,ne_eq,q5,q6];omega))|(intro aa uu;(try dsimp only at uu);have okk:=uu.ok;have nxx:=uu.next;have lkk:=uu.lock;have imm:=uu.imp))
        try conv=>whnf
        refine ⟨m, by omega, by kernel_rfl, p + (Utf8.decode s p).2, ?_, by omega, ⟨by kernel_rfl, by kernel_rfl, trivial⟩, by (repeat first|with_reducible assumption|with_reducible exact uA (by assumption)|with_reducible exact nA (by assumption)|((with_reducible refine Eq.trans (uA (by assumption)) ?_);kernel_rfl)|((with_reducible refine Eq.trans (nA (by assumption)) ?_);kernel_rfl)|((with_reducible refine uN (by assumption) ?_ ?_);· omega)|((with_reducible refine nN (by assumption) ?_ ?_);· omega)), by (repeat first|with_reducible assumption|((with_reducible refine New.mayNew (by assumption) (by assumption) ?_ ?_ ?_)<;>omega)|refine Upd.mayOf (by assumption) ?_|refine New.mayOf (by assumption) ?_|refine Ke.mayOf (by assumption) ?_)⟩
        rw [← hp1, isTF_in hlt hb]
  · have hge : s.data.toList.length ≤ p := by
      rcases Nat.lt_or_ge p s.data.toList.length with hx | hx
      · rw [blt_iff.2 hx] at hge; cases hge
      · exact hx
    repeat ((conv=>whnf);first|((with_reducible refine Exists.intro ?_ (Exists.intro ?_ (And.intro (a:=_=some (Blk.cells _ _)) ?_ ?_)));rotate_left 2;· (try dsimp only);(repeat first|with_reducible assumption|with_reducible exact uA (by assumption)|with_reducible exact nA (by assumption)|((with_reducible refine uN (by assumption) ?_ ?_);· omega)|((with_reducible refine nN (by assumption) ?_ ?_);· omega)))|((with_reducible refine Exists.intro ?_ (And.intro ?_ ?_));rotate_left;· first|with_reducible assumption|((conv=>lhs;arg 2;whnf);with_reducible assumption)|exact rfl)|((with_reducible refine And.intro (a:=AH.may _ _=true) ?_ ?_);· (try dsimp only);(repeat first|with_reducible assumption|((with_reducible refine New.mayNew (by assumption) (by assumption) ?_ ?_ ?_)<;>omega)|refine Upd.mayOf (by assumption) ?_|refine New.mayOf (by assumption) ?_|refine Ke.mayOf (by assumption) ?_))|((with_reducible refine And.intro (a:=szOf _ _=_) ?_ ?_);· refine Eq.trans (by assumption) ?_;kernel_rfl)|((with_reducible refine And.intro (a:=List.all _ _=true) ?_ ?_);· kernel_rfl)|((with_reducible refine And.intro (a:=_=_) ?_ ?_);· first|with_reducible assumption|rfl)|((with_reducible refine And.intro (a:=_≤_) ?_ ?_);· first|omega|exact Nat.le_of_ble_eq_true (by kernel_rfl))|((with_reducible refine And.intro (a:=_<_) ?_ ?_);· omega)|((with_reducible refine And.intro (a:=_∧_) ?_ ?_);· constructor<;>first|omega|(simp<;>omega))|(refine brk_true ?_ ?_;· first|rfl|(simp only [q1,q2,q3,q4,q7,q8,ne_eq,q5,q6];omega))|(refine brk_false ?_ ?_;· first|rfl|(simp only [q1,q2,q3,q4,q7,q8,ne_eq,q5,q6];omega))|(intro aa uu;(try dsimp only at uu);have okk:=uu.ok;have nxx:=uu.next;have lkk:=uu.lock;have imm:=uu.imp))
    try conv=>whnf
    refine congrArg Value.bool ?_
    rw [← hp1, isTF_end hge]

theorem f30_ok (E : Alike P Tryz.prog base walkJ) {d : Nat} {h : AH} {s : ByteArray} (hs : s.data.toList.length ≤ 1000) (hd : 1 ≤ d) (hok : HOK h) (hn : h.next < 65000) (hi : h.imp ≤ h.next) : deepF P G ext 2199023255552 base mtJ d 30 [.string s] h = some (.int .i64 (numT s : Nat), none) := by
  have u3:=U3 E;have s3:=S3 E;have a3:=A3 E;have e3:=Z3 E
  have u9:=U9 E;have s9:=S9 E;have a9:=A9 E;have e9:=Z9 E
  refine over_eq (by omega) rfl (E.no 30 _ _ rfl) rfl ((E.fn 30).trans Tryz.func30) rfl hok rfl ?_
  have hokl := hok.locked
  have hnl : h.locked.next = h.next := rfl
  have hll : h.locked.lock = h.next := rfl
  have hil : h.locked.imp = h.imp := rfl
  have hfll : h.locked.fl = h.fl := rfl
  conv => whnf
  refine ⟨by simp [Tryz.f30], ?_⟩
  repeat ((conv=>whnf);first|((with_reducible refine Exists.intro ?_ (Exists.intro ?_ (And.intro (a:=_=some (Blk.cells _ _)) ?_ ?_)));rotate_left 2;· (try dsimp only);(repeat first|with_reducible assumption|with_reducible exact uA (by assumption)|with_reducible exact nA (by assumption)|((with_reducible refine uN (by assumption) ?_ ?_);· omega)|((with_reducible refine nN (by assumption) ?_ ?_);· omega)))|((with_reducible refine Exists.intro ?_ (And.intro ?_ ?_));rotate_left;· first|with_reducible assumption|((conv=>lhs;arg 2;whnf);with_reducible assumption)|exact rfl)|((with_reducible refine And.intro (a:=AH.may _ _=true) ?_ ?_);· (try dsimp only);(repeat first|with_reducible assumption|((with_reducible refine New.mayNew (by assumption) (by assumption) ?_ ?_ ?_)<;>omega)|refine Upd.mayOf (by assumption) ?_|refine New.mayOf (by assumption) ?_|refine Ke.mayOf (by assumption) ?_))|((with_reducible refine And.intro (a:=szOf _ _=_) ?_ ?_);· refine Eq.trans (by assumption) ?_;kernel_rfl)|((with_reducible refine And.intro (a:=List.all _ _=true) ?_ ?_);· kernel_rfl)|((with_reducible refine And.intro (a:=_=_) ?_ ?_);· first|with_reducible assumption|rfl)|((with_reducible refine And.intro (a:=_≤_) ?_ ?_);· first|omega|exact Nat.le_of_ble_eq_true (by kernel_rfl))|((with_reducible refine And.intro (a:=_<_) ?_ ?_);· omega)|((with_reducible refine And.intro (a:=_∧_) ?_ ?_);· constructor<;>first|omega|(simp<;>omega))|(refine brk_true ?_ ?_;· first|rfl|(simp only [q1,q2,q3,q4,q7,q8,ne_eq,q5,q6];omega))|(refine brk_false ?_ ?_;· first|rfl|(simp only [q1,q2,q3,q4,q7,q8,ne_eq,q5,q6];omega))|(intro aa uu;(try dsimp only at uu);have okk:=uu.ok;have nxx:=uu.next;have lkk:=uu.lock;have imm:=uu.imp))
  try conv=>whnf
  refine .inl ⟨fun m env h' => sh 4 env = true ∧ ∃ p c : Nat, c + numF s m p = numT s ∧ s.data.toList.length < m + p ∧ c ≤ p ∧ has env [(0, .string s), (2, .int .i64 c), (4, ptJ h.locked.next)] ∧ h'.get h.locked.next = some (.iter s p) ∧ h'.may h.locked.next = true, s.data.toList.length + 1, by omega,
    ⟨by kernel_rfl, 0, 0, by unfold numT; omega, by omega, by omega, ⟨by kernel_rfl, by kernel_rfl, by kernel_rfl, trivial⟩, by (repeat first|with_reducible assumption|with_reducible exact uA (by assumption)|with_reducible exact nA (by assumption)|((with_reducible refine Eq.trans (uA (by assumption)) ?_);kernel_rfl)|((with_reducible refine Eq.trans (nA (by assumption)) ?_);kernel_rfl)|((with_reducible refine uN (by assumption) ?_ ?_);· omega)|((with_reducible refine nN (by assumption) ?_ ?_);· omega)), by (repeat first|with_reducible assumption|((with_reducible refine New.mayNew (by assumption) (by assumption) ?_ ?_ ?_)<;>omega)|refine Upd.mayOf (by assumption) ?_|refine New.mayOf (by assumption) ?_|refine Ke.mayOf (by assumption) ?_)⟩, ?_⟩
  rintro m env h' hok' ⟨hsh, p, c, hp1, hp2, hp3, hhas, hg, hm⟩
  rw [env_form hsh hhas]
  repeat ((conv=>whnf);first|((with_reducible refine Exists.intro ?_ (Exists.intro ?_ (And.intro (a:=_=some (Blk.cells _ _)) ?_ ?_)));rotate_left 2;· (try dsimp only);(repeat first|with_reducible assumption|with_reducible exact uA (by assumption)|with_reducible exact nA (by assumption)|((with_reducible refine uN (by assumption) ?_ ?_);· omega)|((with_reducible refine nN (by assumption) ?_ ?_);· omega)))|((with_reducible refine Exists.intro ?_ (And.intro ?_ ?_));rotate_left;· first|with_reducible assumption|((conv=>lhs;arg 2;whnf);with_reducible assumption)|exact rfl)|((with_reducible refine And.intro (a:=AH.may _ _=true) ?_ ?_);· (try dsimp only);(repeat first|with_reducible assumption|((with_reducible refine New.mayNew (by assumption) (by assumption) ?_ ?_ ?_)<;>omega)|refine Upd.mayOf (by assumption) ?_|refine New.mayOf (by assumption) ?_|refine Ke.mayOf (by assumption) ?_))|((with_reducible refine And.intro (a:=szOf _ _=_) ?_ ?_);· refine Eq.trans (by assumption) ?_;kernel_rfl)|((with_reducible refine And.intro (a:=List.all _ _=true) ?_ ?_);· kernel_rfl)|((with_reducible refine And.intro (a:=_=_) ?_ ?_);· first|with_reducible assumption|rfl)|((with_reducible refine And.intro (a:=_≤_) ?_ ?_);· first|omega|exact Nat.le_of_ble_eq_true (by kernel_rfl))|((with_reducible refine And.intro (a:=_<_) ?_ ?_);· omega)|((with_reducible refine And.intro (a:=_∧_) ?_ ?_);· constructor<;>first|omega|(simp<;>omega))|(refine brk_true ?_ ?_;· first|rfl|(simp only [q1,q2,q3,q4,q7,q8,ne_eq,q5,q6];omega))|(refine brk_false ?_ ?_;· first|rfl|(simp only [q1,q2,q3,q4,q7,q8,ne_eq,q5,q6];omega))|(intro aa uu;(try dsimp only at uu);have okk:=uu.ok;have nxx:=uu.next;have lkk:=uu.lock;have imm:=uu.imp))
  try conv=>whnf
  refine ⟨s, p, hg, ?_⟩
  refine brk_of (fun hlt => ?_) (fun hge => ?_)
  · have hlt := blt_iff.1 hlt
    obtain ⟨m, rfl⟩ : ∃ k, m = k + 1 := ⟨m - 1, by omega⟩
    have hw := dec_pos s p
    rw [numF_in hlt] at hp1
    repeat ((conv=>whnf);first|((with_reducible refine Exists.intro ?_ (Exists.intro ?_ (And.intro (a:=_=some (Blk.cells _ _)) ?_ ?_)));rotate_left 2;· (try dsimp only);(repeat first|with_reducible assumption|with_reducible exact uA (by assumption)|with_reducible exact nA (by assumption)|((with_reducible refine uN (by assumption) ?_ ?_);· omega)|((with_reducible refine nN (by assumption) ?_ ?_);· omega)))|((with_reducible refine Exists.intro ?_ (And.intro ?_ ?_));rotate_left;· first|with_reducible assumption|((conv=>lhs;arg 2;whnf);with_reducible assumption)|exact rfl)|((with_reducible refine And.intro (a:=AH.may _ _=true) ?_ ?_);· (try dsimp only);(repeat first|with_reducible assumption|((with_reducible refine New.mayNew (by assumption) (by assumption) ?_ ?_ ?_)<;>omega)|refine Upd.mayOf (by assumption) ?_|refine New.mayOf (by assumption) ?_|refine Ke.mayOf (by assumption) ?_))|((with_reducible refine And.intro (a:=szOf _ _=_) ?_ ?_);· refine Eq.trans (by assumption) ?_;kernel_rfl)|((with_reducible refine And.intro (a:=List.all _ _=true) ?_ ?_);· kernel_rfl)|((with_reducible refine And.intro (a:=_=_) ?_ ?_);· first|with_reducible assumption|rfl)|((with_reducible refine And.intro (a:=_≤_) ?_ ?_);· first|omega|exact Nat.le_of_ble_eq_true (by kernel_rfl))|((with_reducible refine And.intro (a:=_<_) ?_ ?_);· omega)|((with_reducible refine And.intro (a:=_∧_) ?_ ?_);· constructor<;>first|omega|(simp<;>omega))|(refine brk_true ?_ ?_;· first|rfl|(simp only [q1,q2,q3,q4,q7,q8,ne_eq,q5,q6];omega))|(refine brk_false ?_ ?_;· first|rfl|(simp only [q1,q2,q3,q4,q7,q8,ne_eq,q5,q6];omega))|(intro aa uu;(try dsimp only at uu);have okk:=uu.ok;have nxx:=uu.next;have lkk:=uu.lock;have imm:=uu.imp))
    try conv=>whnf
    refine ⟨m, by omega, by kernel_rfl, p + (Utf8.decode s p).2, c + 1, by omega, by omega, by omega, ⟨by kernel_rfl, by kernel_rfl, by kernel_rfl, trivial⟩, by (repeat first|with_reducible assumption|with_reducible exact uA (by assumption)|with_reducible exact nA (by assumption)|((with_reducible refine Eq.trans (uA (by assumption)) ?_);kernel_rfl)|((with_reducible refine Eq.trans (nA (by assumption)) ?_);kernel_rfl)|((with_reducible refine uN (by assumption) ?_ ?_);· omega)|((with_reducible refine nN (by assumption) ?_ ?_);· omega)), by (repeat first|with_reducible assumption|((with_reducible refine New.mayNew (by assumption) (by assumption) ?_ ?_ ?_)<;>omega)|refine Upd.mayOf (by assumption) ?_|refine New.mayOf (by assumption) ?_|refine Ke.mayOf (by assumption) ?_)⟩
  · have hge : s.data.toList.length ≤ p := by
      rcases Nat.lt_or_ge p s.data.toList.length with hx | hx
      · rw [blt_iff.2 hx] at hge; cases hge
      · exact hx
    rw [numF_end hge] at hp1
    repeat ((conv=>whnf);first|((with_reducible refine Exists.intro ?_ (Exists.intro ?_ (And.intro (a:=_=some (Blk.cells _ _)) ?_ ?_)));rotate_left 2;· (try dsimp only);(repeat first|with_reducible assumption|with_reducible exact uA (by assumption)|with_reducible exact nA (by assumption)|((with_reducible refine uN (by assumption) ?_ ?_);· omega)|((with_reducible refine nN (by assumption) ?_ ?_);· omega)))|((with_reducible refine Exists.intro ?_ (And.intro ?_ ?_));rotate_left;· first|with_reducible assumption|((conv=>lhs;arg 2;whnf);with_reducible assumption)|exact rfl)|((with_reducible refine And.intro (a:=AH.may _ _=true) ?_ ?_);· (try dsimp only);(repeat first|with_reducible assumption|((with_reducible refine New.mayNew (by assumption) (by assumption) ?_ ?_ ?_)<;>omega)|refine Upd.mayOf (by assumption) ?_|refine New.mayOf (by assumption) ?_|refine Ke.mayOf (by assumption) ?_))|((with_reducible refine And.intro (a:=szOf _ _=_) ?_ ?_);· refine Eq.trans (by assumption) ?_;kernel_rfl)|((with_reducible refine And.intro (a:=List.all _ _=true) ?_ ?_);· kernel_rfl)|((with_reducible refine And.intro (a:=_=_) ?_ ?_);· first|with_reducible assumption|rfl)|((with_reducible refine And.intro (a:=_≤_) ?_ ?_);· first|omega|exact Nat.le_of_ble_eq_true (by kernel_rfl))|((with_reducible refine And.intro (a:=_<_) ?_ ?_);· omega)|((with_reducible refine And.intro (a:=_∧_) ?_ ?_);· constructor<;>first|omega|(simp<;>omega))|(refine brk_true ?_ ?_;· first|rfl|(simp only [q1,q2,q3,q4,q7,q8,ne_eq,q5,q6];omega))|(refine brk_false ?_ ?_;· first|rfl|(simp only [q1,q2,q3,q4,q7,q8,ne_eq,q5,q6];omega))|(intro aa uu;(try dsimp only at uu);have okk:=uu.ok;have nxx:=uu.next;have lkk:=uu.lock;have imm:=uu.imp))
    try conv=>whnf
    exact congrArg (Value.int .i64) (by omega)

theorem f16_ok (E : Alike P Tryz.prog base walkJ) {d : Nat} {h : AH} {s : ByteArray} (hs : s.data.toList.length ≤ 1000) (hd : 4 ≤ d) (hok : HOK h) (hn : h.next < 65000) (hi : h.imp ≤ h.next) : deepF P G ext 2199023255552 base mtJ d 16 [.string s] h = some (.int .i64 (lenT s : Nat), none) := by
  cases hb : isT s
  · rw [show lenT s = 0 by unfold lenT; rw [hb]]
    have u4:=U4 E;have s4:=S4 E;have a4:=A4 E;have e4:=Z4 E
    have u9:=U9 E;have s9:=S9 E;have a9:=A9 E;have e9:=Z9 E
    refine over_eq (by omega) rfl (E.no 16 _ _ rfl) rfl ((E.fn 16).trans Tryz.func16) rfl hok rfl ?_
    have hokl := hok.locked
    have hnl : h.locked.next = h.next := rfl
    have hll : h.locked.lock = h.next := rfl
    have hil : h.locked.imp = h.imp := rfl
    have hfll : h.locked.fl = h.fl := rfl
    conv => whnf
    refine ⟨by simp [Tryz.f16], ?_⟩
    repeat ((conv=>whnf);first|((with_reducible refine Exists.intro ?_ (Exists.intro ?_ (And.intro (a:=_=some (Blk.cells _ _)) ?_ ?_)));rotate_left 2;· (try dsimp only);(repeat first|with_reducible assumption|with_reducible exact uA (by assumption)|with_reducible exact nA (by assumption)|((with_reducible refine uN (by assumption) ?_ ?_);· omega)|((with_reducible refine nN (by assumption) ?_ ?_);· omega)))|((with_reducible refine Exists.intro ?_ (And.intro ?_ ?_));rotate_left;· first|with_reducible assumption|((conv=>lhs;arg 2;whnf);with_reducible assumption)|exact rfl)|((with_reducible refine And.intro (a:=AH.may _ _=true) ?_ ?_);· (try dsimp only);(repeat first|with_reducible assumption|((with_reducible refine New.mayNew (by assumption) (by assumption) ?_ ?_ ?_)<;>omega)|refine Upd.mayOf (by assumption) ?_|refine New.mayOf (by assumption) ?_|refine Ke.mayOf (by assumption) ?_))|((with_reducible refine And.intro (a:=szOf _ _=_) ?_ ?_);· refine Eq.trans (by assumption) ?_;kernel_rfl)|((with_reducible refine And.intro (a:=List.all _ _=true) ?_ ?_);· kernel_rfl)|((with_reducible refine And.intro (a:=_=_) ?_ ?_);· first|with_reducible assumption|rfl)|((with_reducible refine And.intro (a:=_≤_) ?_ ?_);· first|omega|exact Nat.le_of_ble_eq_true (by kernel_rfl))|((with_reducible refine And.intro (a:=_<_) ?_ ?_);· omega)|((with_reducible refine And.intro (a:=_∧_) ?_ ?_);· constructor<;>first|omega|(simp<;>omega))|(refine brk_true ?_ ?_;· first|rfl|(simp only [q1,q2,q3,q4,q7,q8,ne_eq,q5,q6];omega))|(refine brk_false ?_ ?_;· first|rfl|(simp only [q1,q2,q3,q4,q7,q8,ne_eq,q5,q6];omega))|(intro aa uu;(try dsimp only at uu);have okk:=uu.ok;have nxx:=uu.next;have lkk:=uu.lock;have imm:=uu.imp))
    try conv=>whnf
    refine callB_pure ((E.fn 15).trans Tryz.func15) rfl ?_
    refine ⟨by assumption, _, ((f15_ok E hs (by omega) (by assumption) (by omega) (by omega)).trans (by rw [hb])), ?_⟩
    repeat ((conv=>whnf);first|((with_reducible refine Exists.intro ?_ (Exists.intro ?_ (And.intro (a:=_=some (Blk.cells _ _)) ?_ ?_)));rotate_left 2;· (try dsimp only);(repeat first|with_reducible assumption|with_reducible exact uA (by assumption)|with_reducible exact nA (by assumption)|((with_reducible refine uN (by assumption) ?_ ?_);· omega)|((with_reducible refine nN (by assumption) ?_ ?_);· omega)))|((with_reducible refine Exists.intro ?_ (And.intro ?_ ?_));rotate_left;· first|with_reducible assumption|((conv=>lhs;arg 2;whnf);with_reducible assumption)|exact rfl)|((with_reducible refine And.intro (a:=AH.may _ _=true) ?_ ?_);· (try dsimp only);(repeat first|with_reducible assumption|((with_reducible refine New.mayNew (by assumption) (by assumption) ?_ ?_ ?_)<;>omega)|refine Upd.mayOf (by assumption) ?_|refine New.mayOf (by assumption) ?_|refine Ke.mayOf (by assumption) ?_))|((with_reducible refine And.intro (a:=szOf _ _=_) ?_ ?_);· refine Eq.trans (by assumption) ?_;kernel_rfl)|((with_reducible refine And.intro (a:=List.all _ _=true) ?_ ?_);· kernel_rfl)|((with_reducible refine And.intro (a:=_=_) ?_ ?_);· first|with_reducible assumption|rfl)|((with_reducible refine And.intro (a:=_≤_) ?_ ?_);· first|omega|exact Nat.le_of_ble_eq_true (by kernel_rfl))|((with_reducible refine And.intro (a:=_<_) ?_ ?_);· omega)|((with_reducible refine And.intro (a:=_∧_) ?_ ?_);· constructor<;>first|omega|(simp<;>omega))|(refine brk_true ?_ ?_;· first|rfl|(simp only [q1,q2,q3,q4,q7,q8,ne_eq,q5,q6];omega))|(refine brk_false ?_ ?_;· first|rfl|(simp only [q1,q2,q3,q4,q7,q8,ne_eq,q5,q6];omega))|(intro aa uu;(try dsimp only at uu);have okk:=uu.ok;have nxx:=uu.next;have lkk:=uu.lock;have imm:=uu.imp))
    try conv=>whnf
    rfl
  · rw [show lenT s = numT s by unfold lenT; rw [hb]]
    have u4:=U4 E;have s4:=S4 E;have a4:=A4 E;have e4:=Z4 E
    have u9:=U9 E;have s9:=S9 E;have a9:=A9 E;have e9:=Z9 E
    refine over_eq (by omega) rfl (E.no 16 _ _ rfl) rfl ((E.fn 16).trans Tryz.func16) rfl hok rfl ?_
    have hokl := hok.locked
    have hnl : h.locked.next = h.next := rfl
    have hll : h.locked.lock = h.next := rfl
    have hil : h.locked.imp = h.imp := rfl
    have hfll : h.locked.fl = h.fl := rfl
    conv => whnf
    refine ⟨by simp [Tryz.f16], ?_⟩
    repeat ((conv=>whnf);first|((with_reducible refine Exists.intro ?_ (Exists.intro ?_ (And.intro (a:=_=some (Blk.cells _ _)) ?_ ?_)));rotate_left 2;· (try dsimp only);(repeat first|with_reducible assumption|with_reducible exact uA (by assumption)|with_reducible exact nA (by assumption)|((with_reducible refine uN (by assumption) ?_ ?_);· omega)|((with_reducible refine nN (by assumption) ?_ ?_);· omega)))|((with_reducible refine Exists.intro ?_ (And.intro ?_ ?_));rotate_left;· first|with_reducible assumption|((conv=>lhs;arg 2;whnf);with_reducible assumption)|exact rfl)|((with_reducible refine And.intro (a:=AH.may _ _=true) ?_ ?_);· (try dsimp only);(repeat first|with_reducible assumption|((with_reducible refine New.mayNew (by assumption) (by assumption) ?_ ?_ ?_)<;>omega)|refine Upd.mayOf (by assumption) ?_|refine New.mayOf (by assumption) ?_|refine Ke.mayOf (by assumption) ?_))|((with_reducible refine And.intro (a:=szOf _ _=_) ?_ ?_);· refine Eq.trans (by assumption) ?_;kernel_rfl)|((with_reducible refine And.intro (a:=List.all _ _=true) ?_ ?_);· kernel_rfl)|((with_reducible refine And.intro (a:=_=_) ?_ ?_);· first|with_reducible assumption|rfl)|((with_reducible refine And.intro (a:=_≤_) ?_ ?_);· first|omega|exact Nat.le_of_ble_eq_true (by kernel_rfl))|((with_reducible refine And.intro (a:=_<_) ?_ ?_);· omega)|((with_reducible refine And.intro (a:=_∧_) ?_ ?_);· constructor<;>first|omega|(simp<;>omega))|(refine brk_true ?_ ?_;· first|rfl|(simp only [q1,q2,q3,q4,q7,q8,ne_eq,q5,q6];omega))|(refine brk_false ?_ ?_;· first|rfl|(simp only [q1,q2,q3,q4,q7,q8,ne_eq,q5,q6];omega))|(intro aa uu;(try dsimp only at uu);have okk:=uu.ok;have nxx:=uu.next;have lkk:=uu.lock;have imm:=uu.imp))
    try conv=>whnf
    refine callB_pure ((E.fn 15).trans Tryz.func15) rfl ?_
    refine ⟨by assumption, _, ((f15_ok E hs (by omega) (by assumption) (by omega) (by omega)).trans (by rw [hb])), ?_⟩
    repeat ((conv=>whnf);first|((with_reducible refine Exists.intro ?_ (Exists.intro ?_ (And.intro (a:=_=some (Blk.cells _ _)) ?_ ?_)));rotate_left 2;· (try dsimp only);(repeat first|with_reducible assumption|with_reducible exact uA (by assumption)|with_reducible exact nA (by assumption)|((with_reducible refine uN (by assumption) ?_ ?_);· omega)|((with_reducible refine nN (by assumption) ?_ ?_);· omega)))|((with_reducible refine Exists.intro ?_ (And.intro ?_ ?_));rotate_left;· first|with_reducible assumption|((conv=>lhs;arg 2;whnf);with_reducible assumption)|exact rfl)|((with_reducible refine And.intro (a:=AH.may _ _=true) ?_ ?_);· (try dsimp only);(repeat first|with_reducible assumption|((with_reducible refine New.mayNew (by assumption) (by assumption) ?_ ?_ ?_)<;>omega)|refine Upd.mayOf (by assumption) ?_|refine New.mayOf (by assumption) ?_|refine Ke.mayOf (by assumption) ?_))|((with_reducible refine And.intro (a:=szOf _ _=_) ?_ ?_);· refine Eq.trans (by assumption) ?_;kernel_rfl)|((with_reducible refine And.intro (a:=List.all _ _=true) ?_ ?_);· kernel_rfl)|((with_reducible refine And.intro (a:=_=_) ?_ ?_);· first|with_reducible assumption|rfl)|((with_reducible refine And.intro (a:=_≤_) ?_ ?_);· first|omega|exact Nat.le_of_ble_eq_true (by kernel_rfl))|((with_reducible refine And.intro (a:=_<_) ?_ ?_);· omega)|((with_reducible refine And.intro (a:=_∧_) ?_ ?_);· constructor<;>first|omega|(simp<;>omega))|(refine brk_true ?_ ?_;· first|rfl|(simp only [q1,q2,q3,q4,q7,q8,ne_eq,q5,q6];omega))|(refine brk_false ?_ ?_;· first|rfl|(simp only [q1,q2,q3,q4,q7,q8,ne_eq,q5,q6];omega))|(intro aa uu;(try dsimp only at uu);have okk:=uu.ok;have nxx:=uu.next;have lkk:=uu.lock;have imm:=uu.imp))
    try conv=>whnf
    refine callB_pure ((E.fn 30).trans Tryz.func30) rfl ?_
    refine ⟨by assumption, _, (f30_ok E hs (by omega) (by assumption) (by omega) (by omega)), ?_⟩
    repeat ((conv=>whnf);first|((with_reducible refine Exists.intro ?_ (Exists.intro ?_ (And.intro (a:=_=some (Blk.cells _ _)) ?_ ?_)));rotate_left 2;· (try dsimp only);(repeat first|with_reducible assumption|with_reducible exact uA (by assumption)|with_reducible exact nA (by assumption)|((with_reducible refine uN (by assumption) ?_ ?_);· omega)|((with_reducible refine nN (by assumption) ?_ ?_);· omega)))|((with_reducible refine Exists.intro ?_ (And.intro ?_ ?_));rotate_left;· first|with_reducible assumption|((conv=>lhs;arg 2;whnf);with_reducible assumption)|exact rfl)|((with_reducible refine And.intro (a:=AH.may _ _=true) ?_ ?_);· (try dsimp only);(repeat first|with_reducible assumption|((with_reducible refine New.mayNew (by assumption) (by assumption) ?_ ?_ ?_)<;>omega)|refine Upd.mayOf (by assumption) ?_|refine New.mayOf (by assumption) ?_|refine Ke.mayOf (by assumption) ?_))|((with_reducible refine And.intro (a:=szOf _ _=_) ?_ ?_);· refine Eq.trans (by assumption) ?_;kernel_rfl)|((with_reducible refine And.intro (a:=List.all _ _=true) ?_ ?_);· kernel_rfl)|((with_reducible refine And.intro (a:=_=_) ?_ ?_);· first|with_reducible assumption|rfl)|((with_reducible refine And.intro (a:=_≤_) ?_ ?_);· first|omega|exact Nat.le_of_ble_eq_true (by kernel_rfl))|((with_reducible refine And.intro (a:=_<_) ?_ ?_);· omega)|((with_reducible refine And.intro (a:=_∧_) ?_ ?_);· constructor<;>first|omega|(simp<;>omega))|(refine brk_true ?_ ?_;· first|rfl|(simp only [q1,q2,q3,q4,q7,q8,ne_eq,q5,q6];omega))|(refine brk_false ?_ ?_;· first|rfl|(simp only [q1,q2,q3,q4,q7,q8,ne_eq,q5,q6];omega))|(intro aa uu;(try dsimp only at uu);have okk:=uu.ok;have nxx:=uu.next;have lkk:=uu.lock;have imm:=uu.imp))
    try conv=>whnf
    rfl
end

end
end Go.Proofs.YtelimgiehdfblaaGreatDoor.V
