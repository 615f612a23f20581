/- What the types of the functions that are walked come to. Conditions: none. -/
import Derived.Test.YtiecjjcemnafaaaGreatDoorWe
import Derived.Test.YtiecjjcemnafaaaGreatDoorProg
import Derived.KernelRfl
namespace Go.Proofs.YtiecjjcemnafaaaGreatDoor.V
set_option linter.all false
open Go
noncomputable section
theorem sz3 : szOf Tryz.prog 3 = some 1 := by kernel_rfl
theorem ag3 : isAggB Tryz.prog 3 = some false := by kernel_rfl
theorem ze3 : zeroOf Tryz.prog 3 = some (.int .i64 (0)) := by kernel_rfl
theorem sz4 : szOf Tryz.prog 4 = some 1 := by kernel_rfl
theorem ag4 : isAggB Tryz.prog 4 = some false := by kernel_rfl
theorem ze4 : zeroOf Tryz.prog 4 = some (.bool false) := by kernel_rfl
theorem sz5 : szOf Tryz.prog 5 = some 1 := by kernel_rfl
theorem ag5 : isAggB Tryz.prog 5 = some false := by kernel_rfl
theorem ze5 : zeroOf Tryz.prog 5 = some (.int .u8 (0)) := by kernel_rfl
theorem sz9 : szOf Tryz.prog 9 = some 1 := by kernel_rfl
theorem ag9 : isAggB Tryz.prog 9 = some false := by kernel_rfl
theorem ze9 : zeroOf Tryz.prog 9 = some (.string ⟨#[]⟩) := by kernel_rfl
theorem sz24 : szOf Tryz.prog 24 = some 1 := by kernel_rfl
theorem ag24 : isAggB Tryz.prog 24 = some false := by kernel_rfl
theorem ze24 : zeroOf Tryz.prog 24 = some (.slice none 0 0) := by kernel_rfl
theorem sz28 : szOf Tryz.prog 28 = some 2 := by kernel_rfl
theorem ag28 : isAggB Tryz.prog 28 = some true := by kernel_rfl
theorem ze28 : zeroOf Tryz.prog 28 = some (.agg #[.int .i64 (0), .string ⟨#[]⟩]) := by kernel_rfl
theorem sz29 : szOf Tryz.prog 29 = some 1 := by kernel_rfl
theorem ag29 : isAggB Tryz.prog 29 = some false := by kernel_rfl
theorem ze29 : zeroOf Tryz.prog 29 = some (.slice none 0 0) := by kernel_rfl
theorem sz30 : szOf Tryz.prog 30 = some 1 := by kernel_rfl
theorem ag30 : isAggB Tryz.prog 30 = some false := by kernel_rfl
theorem ze30 : zeroOf Tryz.prog 30 = some (.slice none 0 0) := by kernel_rfl
theorem sz31 : szOf Tryz.prog 31 = some 1 := by kernel_rfl
theorem ag31 : isAggB Tryz.prog 31 = some false := by kernel_rfl
theorem ze31 : zeroOf Tryz.prog 31 = some (.pointer none) := by kernel_rfl
theorem sz33 : szOf Tryz.prog 33 = some 8 := by kernel_rfl
theorem ag33 : isAggB Tryz.prog 33 = some true := by kernel_rfl
theorem ze33 : zeroOf Tryz.prog 33 = some (.agg #[.int .i64 (0), .int .i64 (0), .string ⟨#[]⟩, .int .i64 (0), .int .i64 (0), .slice none 0 0, .slice none 0 0, .pointer none]) := by kernel_rfl
theorem sz35 : szOf Tryz.prog 35 = some 1 := by kernel_rfl
theorem ag35 : isAggB Tryz.prog 35 = some false := by kernel_rfl
theorem ze35 : zeroOf Tryz.prog 35 = some (.int .i64 (0)) := by kernel_rfl
theorem sz39 : szOf Tryz.prog 39 = some 1 := by kernel_rfl
theorem ag39 : isAggB Tryz.prog 39 = some false := by kernel_rfl
theorem ze39 : zeroOf Tryz.prog 39 = some (.slice none 0 0) := by kernel_rfl
theorem sz48 : szOf Tryz.prog 48 = some 1 := by kernel_rfl
theorem ag48 : isAggB Tryz.prog 48 = some false := by kernel_rfl
theorem ze48 : zeroOf Tryz.prog 48 = some (.slice none 0 0) := by kernel_rfl
theorem sz53 : szOf Tryz.prog 53 = some 3 := by kernel_rfl
theorem ag53 : isAggB Tryz.prog 53 = some true := by kernel_rfl
theorem ze53 : zeroOf Tryz.prog 53 = some (.agg #[.int .i64 (0), .string ⟨#[]⟩, .slice none 0 0]) := by kernel_rfl
theorem sz55 : szOf Tryz.prog 55 = some 2 := by kernel_rfl
theorem ag55 : isAggB Tryz.prog 55 = some true := by kernel_rfl
theorem ze55 : zeroOf Tryz.prog 55 = some (.agg #[.string ⟨#[]⟩, .slice none 0 0]) := by kernel_rfl
theorem sz56 : szOf Tryz.prog 56 = some 1 := by kernel_rfl
theorem ag56 : isAggB Tryz.prog 56 = some false := by kernel_rfl
theorem ze56 : zeroOf Tryz.prog 56 = some (.slice none 0 0) := by kernel_rfl
theorem sz57 : szOf Tryz.prog 57 = some 1 := by kernel_rfl
theorem ag57 : isAggB Tryz.prog 57 = some false := by kernel_rfl
theorem ze57 : zeroOf Tryz.prog 57 = some (.slice none 0 0) := by kernel_rfl
theorem sz59 : szOf Tryz.prog 59 = some 2 := by kernel_rfl
theorem ag59 : isAggB Tryz.prog 59 = some true := by kernel_rfl
theorem ze59 : zeroOf Tryz.prog 59 = some (.agg #[.int .i64 (0), .string ⟨#[]⟩]) := by kernel_rfl
theorem sz61 : szOf Tryz.prog 61 = some 5 := by kernel_rfl
theorem ag61 : isAggB Tryz.prog 61 = some true := by kernel_rfl
theorem ze61 : zeroOf Tryz.prog 61 = some (.agg #[.int .i64 (0), .int .i64 (0), .int .i64 (0), .string ⟨#[]⟩, .string ⟨#[]⟩]) := by kernel_rfl
theorem sz62 : szOf Tryz.prog 62 = some 1 := by kernel_rfl
theorem ag62 : isAggB Tryz.prog 62 = some false := by kernel_rfl
theorem ze62 : zeroOf Tryz.prog 62 = some (.slice none 0 0) := by kernel_rfl
theorem sz64 : szOf Tryz.prog 64 = some 16 := by kernel_rfl
theorem ag64 : isAggB Tryz.prog 64 = some true := by kernel_rfl
theorem ze64 : zeroOf Tryz.prog 64 = some (.agg #[.int .i64 (0), .string ⟨#[]⟩, .string ⟨#[]⟩, .int .i64 (0), .int .i64 (0), .string ⟨#[]⟩, .int .i64 (0), .int .i64 (0), .string ⟨#[]⟩, .int .i64 (0), .int .i64 (0), .int .i64 (0), .string ⟨#[]⟩, .string ⟨#[]⟩, .slice none 0 0, .slice none 0 0]) := by kernel_rfl
theorem sz66 : szOf Tryz.prog 66 = some 20 := by kernel_rfl
theorem ag66 : isAggB Tryz.prog 66 = some true := by kernel_rfl
theorem ze66 : zeroOf Tryz.prog 66 = some (.agg #[.string ⟨#[]⟩, .int .i64 (0), .slice none 0 0, .int .i64 (0), .string ⟨#[]⟩, .string ⟨#[]⟩, .int .i64 (0), .int .i64 (0), .string ⟨#[]⟩, .int .i64 (0), .int .i64 (0), .string ⟨#[]⟩, .int .i64 (0), .int .i64 (0), .int .i64 (0), .string ⟨#[]⟩, .string ⟨#[]⟩, .slice none 0 0, .slice none 0 0, .slice none 0 0]) := by kernel_rfl
theorem sz74 : szOf Tryz.prog 74 = some 4 := by kernel_rfl
theorem ag74 : isAggB Tryz.prog 74 = some true := by kernel_rfl
theorem ze74 : zeroOf Tryz.prog 74 = some (.agg #[.int .i64 (0), .string ⟨#[]⟩, .string ⟨#[]⟩, .int .i64 (0)]) := by kernel_rfl
theorem sz75 : szOf Tryz.prog 75 = some 1 := by kernel_rfl
theorem ag75 : isAggB Tryz.prog 75 = some false := by kernel_rfl
theorem ze75 : zeroOf Tryz.prog 75 = some (.slice none 0 0) := by kernel_rfl
theorem sz77 : szOf Tryz.prog 77 = some 1 := by kernel_rfl
theorem ag77 : isAggB Tryz.prog 77 = some true := by kernel_rfl
theorem ze77 : zeroOf Tryz.prog 77 = some (.agg #[.slice none 0 0]) := by kernel_rfl
theorem sz100 : szOf Tryz.prog 100 = some 1 := by kernel_rfl
theorem ag100 : isAggB Tryz.prog 100 = some false := by kernel_rfl
theorem ze100 : zeroOf Tryz.prog 100 = some (.nilFunc) := by kernel_rfl
theorem sz102 : szOf Tryz.prog 102 = some 1 := by kernel_rfl
theorem ag102 : isAggB Tryz.prog 102 = some false := by kernel_rfl
theorem ze102 : zeroOf Tryz.prog 102 = some (.pointer none) := by kernel_rfl
theorem sz103 : szOf Tryz.prog 103 = some 1 := by kernel_rfl
theorem ag103 : isAggB Tryz.prog 103 = some false := by kernel_rfl
theorem ze103 : zeroOf Tryz.prog 103 = some (.map none) := by kernel_rfl
theorem sz105 : szOf Tryz.prog 105 = some 2 := by kernel_rfl
theorem ag105 : isAggB Tryz.prog 105 = some true := by kernel_rfl
theorem ze105 : zeroOf Tryz.prog 105 = some (.agg #[.slice none 0 0, .map none]) := by kernel_rfl
theorem sz108 : szOf Tryz.prog 108 = some 1 := by kernel_rfl
theorem ag108 : isAggB Tryz.prog 108 = some false := by kernel_rfl
theorem ze108 : zeroOf Tryz.prog 108 = some (.nilFunc) := by kernel_rfl
theorem sz110 : szOf Tryz.prog 110 = some 1 := by kernel_rfl
theorem ag110 : isAggB Tryz.prog 110 = some false := by kernel_rfl
theorem ze110 : zeroOf Tryz.prog 110 = some (.slice none 0 0) := by kernel_rfl
theorem sz111 : szOf Tryz.prog 111 = some 1 := by kernel_rfl
theorem ag111 : isAggB Tryz.prog 111 = some false := by kernel_rfl
theorem ze111 : zeroOf Tryz.prog 111 = some (.nilFunc) := by kernel_rfl
theorem sz144 : szOf Tryz.prog 144 = some 1 := by kernel_rfl
theorem ag144 : isAggB Tryz.prog 144 = some false := by kernel_rfl
theorem ze144 : zeroOf Tryz.prog 144 = some (.nilFunc) := by kernel_rfl
theorem sz147 : szOf Tryz.prog 147 = some 1 := by kernel_rfl
theorem ag147 : isAggB Tryz.prog 147 = some false := by kernel_rfl
theorem ze147 : zeroOf Tryz.prog 147 = some (.nilFunc) := by kernel_rfl
theorem sz157 : szOf Tryz.prog 157 = some 1 := by kernel_rfl
theorem ag157 : isAggB Tryz.prog 157 = some false := by kernel_rfl
theorem ze157 : zeroOf Tryz.prog 157 = some (.nilFunc) := by kernel_rfl
theorem sz182 : szOf Tryz.prog 182 = some 1 := by kernel_rfl
theorem ag182 : isAggB Tryz.prog 182 = some false := by kernel_rfl
theorem ze182 : zeroOf Tryz.prog 182 = some (.nilFunc) := by kernel_rfl
theorem sz225 : szOf Tryz.prog 225 = some 1 := by kernel_rfl
theorem ag225 : isAggB Tryz.prog 225 = some false := by kernel_rfl
theorem ze225 : zeroOf Tryz.prog 225 = some (.map none) := by kernel_rfl

/-! All that is known of types. -/
section
variable {P : Program} {base : Orc} {walk : Nat → Bool} (E : Alike P Tryz.prog base walk)
include E
theorem U3 : P.underlying 3 = some (.int .i64) := (E.ut 3).trans Tryz.underlying3
theorem S3 : szOf P 3 = some 1 := (E.sz 3).trans sz3
theorem A3 : isAggB P 3 = some false := (E.ag 3).trans ag3
theorem Z3 : zeroOf P 3 = some (.int .i64 (0)) := (E.ze 3).trans ze3
theorem U4 : P.underlying 4 = some .bool := (E.ut 4).trans Tryz.underlying4
theorem S4 : szOf P 4 = some 1 := (E.sz 4).trans sz4
theorem A4 : isAggB P 4 = some false := (E.ag 4).trans ag4
theorem Z4 : zeroOf P 4 = some (.bool false) := (E.ze 4).trans ze4
theorem U5 : P.underlying 5 = some (.int .u8) := (E.ut 5).trans Tryz.underlying5
theorem S5 : szOf P 5 = some 1 := (E.sz 5).trans sz5
theorem A5 : isAggB P 5 = some false := (E.ag 5).trans ag5
theorem Z5 : zeroOf P 5 = some (.int .u8 (0)) := (E.ze 5).trans ze5
theorem U9 : P.underlying 9 = some .string := (E.ut 9).trans Tryz.underlying9
theorem S9 : szOf P 9 = some 1 := (E.sz 9).trans sz9
theorem A9 : isAggB P 9 = some false := (E.ag 9).trans ag9
theorem Z9 : zeroOf P 9 = some (.string ⟨#[]⟩) := (E.ze 9).trans ze9
theorem U24 : P.underlying 24 = some (.slice 33) := (E.ut 24).trans Tryz.underlying24
theorem S24 : szOf P 24 = some 1 := (E.sz 24).trans sz24
theorem A24 : isAggB P 24 = some false := (E.ag 24).trans ag24
theorem Z24 : zeroOf P 24 = some (.slice none 0 0) := (E.ze 24).trans ze24
theorem U28 : P.underlying 28 = some (.struct #[{ name := "Kind", type := 3, offset := 0, embedded := false, tag := "", pkgPath := "", byteOffset := 0 }, { name := "Text", type := 9, offset := 1, embedded := false, tag := "", pkgPath := "", byteOffset := 8 }]) := (E.ut 28).trans Tryz.underlying28
theorem S28 : szOf P 28 = some 2 := (E.sz 28).trans sz28
theorem A28 : isAggB P 28 = some true := (E.ag 28).trans ag28
theorem Z28 : zeroOf P 28 = some (.agg #[.int .i64 (0), .string ⟨#[]⟩]) := (E.ze 28).trans ze28
theorem U29 : P.underlying 29 = some (.slice 53) := (E.ut 29).trans Tryz.underlying29
theorem S29 : szOf P 29 = some 1 := (E.sz 29).trans sz29
theorem A29 : isAggB P 29 = some false := (E.ag 29).trans ag29
theorem Z29 : zeroOf P 29 = some (.slice none 0 0) := (E.ze 29).trans ze29
theorem U30 : P.underlying 30 = some (.slice 24) := (E.ut 30).trans Tryz.underlying30
theorem S30 : szOf P 30 = some 1 := (E.sz 30).trans sz30
theorem A30 : isAggB P 30 = some false := (E.ag 30).trans ag30
theorem Z30 : zeroOf P 30 = some (.slice none 0 0) := (E.ze 30).trans ze30
theorem U31 : P.underlying 31 = some (.pointer 66) := (E.ut 31).trans Tryz.underlying31
theorem S31 : szOf P 31 = some 1 := (E.sz 31).trans sz31
theorem A31 : isAggB P 31 = some false := (E.ag 31).trans ag31
theorem Z31 : zeroOf P 31 = some (.pointer none) := (E.ze 31).trans ze31
theorem U33 : P.underlying 33 = some (.struct #[{ name := "Kind", type := 3, offset := 0, embedded := false, tag := "", pkgPath := "", byteOffset := 0 }, { name := "Atom", type := 28, offset := 1, embedded := false, tag := "", pkgPath := "", byteOffset := 8 }, { name := "Tree", type := 3, offset := 3, embedded := false, tag := "", pkgPath := "", byteOffset := 32 }, { name := "Node", type := 3, offset := 4, embedded := false, tag := "", pkgPath := "", byteOffset := 40 }, { name := "Pairs", type := 29, offset := 5, embedded := false, tag := "", pkgPath := "", byteOffset := 48 }, { name := "Members", type := 30, offset := 6, embedded := false, tag := "", pkgPath := "", byteOffset := 72 }, { name := "Fn", type := 31, offset := 7, embedded := false, tag := "", pkgPath := "", byteOffset := 96 }]) := (E.ut 33).trans Tryz.underlying33
theorem S33 : szOf P 33 = some 8 := (E.sz 33).trans sz33
theorem A33 : isAggB P 33 = some true := (E.ag 33).trans ag33
theorem Z33 : zeroOf P 33 = some (.agg #[.int .i64 (0), .int .i64 (0), .string ⟨#[]⟩, .int .i64 (0), .int .i64 (0), .slice none 0 0, .slice none 0 0, .pointer none]) := (E.ze 33).trans ze33
theorem U35 : P.underlying 35 = some (.int .i64) := (E.ut 35).trans Tryz.underlying35
theorem S35 : szOf P 35 = some 1 := (E.sz 35).trans sz35
theorem A35 : isAggB P 35 = some false := (E.ag 35).trans ag35
theorem Z35 : zeroOf P 35 = some (.int .i64 (0)) := (E.ze 35).trans ze35
theorem U39 : P.underlying 39 = some (.slice 77) := (E.ut 39).trans Tryz.underlying39
theorem S39 : szOf P 39 = some 1 := (E.sz 39).trans sz39
theorem A39 : isAggB P 39 = some false := (E.ag 39).trans ag39
theorem Z39 : zeroOf P 39 = some (.slice none 0 0) := (E.ze 39).trans ze39
theorem U48 : P.underlying 48 = some (.slice 28) := (E.ut 48).trans Tryz.underlying48
theorem S48 : szOf P 48 = some 1 := (E.sz 48).trans sz48
theorem A48 : isAggB P 48 = some false := (E.ag 48).trans ag48
theorem Z48 : zeroOf P 48 = some (.slice none 0 0) := (E.ze 48).trans ze48
theorem U53 : P.underlying 53 = some (.struct #[{ name := "Key", type := 28, offset := 0, embedded := false, tag := "", pkgPath := "", byteOffset := 0 }, { name := "Value", type := 24, offset := 2, embedded := false, tag := "", pkgPath := "", byteOffset := 24 }]) := (E.ut 53).trans Tryz.underlying53
theorem S53 : szOf P 53 = some 3 := (E.sz 53).trans sz53
theorem A53 : isAggB P 53 = some true := (E.ag 53).trans ag53
theorem Z53 : zeroOf P 53 = some (.agg #[.int .i64 (0), .string ⟨#[]⟩, .slice none 0 0]) := (E.ze 53).trans ze53
theorem U55 : P.underlying 55 = some (.struct #[{ name := "Name", type := 9, offset := 0, embedded := false, tag := "", pkgPath := "", byteOffset := 0 }, { name := "Value", type := 24, offset := 1, embedded := false, tag := "", pkgPath := "", byteOffset := 16 }]) := (E.ut 55).trans Tryz.underlying55
theorem S55 : szOf P 55 = some 2 := (E.sz 55).trans sz55
theorem A55 : isAggB P 55 = some true := (E.ag 55).trans ag55
theorem Z55 : zeroOf P 55 = some (.agg #[.string ⟨#[]⟩, .slice none 0 0]) := (E.ze 55).trans ze55
theorem U56 : P.underlying 56 = some (.slice 55) := (E.ut 56).trans Tryz.underlying56
theorem S56 : szOf P 56 = some 1 := (E.sz 56).trans sz56
theorem A56 : isAggB P 56 = some false := (E.ag 56).trans ag56
theorem Z56 : zeroOf P 56 = some (.slice none 0 0) := (E.ze 56).trans ze56
theorem U57 : P.underlying 57 = some (.slice 9) := (E.ut 57).trans Tryz.underlying57
theorem S57 : szOf P 57 = some 1 := (E.sz 57).trans sz57
theorem A57 : isAggB P 57 = some false := (E.ag 57).trans ag57
theorem Z57 : zeroOf P 57 = some (.slice none 0 0) := (E.ze 57).trans ze57
theorem U59 : P.underlying 59 = some (.struct #[{ name := "Kind", type := 3, offset := 0, embedded := false, tag := "", pkgPath := "", byteOffset := 0 }, { name := "Name", type := 9, offset := 1, embedded := false, tag := "", pkgPath := "", byteOffset := 8 }]) := (E.ut 59).trans Tryz.underlying59
theorem S59 : szOf P 59 = some 2 := (E.sz 59).trans sz59
theorem A59 : isAggB P 59 = some true := (E.ag 59).trans ag59
theorem Z59 : zeroOf P 59 = some (.agg #[.int .i64 (0), .string ⟨#[]⟩]) := (E.ze 59).trans ze59
theorem U61 : P.underlying 61 = some (.struct #[{ name := "Kind", type := 3, offset := 0, embedded := false, tag := "", pkgPath := "", byteOffset := 0 }, { name := "Atom", type := 3, offset := 1, embedded := false, tag := "", pkgPath := "", byteOffset := 8 }, { name := "Test", type := 59, offset := 2, embedded := false, tag := "", pkgPath := "", byteOffset := 16 }, { name := "Occur", type := 9, offset := 4, embedded := false, tag := "", pkgPath := "", byteOffset := 40 }]) := (E.ut 61).trans Tryz.underlying61
theorem S61 : szOf P 61 = some 5 := (E.sz 61).trans sz61
theorem A61 : isAggB P 61 = some true := (E.ag 61).trans ag61
theorem Z61 : zeroOf P 61 = some (.agg #[.int .i64 (0), .int .i64 (0), .int .i64 (0), .string ⟨#[]⟩, .string ⟨#[]⟩]) := (E.ze 61).trans ze61
theorem U62 : P.underlying 62 = some (.slice 64) := (E.ut 62).trans Tryz.underlying62
theorem S62 : szOf P 62 = some 1 := (E.sz 62).trans sz62
theorem A62 : isAggB P 62 = some false := (E.ag 62).trans ag62
theorem Z62 : zeroOf P 62 = some (.slice none 0 0) := (E.ze 62).trans ze62
theorem U64 : P.underlying 64 = some (.struct #[{ name := "Kind", type := 3, offset := 0, embedded := false, tag := "", pkgPath := "", byteOffset := 0 }, { name := "Op", type := 9, offset := 1, embedded := false, tag := "", pkgPath := "", byteOffset := 8 }, { name := "Name", type := 9, offset := 2, embedded := false, tag := "", pkgPath := "", byteOffset := 24 }, { name := "N", type := 3, offset := 3, embedded := false, tag := "", pkgPath := "", byteOffset := 40 }, { name := "Atom", type := 28, offset := 4, embedded := false, tag := "", pkgPath := "", byteOffset := 48 }, { name := "Axis", type := 3, offset := 6, embedded := false, tag := "", pkgPath := "", byteOffset := 72 }, { name := "Test", type := 59, offset := 7, embedded := false, tag := "", pkgPath := "", byteOffset := 80 }, { name := "Type", type := 61, offset := 9, embedded := false, tag := "", pkgPath := "", byteOffset := 104 }, { name := "Names", type := 57, offset := 14, embedded := false, tag := "", pkgPath := "", byteOffset := 160 }, { name := "L", type := 62, offset := 15, embedded := false, tag := "", pkgPath := "", byteOffset := 184 }]) := (E.ut 64).trans Tryz.underlying64
theorem S64 : szOf P 64 = some 16 := (E.sz 64).trans sz64
theorem A64 : isAggB P 64 = some true := (E.ag 64).trans ag64
theorem Z64 : zeroOf P 64 = some (.agg #[.int .i64 (0), .string ⟨#[]⟩, .string ⟨#[]⟩, .int .i64 (0), .int .i64 (0), .string ⟨#[]⟩, .int .i64 (0), .int .i64 (0), .string ⟨#[]⟩, .int .i64 (0), .int .i64 (0), .int .i64 (0), .string ⟨#[]⟩, .string ⟨#[]⟩, .slice none 0 0, .slice none 0 0]) := (E.ze 64).trans ze64
theorem U66 : P.underlying 66 = some (.struct #[{ name := "Name", type := 9, offset := 0, embedded := false, tag := "", pkgPath := "", byteOffset := 0 }, { name := "Arity", type := 3, offset := 1, embedded := false, tag := "", pkgPath := "", byteOffset := 16 }, { name := "Params", type := 57, offset := 2, embedded := false, tag := "", pkgPath := "", byteOffset := 24 }, { name := "Body", type := 64, offset := 3, embedded := false, tag := "", pkgPath := "", byteOffset := 48 }, { name := "Vars", type := 56, offset := 19, embedded := false, tag := "", pkgPath := "", byteOffset := 256 }]) := (E.ut 66).trans Tryz.underlying66
theorem S66 : szOf P 66 = some 20 := (E.sz 66).trans sz66
theorem A66 : isAggB P 66 = some true := (E.ag 66).trans ag66
theorem Z66 : zeroOf P 66 = some (.agg #[.string ⟨#[]⟩, .int .i64 (0), .slice none 0 0, .int .i64 (0), .string ⟨#[]⟩, .string ⟨#[]⟩, .int .i64 (0), .int .i64 (0), .string ⟨#[]⟩, .int .i64 (0), .int .i64 (0), .string ⟨#[]⟩, .int .i64 (0), .int .i64 (0), .int .i64 (0), .string ⟨#[]⟩, .string ⟨#[]⟩, .slice none 0 0, .slice none 0 0, .slice none 0 0]) := (E.ze 66).trans ze66
theorem U74 : P.underlying 74 = some (.struct #[{ name := "Kind", type := 3, offset := 0, embedded := false, tag := "", pkgPath := "", byteOffset := 0 }, { name := "Name", type := 9, offset := 1, embedded := false, tag := "", pkgPath := "", byteOffset := 8 }, { name := "Text", type := 9, offset := 2, embedded := false, tag := "", pkgPath := "", byteOffset := 24 }, { name := "Up", type := 3, offset := 3, embedded := false, tag := "", pkgPath := "", byteOffset := 40 }]) := (E.ut 74).trans Tryz.underlying74
theorem S74 : szOf P 74 = some 4 := (E.sz 74).trans sz74
theorem A74 : isAggB P 74 = some true := (E.ag 74).trans ag74
theorem Z74 : zeroOf P 74 = some (.agg #[.int .i64 (0), .string ⟨#[]⟩, .string ⟨#[]⟩, .int .i64 (0)]) := (E.ze 74).trans ze74
theorem U75 : P.underlying 75 = some (.slice 74) := (E.ut 75).trans Tryz.underlying75
theorem S75 : szOf P 75 = some 1 := (E.sz 75).trans sz75
theorem A75 : isAggB P 75 = some false := (E.ag 75).trans ag75
theorem Z75 : zeroOf P 75 = some (.slice none 0 0) := (E.ze 75).trans ze75
theorem U77 : P.underlying 77 = some (.struct #[{ name := "L", type := 75, offset := 0, embedded := false, tag := "", pkgPath := "", byteOffset := 0 }]) := (E.ut 77).trans Tryz.underlying77
theorem S77 : szOf P 77 = some 1 := (E.sz 77).trans sz77
theorem A77 : isAggB P 77 = some true := (E.ag 77).trans ag77
theorem Z77 : zeroOf P 77 = some (.agg #[.slice none 0 0]) := (E.ze 77).trans ze77
theorem U100 : P.underlying 100 = some (.func #[24] #[4] false) := (E.ut 100).trans Tryz.underlying100
theorem S100 : szOf P 100 = some 1 := (E.sz 100).trans sz100
theorem A100 : isAggB P 100 = some false := (E.ag 100).trans ag100
theorem Z100 : zeroOf P 100 = some (.nilFunc) := (E.ze 100).trans ze100
theorem U102 : P.underlying 102 = some (.pointer 105) := (E.ut 102).trans Tryz.underlying102
theorem S102 : szOf P 102 = some 1 := (E.sz 102).trans sz102
theorem A102 : isAggB P 102 = some false := (E.ag 102).trans ag102
theorem Z102 : zeroOf P 102 = some (.pointer none) := (E.ze 102).trans ze102
theorem U103 : P.underlying 103 = some (.map 3 35) := (E.ut 103).trans Tryz.underlying103
theorem S103 : szOf P 103 = some 1 := (E.sz 103).trans sz103
theorem A103 : isAggB P 103 = some false := (E.ag 103).trans ag103
theorem Z103 : zeroOf P 103 = some (.map none) := (E.ze 103).trans ze103
theorem U105 : P.underlying 105 = some (.struct #[{ name := "trees", type := 39, offset := 0, embedded := false, tag := "", pkgPath := "chisel/item", byteOffset := 0 }, { name := "found", type := 103, offset := 1, embedded := false, tag := "", pkgPath := "chisel/item", byteOffset := 24 }]) := (E.ut 105).trans Tryz.underlying105
theorem S105 : szOf P 105 = some 2 := (E.sz 105).trans sz105
theorem A105 : isAggB P 105 = some true := (E.ag 105).trans ag105
theorem Z105 : zeroOf P 105 = some (.agg #[.slice none 0 0, .map none]) := (E.ze 105).trans ze105
theorem U108 : P.underlying 108 = some (.func #[33] #[4] false) := (E.ut 108).trans Tryz.underlying108
theorem S108 : szOf P 108 = some 1 := (E.sz 108).trans sz108
theorem A108 : isAggB P 108 = some false := (E.ag 108).trans ag108
theorem Z108 : zeroOf P 108 = some (.nilFunc) := (E.ze 108).trans ze108
theorem U110 : P.underlying 110 = some (.slice 5) := (E.ut 110).trans Tryz.underlying110
theorem S110 : szOf P 110 = some 1 := (E.sz 110).trans sz110
theorem A110 : isAggB P 110 = some false := (E.ag 110).trans ag110
theorem Z110 : zeroOf P 110 = some (.slice none 0 0) := (E.ze 110).trans ze110
theorem U111 : P.underlying 111 = some (.func #[9, 24] #[4] false) := (E.ut 111).trans Tryz.underlying111
theorem S111 : szOf P 111 = some 1 := (E.sz 111).trans sz111
theorem A111 : isAggB P 111 = some false := (E.ag 111).trans ag111
theorem Z111 : zeroOf P 111 = some (.nilFunc) := (E.ze 111).trans ze111
theorem U144 : P.underlying 144 = some (.func #[53] #[4] false) := (E.ut 144).trans Tryz.underlying144
theorem S144 : szOf P 144 = some 1 := (E.sz 144).trans sz144
theorem A144 : isAggB P 144 = some false := (E.ag 144).trans ag144
theorem Z144 : zeroOf P 144 = some (.nilFunc) := (E.ze 144).trans ze144
theorem U147 : P.underlying 147 = some (.func #[33, 33] #[4] false) := (E.ut 147).trans Tryz.underlying147
theorem S147 : szOf P 147 = some 1 := (E.sz 147).trans sz147
theorem A147 : isAggB P 147 = some false := (E.ag 147).trans ag147
theorem Z147 : zeroOf P 147 = some (.nilFunc) := (E.ze 147).trans ze147
theorem U157 : P.underlying 157 = some (.func #[9] #[4] false) := (E.ut 157).trans Tryz.underlying157
theorem S157 : szOf P 157 = some 1 := (E.sz 157).trans sz157
theorem A157 : isAggB P 157 = some false := (E.ag 157).trans ag157
theorem Z157 : zeroOf P 157 = some (.nilFunc) := (E.ze 157).trans ze157
theorem U182 : P.underlying 182 = some (.func #[24, 24] #[4] false) := (E.ut 182).trans Tryz.underlying182
theorem S182 : szOf P 182 = some 1 := (E.sz 182).trans sz182
theorem A182 : isAggB P 182 = some false := (E.ag 182).trans ag182
theorem Z182 : zeroOf P 182 = some (.nilFunc) := (E.ze 182).trans ze182
theorem U225 : P.underlying 225 = some (.map 9 3) := (E.ut 225).trans Tryz.underlying225
theorem S225 : szOf P 225 = some 1 := (E.sz 225).trans sz225
theorem A225 : isAggB P 225 = some false := (E.ag 225).trans ag225
theorem Z225 : zeroOf P 225 = some (.map none) := (E.ze 225).trans ze225
end

end
end Go.Proofs.YtiecjjcemnafaaaGreatDoor.V

namespace Go.Proofs.YtiecjjcemnafaaaGreatDoor.V
set_option linter.all false
open Go
noncomputable section

/-- A row of n at a block's start. -/
abbrev sl (b n : Nat) : Value := .slice (some ⟨b, 0, none⟩) n n
abbrev pt (b : Nat) : Value := .pointer (some ⟨b, 0, none⟩)
/-- Items. -/
abbrev atm (k : Int) (s : ByteArray) : Value := .agg #[.int .i64 k, .string s]
abbrev itA (k : Int) (s : ByteArray) : Array Value := #[.int .i64 0, .int .i64 k, .string s, .int .i64 0, .int .i64 0, .slice none 0 0, .slice none 0 0, .pointer none]
abbrev itP (m n : Nat) : Array Value := #[.int .i64 2, .int .i64 0, .string ⟨#[]⟩, .int .i64 0, .int .i64 0, sl m n, .slice none 0 0, .pointer none]
abbrev itM (m n : Nat) : Array Value := #[.int .i64 3, .int .i64 0, .string ⟨#[]⟩, .int .i64 0, .int .i64 0, .slice none 0 0, sl m n, .pointer none]
abbrev itF (f : Nat) : Array Value := #[.int .i64 4, .int .i64 0, .string ⟨#[]⟩, .int .i64 0, .int .i64 0, .slice none 0 0, .slice none 0 0, pt f]
abbrev fnC (m n : Nat) : Array Value := #[.string ⟨#[]⟩, .int .i64 (0), .slice none 0 0, .int .i64 (0), .string ⟨#[]⟩, .string ⟨#[]⟩, .int .i64 (0), .int .i64 (0), .string ⟨#[]⟩, .int .i64 (0), .int .i64 (0), .string ⟨#[]⟩, .int .i64 (0), .int .i64 (0), .int .i64 (0), .string ⟨#[]⟩, .string ⟨#[]⟩, .slice none 0 0, .slice none 0 0, sl m n]

/-- A chain of so many wraps of a kind (0 array, 1 map, else function) about the integer 7; all below K. -/
def Ch (kd K : Nat) : Nat → AH → Nat → Prop
  | 0, h, b => b < K ∧ h.get b = some (.cells (itA 3 ⟨#[55]⟩) .no)
  | k + 1, h, b => ∃ m x, b < K ∧ m < K ∧ Ch kd K k h x ∧ (match kd with
    | 0 => h.get b = some (.cells (itM m 1) .no) ∧ h.get m = some (.cells #[sl x 1] .no)
    | 1 => h.get b = some (.cells (itP m 1) .no) ∧ h.get m = some (.cells #[.int .i64 1, .string ⟨#[107]⟩, sl x 1] .no)
    | _ => ∃ f gf, f < K ∧ h.get b = some (.cells (itF f) .no) ∧ h.get f = some (.cells (fnC m 1) gf) ∧ h.get m = some (.cells #[.string ⟨#[118]⟩, sl x 1] .no))

theorem Ch.mono {kd K L : Nat} (hKL : K ≤ L) {h h' : AH} (hs : ∀ j, j < K → h'.get j = h.get j) : ∀ {k : Nat} {b : Nat}, Ch kd K k h b → Ch kd L k h' b
  | 0, b, ⟨h2, h3⟩ => ⟨by omega, (hs b h2).trans h3⟩
  | k + 1, b, ⟨m, x, h2, h3, h4, h5⟩ => by
    refine ⟨m, x, by omega, by omega, Ch.mono hKL hs h4, ?_⟩
    match kd, h5 with
    | 0, h5 => exact ⟨(hs b h2).trans h5.1, (hs m h3).trans h5.2⟩
    | 1, h5 => exact ⟨(hs b h2).trans h5.1, (hs m h3).trans h5.2⟩
    | _ + 2, ⟨f, gf, hf, h6, h7, h8⟩ => exact ⟨f, gf, by omega, (hs b h2).trans h6, (hs f hf).trans h7, (hs m h3).trans h8⟩

/-- The functions that are walked. -/
def walkI : Nat → Bool := fun g => match g with
  | 6 | 7 | 8 | 18 | 19 | 20 | 21 | 24 | 39 | 40 | 41 | 42 | 43 | 44 | 46 | 47 | 66 | 67 | 68 | 69 | 70 | 71 | 72 | 73 | 75 | 76 | 77 | 78 | 105 | 106 | 107 | 110 | 111 | 112 | 114 | 115 | 116 | 117 | 160 => true
  | _ => false
/-- Who writes what it did not make: 1; who may, where memory is open: 2. -/
def mtI : FuncId → List Value → Nat := fun g args => match g with
  | 46 | 47 => 1
  | 42 | 77 | 78 | 43 | 44 => 2
  | 66 | 105 => (match args with | [_, .func (.func 67) _ _] => 0 | _ => 2)
  | 68 | 106 => (match args with | [_, .func (.func 39) _ _] => 0 | _ => 2)
  | _ => 0

/-- What is known beforehand of atoms and names. -/
structure Beforehand (base : Orc) : Prop where
  num : ∀ h : AH, h.fl = true → base 22 [.int .i64 7] h = some (.agg (itA 3 ⟨#[55]⟩), none)
  val : ∀ h : AH, h.fl = true → base 55 [atm 3 ⟨#[55]⟩] h = some (.bool true, none)
  key : ∀ h : AH, h.fl = true → base 55 [atm 1 ⟨#[107]⟩] h = some (.bool true, none)
  name : ∀ h : AH, h.fl = true → base 87 [.string ⟨#[118]⟩] h = some (.bool true, none)
  eq : ∀ h : AH, h.fl = true → base 108 [.string ⟨#[101, 113]⟩, atm 3 ⟨#[55]⟩, atm 3 ⟨#[55]⟩] h = some (.tuple #[.bool true, .int .i64 0], none)
  same : ∀ h : AH, h.fl = true → base 113 [atm 1 ⟨#[107]⟩, atm 1 ⟨#[107]⟩] h = some (.bool true, none)
  works : ∀ h : AH, h.fl = true → base 13 [] h = some (.bool true, none)

end
end Go.Proofs.YtiecjjcemnafaaaGreatDoor.V
