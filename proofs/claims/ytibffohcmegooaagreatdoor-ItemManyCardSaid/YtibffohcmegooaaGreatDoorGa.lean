/- What the types of the functions that are walked come to. Conditions: none. -/
import Derived.Test.YtibffohcmegooaaGreatDoorWf
import Derived.Test.YtibffohcmegooaaGreatDoorProg
import Derived.KernelRfl
namespace Go.Proofs.YtibffohcmegooaaGreatDoor.V
set_option linter.all false
open Go
noncomputable section
theorem sz3 : szOf Tryz.prog 3 = some 1 := by kernel_rfl
theorem ag3 : isAggB Tryz.prog 3 = some false := by kernel_rfl
theorem ze3 : zeroOf Tryz.prog 3 = some (.int .i64 (0)) := by kernel_rfl
theorem sz4 : szOf Tryz.prog 4 = some 1 := by kernel_rfl
theorem ag4 : isAggB Tryz.prog 4 = some false := by kernel_rfl
theorem ze4 : zeroOf Tryz.prog 4 = some (.bool false) := by kernel_rfl
theorem sz5 : szOf Tryz.prog 5 = some 1 := by kernel_rfl
theorem ag5 : isAggB Tryz.prog 5 = some false := by kernel_rfl
theorem ze5 : zeroOf Tryz.prog 5 = some (.int .u8 (0)) := by kernel_rfl
theorem sz9 : szOf Tryz.prog 9 = some 1 := by kernel_rfl
theorem ag9 : isAggB Tryz.prog 9 = some false := by kernel_rfl
theorem ze9 : zeroOf Tryz.prog 9 = some (.string ⟨#[]⟩) := by kernel_rfl
theorem sz22 : szOf Tryz.prog 22 = some 1 := by kernel_rfl
theorem ag22 : isAggB Tryz.prog 22 = some false := by kernel_rfl
theorem ze22 : zeroOf Tryz.prog 22 = some (.slice none 0 0) := by kernel_rfl
theorem sz24 : szOf Tryz.prog 24 = some 2 := by kernel_rfl
theorem ag24 : isAggB Tryz.prog 24 = some true := by kernel_rfl
theorem ze24 : zeroOf Tryz.prog 24 = some (.agg #[.int .i64 (0), .string ⟨#[]⟩]) := by kernel_rfl
theorem sz25 : szOf Tryz.prog 25 = some 1 := by kernel_rfl
theorem ag25 : isAggB Tryz.prog 25 = some false := by kernel_rfl
theorem ze25 : zeroOf Tryz.prog 25 = some (.slice none 0 0) := by kernel_rfl
theorem sz26 : szOf Tryz.prog 26 = some 1 := by kernel_rfl
theorem ag26 : isAggB Tryz.prog 26 = some false := by kernel_rfl
theorem ze26 : zeroOf Tryz.prog 26 = some (.slice none 0 0) := by kernel_rfl
theorem sz27 : szOf Tryz.prog 27 = some 1 := by kernel_rfl
theorem ag27 : isAggB Tryz.prog 27 = some false := by kernel_rfl
theorem ze27 : zeroOf Tryz.prog 27 = some (.pointer none) := by kernel_rfl
theorem sz29 : szOf Tryz.prog 29 = some 8 := by kernel_rfl
theorem ag29 : isAggB Tryz.prog 29 = some true := by kernel_rfl
theorem ze29 : zeroOf Tryz.prog 29 = some (.agg #[.int .i64 (0), .int .i64 (0), .string ⟨#[]⟩, .int .i64 (0), .int .i64 (0), .slice none 0 0, .slice none 0 0, .pointer none]) := by kernel_rfl
theorem sz32 : szOf Tryz.prog 32 = some 1 := by kernel_rfl
theorem ag32 : isAggB Tryz.prog 32 = some false := by kernel_rfl
theorem ze32 : zeroOf Tryz.prog 32 = some (.slice none 0 0) := by kernel_rfl
theorem sz33 : szOf Tryz.prog 33 = some 1 := by kernel_rfl
theorem ag33 : isAggB Tryz.prog 33 = some false := by kernel_rfl
theorem ze33 : zeroOf Tryz.prog 33 = some (.int .i64 (0)) := by kernel_rfl
theorem sz41 : szOf Tryz.prog 41 = some 3 := by kernel_rfl
theorem ag41 : isAggB Tryz.prog 41 = some true := by kernel_rfl
theorem ze41 : zeroOf Tryz.prog 41 = some (.agg #[.int .i64 (0), .string ⟨#[]⟩, .slice none 0 0]) := by kernel_rfl
theorem sz43 : szOf Tryz.prog 43 = some 2 := by kernel_rfl
theorem ag43 : isAggB Tryz.prog 43 = some true := by kernel_rfl
theorem ze43 : zeroOf Tryz.prog 43 = some (.agg #[.string ⟨#[]⟩, .slice none 0 0]) := by kernel_rfl
theorem sz44 : szOf Tryz.prog 44 = some 1 := by kernel_rfl
theorem ag44 : isAggB Tryz.prog 44 = some false := by kernel_rfl
theorem ze44 : zeroOf Tryz.prog 44 = some (.slice none 0 0) := by kernel_rfl
theorem sz45 : szOf Tryz.prog 45 = some 1 := by kernel_rfl
theorem ag45 : isAggB Tryz.prog 45 = some false := by kernel_rfl
theorem ze45 : zeroOf Tryz.prog 45 = some (.slice none 0 0) := by kernel_rfl
theorem sz47 : szOf Tryz.prog 47 = some 2 := by kernel_rfl
theorem ag47 : isAggB Tryz.prog 47 = some true := by kernel_rfl
theorem ze47 : zeroOf Tryz.prog 47 = some (.agg #[.int .i64 (0), .string ⟨#[]⟩]) := by kernel_rfl
theorem sz49 : szOf Tryz.prog 49 = some 5 := by kernel_rfl
theorem ag49 : isAggB Tryz.prog 49 = some true := by kernel_rfl
theorem ze49 : zeroOf Tryz.prog 49 = some (.agg #[.int .i64 (0), .int .i64 (0), .int .i64 (0), .string ⟨#[]⟩, .string ⟨#[]⟩]) := by kernel_rfl
theorem sz50 : szOf Tryz.prog 50 = some 1 := by kernel_rfl
theorem ag50 : isAggB Tryz.prog 50 = some false := by kernel_rfl
theorem ze50 : zeroOf Tryz.prog 50 = some (.slice none 0 0) := by kernel_rfl
theorem sz52 : szOf Tryz.prog 52 = some 16 := by kernel_rfl
theorem ag52 : isAggB Tryz.prog 52 = some true := by kernel_rfl
theorem ze52 : zeroOf Tryz.prog 52 = some (.agg #[.int .i64 (0), .string ⟨#[]⟩, .string ⟨#[]⟩, .int .i64 (0), .int .i64 (0), .string ⟨#[]⟩, .int .i64 (0), .int .i64 (0), .string ⟨#[]⟩, .int .i64 (0), .int .i64 (0), .int .i64 (0), .string ⟨#[]⟩, .string ⟨#[]⟩, .slice none 0 0, .slice none 0 0]) := by kernel_rfl
theorem sz54 : szOf Tryz.prog 54 = some 20 := by kernel_rfl
theorem ag54 : isAggB Tryz.prog 54 = some true := by kernel_rfl
theorem ze54 : zeroOf Tryz.prog 54 = some (.agg #[.string ⟨#[]⟩, .int .i64 (0), .slice none 0 0, .int .i64 (0), .string ⟨#[]⟩, .string ⟨#[]⟩, .int .i64 (0), .int .i64 (0), .string ⟨#[]⟩, .int .i64 (0), .int .i64 (0), .string ⟨#[]⟩, .int .i64 (0), .int .i64 (0), .int .i64 (0), .string ⟨#[]⟩, .string ⟨#[]⟩, .slice none 0 0, .slice none 0 0, .slice none 0 0]) := by kernel_rfl
theorem sz60 : szOf Tryz.prog 60 = some 1 := by kernel_rfl
theorem ag60 : isAggB Tryz.prog 60 = some false := by kernel_rfl
theorem ze60 : zeroOf Tryz.prog 60 = some (.slice none 0 0) := by kernel_rfl
theorem sz61 : szOf Tryz.prog 61 = some 1 := by kernel_rfl
theorem ag61 : isAggB Tryz.prog 61 = some false := by kernel_rfl
theorem ze61 : zeroOf Tryz.prog 61 = some (.slice none 0 0) := by kernel_rfl
theorem sz63 : szOf Tryz.prog 63 = some 1 := by kernel_rfl
theorem ag63 : isAggB Tryz.prog 63 = some false := by kernel_rfl
theorem ze63 : zeroOf Tryz.prog 63 = some (.nilFunc) := by kernel_rfl
theorem sz65 : szOf Tryz.prog 65 = some 1 := by kernel_rfl
theorem ag65 : isAggB Tryz.prog 65 = some false := by kernel_rfl
theorem ze65 : zeroOf Tryz.prog 65 = some (.slice none 0 0) := by kernel_rfl
theorem sz67 : szOf Tryz.prog 67 = some 1 := by kernel_rfl
theorem ag67 : isAggB Tryz.prog 67 = some true := by kernel_rfl
theorem ze67 : zeroOf Tryz.prog 67 = some (.agg #[.slice none 0 0]) := by kernel_rfl
theorem sz68 : szOf Tryz.prog 68 = some 1 := by kernel_rfl
theorem ag68 : isAggB Tryz.prog 68 = some false := by kernel_rfl
theorem ze68 : zeroOf Tryz.prog 68 = some (.pointer none) := by kernel_rfl
theorem sz69 : szOf Tryz.prog 69 = some 1 := by kernel_rfl
theorem ag69 : isAggB Tryz.prog 69 = some false := by kernel_rfl
theorem ze69 : zeroOf Tryz.prog 69 = some (.map none) := by kernel_rfl
theorem sz71 : szOf Tryz.prog 71 = some 2 := by kernel_rfl
theorem ag71 : isAggB Tryz.prog 71 = some true := by kernel_rfl
theorem ze71 : zeroOf Tryz.prog 71 = some (.agg #[.slice none 0 0, .map none]) := by kernel_rfl
theorem sz78 : szOf Tryz.prog 78 = some 1 := by kernel_rfl
theorem ag78 : isAggB Tryz.prog 78 = some false := by kernel_rfl
theorem ze78 : zeroOf Tryz.prog 78 = some (.nilFunc) := by kernel_rfl
theorem sz79 : szOf Tryz.prog 79 = some 1 := by kernel_rfl
theorem ag79 : isAggB Tryz.prog 79 = some false := by kernel_rfl
theorem ze79 : zeroOf Tryz.prog 79 = some (.nilFunc) := by kernel_rfl
theorem sz84 : szOf Tryz.prog 84 = some 4 := by kernel_rfl
theorem ag84 : isAggB Tryz.prog 84 = some true := by kernel_rfl
theorem ze84 : zeroOf Tryz.prog 84 = some (.agg #[.int .i64 (0), .string ⟨#[]⟩, .string ⟨#[]⟩, .int .i64 (0)]) := by kernel_rfl
theorem sz96 : szOf Tryz.prog 96 = some 1 := by kernel_rfl
theorem ag96 : isAggB Tryz.prog 96 = some false := by kernel_rfl
theorem ze96 : zeroOf Tryz.prog 96 = some (.nilFunc) := by kernel_rfl
theorem sz99 : szOf Tryz.prog 99 = some 1 := by kernel_rfl
theorem ag99 : isAggB Tryz.prog 99 = some false := by kernel_rfl
theorem ze99 : zeroOf Tryz.prog 99 = some (.nilFunc) := by kernel_rfl
theorem sz115 : szOf Tryz.prog 115 = some 1 := by kernel_rfl
theorem ag115 : isAggB Tryz.prog 115 = some false := by kernel_rfl
theorem ze115 : zeroOf Tryz.prog 115 = some (.nilFunc) := by kernel_rfl
theorem sz133 : szOf Tryz.prog 133 = some 1 := by kernel_rfl
theorem ag133 : isAggB Tryz.prog 133 = some false := by kernel_rfl
theorem ze133 : zeroOf Tryz.prog 133 = some (.nilFunc) := by kernel_rfl
theorem sz156 : szOf Tryz.prog 156 = some 1 := by kernel_rfl
theorem ag156 : isAggB Tryz.prog 156 = some false := by kernel_rfl
theorem ze156 : zeroOf Tryz.prog 156 = some (.map none) := by kernel_rfl

section
variable {P : Program} {base : Orc} {walk : Nat → Bool} (E : Alike P Tryz.prog base walk)
include E
theorem U3 : P.underlying 3 = some (.int (.i64)) := (E.ut 3).trans Tryz.underlying3
theorem S3 : szOf P 3 = some 1 := (E.sz 3).trans sz3
theorem A3 : isAggB P 3 = some false := (E.ag 3).trans ag3
theorem Z3 : zeroOf P 3 = some (.int .i64 (0)) := (E.ze 3).trans ze3
theorem U4 : P.underlying 4 = some (.bool) := (E.ut 4).trans Tryz.underlying4
theorem S4 : szOf P 4 = some 1 := (E.sz 4).trans sz4
theorem A4 : isAggB P 4 = some false := (E.ag 4).trans ag4
theorem Z4 : zeroOf P 4 = some (.bool false) := (E.ze 4).trans ze4
theorem U5 : P.underlying 5 = some (.int (.u8)) := (E.ut 5).trans Tryz.underlying5
theorem S5 : szOf P 5 = some 1 := (E.sz 5).trans sz5
theorem A5 : isAggB P 5 = some false := (E.ag 5).trans ag5
theorem Z5 : zeroOf P 5 = some (.int .u8 (0)) := (E.ze 5).trans ze5
theorem U9 : P.underlying 9 = some (.string) := (E.ut 9).trans Tryz.underlying9
theorem S9 : szOf P 9 = some 1 := (E.sz 9).trans sz9
theorem A9 : isAggB P 9 = some false := (E.ag 9).trans ag9
theorem Z9 : zeroOf P 9 = some (.string ⟨#[]⟩) := (E.ze 9).trans ze9
theorem U22 : P.underlying 22 = some (.slice 29) := (E.ut 22).trans Tryz.underlying22
theorem S22 : szOf P 22 = some 1 := (E.sz 22).trans sz22
theorem A22 : isAggB P 22 = some false := (E.ag 22).trans ag22
theorem Z22 : zeroOf P 22 = some (.slice none 0 0) := (E.ze 22).trans ze22
theorem U24 : P.underlying 24 = some (.struct #[{ name := "Kind", type := 3, offset := 0, embedded := false, tag := "", pkgPath := "", byteOffset := 0 }, { name := "Text", type := 9, offset := 1, embedded := false, tag := "", pkgPath := "", byteOffset := 8 }]) := (E.ut 24).trans Tryz.underlying24
theorem S24 : szOf P 24 = some 2 := (E.sz 24).trans sz24
theorem A24 : isAggB P 24 = some true := (E.ag 24).trans ag24
theorem Z24 : zeroOf P 24 = some (.agg #[.int .i64 (0), .string ⟨#[]⟩]) := (E.ze 24).trans ze24
theorem U25 : P.underlying 25 = some (.slice 41) := (E.ut 25).trans Tryz.underlying25
theorem S25 : szOf P 25 = some 1 := (E.sz 25).trans sz25
theorem A25 : isAggB P 25 = some false := (E.ag 25).trans ag25
theorem Z25 : zeroOf P 25 = some (.slice none 0 0) := (E.ze 25).trans ze25
theorem U26 : P.underlying 26 = some (.slice 22) := (E.ut 26).trans Tryz.underlying26
theorem S26 : szOf P 26 = some 1 := (E.sz 26).trans sz26
theorem A26 : isAggB P 26 = some false := (E.ag 26).trans ag26
theorem Z26 : zeroOf P 26 = some (.slice none 0 0) := (E.ze 26).trans ze26
theorem U27 : P.underlying 27 = some (.pointer 54) := (E.ut 27).trans Tryz.underlying27
theorem S27 : szOf P 27 = some 1 := (E.sz 27).trans sz27
theorem A27 : isAggB P 27 = some false := (E.ag 27).trans ag27
theorem Z27 : zeroOf P 27 = some (.pointer none) := (E.ze 27).trans ze27
theorem U29 : P.underlying 29 = some (.struct #[{ name := "Kind", type := 3, offset := 0, embedded := false, tag := "", pkgPath := "", byteOffset := 0 }, { name := "Atom", type := 24, offset := 1, embedded := false, tag := "", pkgPath := "", byteOffset := 8 }, { name := "Tree", type := 3, offset := 3, embedded := false, tag := "", pkgPath := "", byteOffset := 32 }, { name := "Node", type := 3, offset := 4, embedded := false, tag := "", pkgPath := "", byteOffset := 40 }, { name := "Pairs", type := 25, offset := 5, embedded := false, tag := "", pkgPath := "", byteOffset := 48 }, { name := "Members", type := 26, offset := 6, embedded := false, tag := "", pkgPath := "", byteOffset := 72 }, { name := "Fn", type := 27, offset := 7, embedded := false, tag := "", pkgPath := "", byteOffset := 96 }]) := (E.ut 29).trans Tryz.underlying29
theorem S29 : szOf P 29 = some 8 := (E.sz 29).trans sz29
theorem A29 : isAggB P 29 = some true := (E.ag 29).trans ag29
theorem Z29 : zeroOf P 29 = some (.agg #[.int .i64 (0), .int .i64 (0), .string ⟨#[]⟩, .int .i64 (0), .int .i64 (0), .slice none 0 0, .slice none 0 0, .pointer none]) := (E.ze 29).trans ze29
theorem U32 : P.underlying 32 = some (.slice 24) := (E.ut 32).trans Tryz.underlying32
theorem S32 : szOf P 32 = some 1 := (E.sz 32).trans sz32
theorem A32 : isAggB P 32 = some false := (E.ag 32).trans ag32
theorem Z32 : zeroOf P 32 = some (.slice none 0 0) := (E.ze 32).trans ze32
theorem U33 : P.underlying 33 = some (.int (.i64)) := (E.ut 33).trans Tryz.underlying33
theorem S33 : szOf P 33 = some 1 := (E.sz 33).trans sz33
theorem A33 : isAggB P 33 = some false := (E.ag 33).trans ag33
theorem Z33 : zeroOf P 33 = some (.int .i64 (0)) := (E.ze 33).trans ze33
theorem U41 : P.underlying 41 = some (.struct #[{ name := "Key", type := 24, offset := 0, embedded := false, tag := "", pkgPath := "", byteOffset := 0 }, { name := "Value", type := 22, offset := 2, embedded := false, tag := "", pkgPath := "", byteOffset := 24 }]) := (E.ut 41).trans Tryz.underlying41
theorem S41 : szOf P 41 = some 3 := (E.sz 41).trans sz41
theorem A41 : isAggB P 41 = some true := (E.ag 41).trans ag41
theorem Z41 : zeroOf P 41 = some (.agg #[.int .i64 (0), .string ⟨#[]⟩, .slice none 0 0]) := (E.ze 41).trans ze41
theorem U43 : P.underlying 43 = some (.struct #[{ name := "Name", type := 9, offset := 0, embedded := false, tag := "", pkgPath := "", byteOffset := 0 }, { name := "Value", type := 22, offset := 1, embedded := false, tag := "", pkgPath := "", byteOffset := 16 }]) := (E.ut 43).trans Tryz.underlying43
theorem S43 : szOf P 43 = some 2 := (E.sz 43).trans sz43
theorem A43 : isAggB P 43 = some true := (E.ag 43).trans ag43
theorem Z43 : zeroOf P 43 = some (.agg #[.string ⟨#[]⟩, .slice none 0 0]) := (E.ze 43).trans ze43
theorem U44 : P.underlying 44 = some (.slice 43) := (E.ut 44).trans Tryz.underlying44
theorem S44 : szOf P 44 = some 1 := (E.sz 44).trans sz44
theorem A44 : isAggB P 44 = some false := (E.ag 44).trans ag44
theorem Z44 : zeroOf P 44 = some (.slice none 0 0) := (E.ze 44).trans ze44
theorem U45 : P.underlying 45 = some (.slice 9) := (E.ut 45).trans Tryz.underlying45
theorem S45 : szOf P 45 = some 1 := (E.sz 45).trans sz45
theorem A45 : isAggB P 45 = some false := (E.ag 45).trans ag45
theorem Z45 : zeroOf P 45 = some (.slice none 0 0) := (E.ze 45).trans ze45
theorem U47 : P.underlying 47 = some (.struct #[{ name := "Kind", type := 3, offset := 0, embedded := false, tag := "", pkgPath := "", byteOffset := 0 }, { name := "Name", type := 9, offset := 1, embedded := false, tag := "", pkgPath := "", byteOffset := 8 }]) := (E.ut 47).trans Tryz.underlying47
theorem S47 : szOf P 47 = some 2 := (E.sz 47).trans sz47
theorem A47 : isAggB P 47 = some true := (E.ag 47).trans ag47
theorem Z47 : zeroOf P 47 = some (.agg #[.int .i64 (0), .string ⟨#[]⟩]) := (E.ze 47).trans ze47
theorem U49 : P.underlying 49 = some (.struct #[{ name := "Kind", type := 3, offset := 0, embedded := false, tag := "", pkgPath := "", byteOffset := 0 }, { name := "Atom", type := 3, offset := 1, embedded := false, tag := "", pkgPath := "", byteOffset := 8 }, { name := "Test", type := 47, offset := 2, embedded := false, tag := "", pkgPath := "", byteOffset := 16 }, { name := "Occur", type := 9, offset := 4, embedded := false, tag := "", pkgPath := "", byteOffset := 40 }]) := (E.ut 49).trans Tryz.underlying49
theorem S49 : szOf P 49 = some 5 := (E.sz 49).trans sz49
theorem A49 : isAggB P 49 = some true := (E.ag 49).trans ag49
theorem Z49 : zeroOf P 49 = some (.agg #[.int .i64 (0), .int .i64 (0), .int .i64 (0), .string ⟨#[]⟩, .string ⟨#[]⟩]) := (E.ze 49).trans ze49
theorem U50 : P.underlying 50 = some (.slice 52) := (E.ut 50).trans Tryz.underlying50
theorem S50 : szOf P 50 = some 1 := (E.sz 50).trans sz50
theorem A50 : isAggB P 50 = some false := (E.ag 50).trans ag50
theorem Z50 : zeroOf P 50 = some (.slice none 0 0) := (E.ze 50).trans ze50
theorem U52 : P.underlying 52 = some (.struct #[{ name := "Kind", type := 3, offset := 0, embedded := false, tag := "", pkgPath := "", byteOffset := 0 }, { name := "Op", type := 9, offset := 1, embedded := false, tag := "", pkgPath := "", byteOffset := 8 }, { name := "Name", type := 9, offset := 2, embedded := false, tag := "", pkgPath := "", byteOffset := 24 }, { name := "N", type := 3, offset := 3, embedded := false, tag := "", pkgPath := "", byteOffset := 40 }, { name := "Atom", type := 24, offset := 4, embedded := false, tag := "", pkgPath := "", byteOffset := 48 }, { name := "Axis", type := 3, offset := 6, embedded := false, tag := "", pkgPath := "", byteOffset := 72 }, { name := "Test", type := 47, offset := 7, embedded := false, tag := "", pkgPath := "", byteOffset := 80 }, { name := "Type", type := 49, offset := 9, embedded := false, tag := "", pkgPath := "", byteOffset := 104 }, { name := "Names", type := 45, offset := 14, embedded := false, tag := "", pkgPath := "", byteOffset := 160 }, { name := "L", type := 50, offset := 15, embedded := false, tag := "", pkgPath := "", byteOffset := 184 }]) := (E.ut 52).trans Tryz.underlying52
theorem S52 : szOf P 52 = some 16 := (E.sz 52).trans sz52
theorem A52 : isAggB P 52 = some true := (E.ag 52).trans ag52
theorem Z52 : zeroOf P 52 = some (.agg #[.int .i64 (0), .string ⟨#[]⟩, .string ⟨#[]⟩, .int .i64 (0), .int .i64 (0), .string ⟨#[]⟩, .int .i64 (0), .int .i64 (0), .string ⟨#[]⟩, .int .i64 (0), .int .i64 (0), .int .i64 (0), .string ⟨#[]⟩, .string ⟨#[]⟩, .slice none 0 0, .slice none 0 0]) := (E.ze 52).trans ze52
theorem U54 : P.underlying 54 = some (.struct #[{ name := "Name", type := 9, offset := 0, embedded := false, tag := "", pkgPath := "", byteOffset := 0 }, { name := "Arity", type := 3, offset := 1, embedded := false, tag := "", pkgPath := "", byteOffset := 16 }, { name := "Params", type := 45, offset := 2, embedded := false, tag := "", pkgPath := "", byteOffset := 24 }, { name := "Body", type := 52, offset := 3, embedded := false, tag := "", pkgPath := "", byteOffset := 48 }, { name := "Vars", type := 44, offset := 19, embedded := false, tag := "", pkgPath := "", byteOffset := 256 }]) := (E.ut 54).trans Tryz.underlying54
theorem S54 : szOf P 54 = some 20 := (E.sz 54).trans sz54
theorem A54 : isAggB P 54 = some true := (E.ag 54).trans ag54
theorem Z54 : zeroOf P 54 = some (.agg #[.string ⟨#[]⟩, .int .i64 (0), .slice none 0 0, .int .i64 (0), .string ⟨#[]⟩, .string ⟨#[]⟩, .int .i64 (0), .int .i64 (0), .string ⟨#[]⟩, .int .i64 (0), .int .i64 (0), .string ⟨#[]⟩, .int .i64 (0), .int .i64 (0), .int .i64 (0), .string ⟨#[]⟩, .string ⟨#[]⟩, .slice none 0 0, .slice none 0 0, .slice none 0 0]) := (E.ze 54).trans ze54
theorem U60 : P.underlying 60 = some (.slice 5) := (E.ut 60).trans Tryz.underlying60
theorem S60 : szOf P 60 = some 1 := (E.sz 60).trans sz60
theorem A60 : isAggB P 60 = some false := (E.ag 60).trans ag60
theorem Z60 : zeroOf P 60 = some (.slice none 0 0) := (E.ze 60).trans ze60
theorem U61 : P.underlying 61 = some (.slice 67) := (E.ut 61).trans Tryz.underlying61
theorem S61 : szOf P 61 = some 1 := (E.sz 61).trans sz61
theorem A61 : isAggB P 61 = some false := (E.ag 61).trans ag61
theorem Z61 : zeroOf P 61 = some (.slice none 0 0) := (E.ze 61).trans ze61
theorem U63 : P.underlying 63 = some (.func #[29] #[4] false) := (E.ut 63).trans Tryz.underlying63
theorem S63 : szOf P 63 = some 1 := (E.sz 63).trans sz63
theorem A63 : isAggB P 63 = some false := (E.ag 63).trans ag63
theorem Z63 : zeroOf P 63 = some (.nilFunc) := (E.ze 63).trans ze63
theorem U65 : P.underlying 65 = some (.slice 84) := (E.ut 65).trans Tryz.underlying65
theorem S65 : szOf P 65 = some 1 := (E.sz 65).trans sz65
theorem A65 : isAggB P 65 = some false := (E.ag 65).trans ag65
theorem Z65 : zeroOf P 65 = some (.slice none 0 0) := (E.ze 65).trans ze65
theorem U67 : P.underlying 67 = some (.struct #[{ name := "L", type := 65, offset := 0, embedded := false, tag := "", pkgPath := "", byteOffset := 0 }]) := (E.ut 67).trans Tryz.underlying67
theorem S67 : szOf P 67 = some 1 := (E.sz 67).trans sz67
theorem A67 : isAggB P 67 = some true := (E.ag 67).trans ag67
theorem Z67 : zeroOf P 67 = some (.agg #[.slice none 0 0]) := (E.ze 67).trans ze67
theorem U68 : P.underlying 68 = some (.pointer 71) := (E.ut 68).trans Tryz.underlying68
theorem S68 : szOf P 68 = some 1 := (E.sz 68).trans sz68
theorem A68 : isAggB P 68 = some false := (E.ag 68).trans ag68
theorem Z68 : zeroOf P 68 = some (.pointer none) := (E.ze 68).trans ze68
theorem U69 : P.underlying 69 = some (.map 3 33) := (E.ut 69).trans Tryz.underlying69
theorem S69 : szOf P 69 = some 1 := (E.sz 69).trans sz69
theorem A69 : isAggB P 69 = some false := (E.ag 69).trans ag69
theorem Z69 : zeroOf P 69 = some (.map none) := (E.ze 69).trans ze69
theorem U71 : P.underlying 71 = some (.struct #[{ name := "trees", type := 61, offset := 0, embedded := false, tag := "", pkgPath := "chisel/item", byteOffset := 0 }, { name := "found", type := 69, offset := 1, embedded := false, tag := "", pkgPath := "chisel/item", byteOffset := 24 }]) := (E.ut 71).trans Tryz.underlying71
theorem S71 : szOf P 71 = some 2 := (E.sz 71).trans sz71
theorem A71 : isAggB P 71 = some true := (E.ag 71).trans ag71
theorem Z71 : zeroOf P 71 = some (.agg #[.slice none 0 0, .map none]) := (E.ze 71).trans ze71
theorem U78 : P.underlying 78 = some (.func #[22] #[4] false) := (E.ut 78).trans Tryz.underlying78
theorem S78 : szOf P 78 = some 1 := (E.sz 78).trans sz78
theorem A78 : isAggB P 78 = some false := (E.ag 78).trans ag78
theorem Z78 : zeroOf P 78 = some (.nilFunc) := (E.ze 78).trans ze78
theorem U79 : P.underlying 79 = some (.func #[9, 22] #[4] false) := (E.ut 79).trans Tryz.underlying79
theorem S79 : szOf P 79 = some 1 := (E.sz 79).trans sz79
theorem A79 : isAggB P 79 = some false := (E.ag 79).trans ag79
theorem Z79 : zeroOf P 79 = some (.nilFunc) := (E.ze 79).trans ze79
theorem U84 : P.underlying 84 = some (.struct #[{ name := "Kind", type := 3, offset := 0, embedded := false, tag := "", pkgPath := "", byteOffset := 0 }, { name := "Name", type := 9, offset := 1, embedded := false, tag := "", pkgPath := "", byteOffset := 8 }, { name := "Text", type := 9, offset := 2, embedded := false, tag := "", pkgPath := "", byteOffset := 24 }, { name := "Up", type := 3, offset := 3, embedded := false, tag := "", pkgPath := "", byteOffset := 40 }]) := (E.ut 84).trans Tryz.underlying84
theorem S84 : szOf P 84 = some 4 := (E.sz 84).trans sz84
theorem A84 : isAggB P 84 = some true := (E.ag 84).trans ag84
theorem Z84 : zeroOf P 84 = some (.agg #[.int .i64 (0), .string ⟨#[]⟩, .string ⟨#[]⟩, .int .i64 (0)]) := (E.ze 84).trans ze84
theorem U96 : P.underlying 96 = some (.func #[41] #[4] false) := (E.ut 96).trans Tryz.underlying96
theorem S96 : szOf P 96 = some 1 := (E.sz 96).trans sz96
theorem A96 : isAggB P 96 = some false := (E.ag 96).trans ag96
theorem Z96 : zeroOf P 96 = some (.nilFunc) := (E.ze 96).trans ze96
theorem U99 : P.underlying 99 = some (.func #[29, 29] #[4] false) := (E.ut 99).trans Tryz.underlying99
theorem S99 : szOf P 99 = some 1 := (E.sz 99).trans sz99
theorem A99 : isAggB P 99 = some false := (E.ag 99).trans ag99
theorem Z99 : zeroOf P 99 = some (.nilFunc) := (E.ze 99).trans ze99
theorem U115 : P.underlying 115 = some (.func #[9] #[4] false) := (E.ut 115).trans Tryz.underlying115
theorem S115 : szOf P 115 = some 1 := (E.sz 115).trans sz115
theorem A115 : isAggB P 115 = some false := (E.ag 115).trans ag115
theorem Z115 : zeroOf P 115 = some (.nilFunc) := (E.ze 115).trans ze115
theorem U133 : P.underlying 133 = some (.func #[22, 22] #[4] false) := (E.ut 133).trans Tryz.underlying133
theorem S133 : szOf P 133 = some 1 := (E.sz 133).trans sz133
theorem A133 : isAggB P 133 = some false := (E.ag 133).trans ag133
theorem Z133 : zeroOf P 133 = some (.nilFunc) := (E.ze 133).trans ze133
theorem U156 : P.underlying 156 = some (.map 9 3) := (E.ut 156).trans Tryz.underlying156
theorem S156 : szOf P 156 = some 1 := (E.sz 156).trans sz156
theorem A156 : isAggB P 156 = some false := (E.ag 156).trans ag156
theorem Z156 : zeroOf P 156 = some (.map none) := (E.ze 156).trans ze156
end

end
end Go.Proofs.YtibffohcmegooaaGreatDoor.V

namespace Go.Proofs.YtibffohcmegooaaGreatDoor.V
set_option linter.all false
open Go
noncomputable section

/-- A row of n at a block's start. -/
abbrev sl (b n : Nat) : Value := .slice (some ⟨b, 0, none⟩) n n
abbrev pt (b : Nat) : Value := .pointer (some ⟨b, 0, none⟩)
/-- Items. -/
abbrev atm (k : Int) (s : ByteArray) : Value := .agg #[.int .i64 k, .string s]
abbrev itA (k : Int) (s : ByteArray) : List Value := [.int .i64 0, .int .i64 k, .string s, .int .i64 0, .int .i64 0, .slice none 0 0, .slice none 0 0, .pointer none]
abbrev itN (t n : Int) : List Value := [.int .i64 1, .int .i64 0, .string ⟨#[]⟩, .int .i64 t, .int .i64 n, .slice none 0 0, .slice none 0 0, .pointer none]
abbrev itP (v : Value) : List Value := [.int .i64 2, .int .i64 0, .string ⟨#[]⟩, .int .i64 0, .int .i64 0, v, .slice none 0 0, .pointer none]
abbrev itM (v : Value) : List Value := [.int .i64 3, .int .i64 0, .string ⟨#[]⟩, .int .i64 0, .int .i64 0, .slice none 0 0, v, .pointer none]
abbrev itF (f : Nat) : List Value := [.int .i64 4, .int .i64 0, .string ⟨#[]⟩, .int .i64 0, .int .i64 0, .slice none 0 0, .slice none 0 0, pt f]
abbrev fnC (v : Value) : Array Value := #[.string ⟨#[]⟩, .int .i64 (0), .slice none 0 0, .int .i64 (0), .string ⟨#[]⟩, .string ⟨#[]⟩, .int .i64 (0), .int .i64 (0), .string ⟨#[]⟩, .int .i64 (0), .int .i64 (0), .string ⟨#[]⟩, .int .i64 (0), .int .i64 (0), .int .i64 (0), .string ⟨#[]⟩, .string ⟨#[]⟩, .slice none 0 0, .slice none 0 0, v]
/-- The byte count of a text. -/
abbrev bl (s : ByteArray) : Nat := s.data.toList.length

/-- The same below K. -/
def Ag (K : Nat) (h h' : AH) : Prop := ∀ j, j < K → h'.get j = h.get j
theorem Ag.refl (K : Nat) (h : AH) : Ag K h h := fun _ _ => rfl
theorem Ag.trans {K : Nat} {h h1 h2 : AH} (x : Ag K h h1) (y : Ag K h1 h2) : Ag K h h2 := fun j hj => (y j hj).trans (x j hj)
theorem Ag.less {K L : Nat} {h h' : AH} (x : Ag L h h') (hk : K ≤ L) : Ag K h h' := fun j hj => x j (by omega)

/-- A row's members, w cells each, below K. -/
def Row (K w : Nat) (h : AH) (p : Option Addr) (L : List (List Value)) : Prop :=
  ∀ (i : Nat) (x : List Value), L[i]? = some x → ∃ b o cs g, p = some ⟨b, o, none⟩ ∧ b < K ∧ h.get b = some (.cells cs g) ∧ o + i * w + w ≤ cs.size ∧ (cs.toList.drop (o + i * w)).take w = x
theorem Row.mono {K K' w : Nat} {h h' : AH} {p : Option Addr} {L : List (List Value)} (r : Row K w h p L) (hK : K ≤ K') (ha : Ag K h h') : Row K' w h' p L := by
  intro i x hx
  obtain ⟨b, o, cs, g, h1, h2, h3, h4, h5⟩ := r i x hx
  exact ⟨b, o, cs, g, h1, by omega, (ha b h2).trans h3, h4, h5⟩
theorem Row.nil {K w : Nat} {h : AH} {p : Option Addr} : Row K w h p [] := fun i x hx => by simp at hx

theorem take1 {l : List Value} {o : Nat} {v : Value} (h : (l.drop o).take 1 = [v]) : l[o]? = some v := by
  have := congrArg (·[0]?) h
  simpa [List.getElem?_take, List.getElem?_drop] using this
theorem Row.two {K : Nat} {h : AH} {p : Option Addr} {v1 v2 : Value} (r : Row K 1 h p [[v1], [v2]]) :
    ∃ b o cs g, cs.toList[o + 0 * 1]? = some v1 ∧ cs.toList[o + 1 * 1]? = some v2 ∧ p = some ⟨b, o, none⟩ ∧ b < K ∧ h.get b = some (.cells cs g) := by
  obtain ⟨b, o, cs, g, h1, h2, h3, h4, h5⟩ := r 0 [v1] rfl
  obtain ⟨b', o', cs', g', h1', h2', h3', h4', h5'⟩ := r 1 [v2] rfl
  rw [h1] at h1'
  cases h1'
  rw [h3] at h3'
  cases h3'
  exact ⟨b, o, cs, g, take1 h5, take1 h5', h1, h2, h3⟩
theorem at_lt {α : Type} {L : List α} {i : Nat} (h : i < L.length) : ∃ q, L[i]? = some q := ⟨L[i], List.getElem?_eq_getElem h⟩

/-- Sums along a list. -/
def sumF {α : Type} (f : α → Nat) : List α → Nat
  | [] => 0
  | x :: xs => f x + sumF f xs
theorem sumF_at {α : Type} (f : α → Nat) : ∀ (L : List α) (i : Nat) (q : α), L[i]? = some q → sumF f (L.take (i + 1)) = sumF f (L.take i) + f q ∧ sumF f (L.take i) + f q ≤ sumF f L
  | [], i, q, h => by simp at h
  | x :: xs, 0, q, h => by
    simp at h; subst h
    simp [sumF]
  | x :: xs, i + 1, q, h => by
    obtain ⟨h1, h2⟩ := sumF_at f xs i q (by simpa using h)
    simp only [List.take_succ_cons, sumF] at h1 ⊢
    omega
theorem sumF_all {α : Type} (f : α → Nat) (L : List α) : sumF f (L.take L.length) = sumF f L := by rw [List.take_length]
theorem sumF_zero {α : Type} (f : α → Nat) (L : List α) : sumF f (L.take 0) = 0 := rfl

theorem may_of {h h' : AH} {j : Nat} (hl : h'.lock = h.lock) (hi : h'.imp = h.imp) (hm : h.may j = true) : h'.may j = true := by
  unfold AH.may AH.own at hm ⊢
  rw [hl, hi]; exact hm

/-- A row of open capacity, in block b; none yet: block b is none at all. -/
def Acc (e : Nat) (elem : TypeId) (h : AH) (b : Nat) (v : Value) (k : Nat) (cs : List Value) : Prop :=
  (k = 0 ∧ v = .slice none 0 0 ∧ cs = [] ∧ b = 33554432) ∨ (0 < k ∧ v = sl b k ∧ h.get b = some (.cells ⟨cs⟩ (.up e (some elem))) ∧ h.may b = true ∧ b < h.next)

theorem Grown.split {h h' : AH} {i : Nat} {b : Blk} (x : Grown h h' (some i) b) (hok : HOK h) (hi : i < h.next) : ∃ h1, Upd h h1 i none ∧ New h1 h' b := by
  have u := hok.put hi none
  refine ⟨_, u, fun j => ?_, ?_, ?_, ?_, ?_, x.ok⟩
  · rw [x.get, u.next, u.get]
    by_cases h1 : j = h.next
    · rw [if_pos h1, if_pos h1]
    · rw [if_neg h1, if_neg h1]
      by_cases h2 : j = i
      · rw [if_pos (by rw [h2]), if_pos h2]
      · rw [if_neg (by simpa using h2), if_neg h2]
  · rw [x.next, u.next]
  · rw [x.lock, u.lock]
  · rw [x.imp, u.imp]
  · rw [x.fl, u.fl]

/-- One more. -/
theorem app1 {P : Program} {h : AH} {t elem : TypeId} {i : TypeInfo} {z : Value} {e : Nat} (hok : HOK h) (h1 : P.underlying t = some (.slice elem)) (h3 : P.info? elem = some i) (h4 : zeroOf P elem = some z) (h5 : z.cells.size = i.size) (h6 : i.size = e + 1)
    {b2 c2 : Nat} {c : List Value} {g : Gw} (hb2 : h.get b2 = some (.cells ⟨c⟩ g)) (hc : c.length = e + 1) (hone : c.all oneB = true) {b k : Nat} {v : Value} {cs : List Value} (ha : Acc e elem h b v k cs) (hcs : cs.length = k * (e + 1)) (hbig : (k + 1) * (i.bytes + 1) ≤ 1099511627776) (hn : h.next < 16777216) :
    ∃ x h1 h2, appendB P h #[t, t] v (.slice (some ⟨b2, 0, none⟩) 1 c2) = some (sl h.next (k + 1), some h2) ∧ Upd h h1 b x ∧ New h1 h2 (.cells ⟨cs ++ c⟩ (.up e (some elem))) := by
  have hx : ((⟨c⟩ : Array Value).toList.drop 0).take (1 * i.size) = c := by
    rw [List.drop_zero, Nat.one_mul, List.take_of_length_le (by rw [h6, ← hc]; exact Nat.le_refl _)]
  have hsz : 0 + 1 * i.size ≤ (⟨c⟩ : Array Value).size := by
    show _ ≤ c.length
    omega
  rcases ha with ⟨rfl, rfl, rfl, rfl⟩ | ⟨hk, rfl, hb, hm, hl⟩
  · obtain ⟨h', e1, e2⟩ := appendS_nil (c2 := c2) (m := 1) hok h1 h1 h3 h4 h5 h6 (by omega) hb2 hsz (by simpa using hbig) hn
    rw [hx] at e2
    refine ⟨h.get 33554432, h, h', e1, ⟨fun j => ?_, rfl, rfl, rfl, rfl, hok⟩, ⟨fun j => by rw [e2.get]; simp, e2.next, e2.lock, e2.imp, e2.fl, e2.ok⟩⟩
    by_cases hj : j = 33554432
    · rw [if_pos hj, hj]
    · rw [if_neg hj]
  · obtain ⟨h', e1, e2⟩ := appendS_up (c2 := c2) (m := 1) (k := k) hok h1 h1 h3 h4 h5 h6 (by omega) hb2 hsz (by rw [hx]; exact hone) hb hm (by show k * i.size ≤ cs.length; rw [hcs, h6]; exact Nat.le_refl _) hbig hn
    rw [hx] at e2
    have e3 : (⟨cs⟩ : Array Value).toList.take (k * i.size) = cs := List.take_of_length_le (by rw [h6, hcs]; exact Nat.le_refl _)
    rw [e3] at e2
    obtain ⟨h1, a, b⟩ := e2.split hok hl
    exact ⟨none, h1, h', e1, a, b⟩

theorem may_ge {h : AH} {j : Nat} (h1 : h.lock ≤ j) (h2 : h.imp ≤ j) (h3 : j < 16777216) : h.may j = true := by
  unfold AH.may
  rw [Bool.and_eq_true]
  exact ⟨ble_iff.2 h1, AH.own_iff.2 ⟨h2, h3⟩⟩

theorem Acc.mono {e : Nat} {elem : TypeId} {h h' : AH} {b k : Nat} {v : Value} {cs : List Value} (a : Acc e elem h b v k cs) (hg : k ≠ 0 → h'.get b = h.get b) (hn : h.next ≤ h'.next) (hl : h'.lock = h.lock) (hi : h'.imp = h.imp) : Acc e elem h' b v k cs := by
  rcases a with a | ⟨a1, a2, a3, a4, a5⟩
  · exact .inl a
  · exact .inr ⟨a1, a2, (hg (by omega)).trans a3, may_of hl hi a4, by omega⟩

theorem zeros1 (v : Value) : ∀ n, zerosB [v] n = List.replicate n v
  | 0 => rfl
  | n + 1 => by
    show [v] ++ zerosB [v] n = _
    rw [zeros1 v n, List.replicate_succ]
    rfl
theorem put1 (O : List Value) (o : Nat) (v : Value) : putL ⟨O⟩ o [v] = ⟨O.set o v⟩ := by
  simp [putL]

/-- The functions that are walked. -/
def walkG : Nat → Bool := fun g => match g with
  | 3 | 4 | 12 | 6 | 8 | 7 | 11 | 25 | 26 | 17 | 13 | 14 | 15 | 23 | 24 | 27 | 40 | 29 | 41 | 42 | 43 | 44 | 45 | 34 | 35 | 28 | 30 | 46 | 47 | 65 | 68 | 69 | 70 | 56 | 59 | 60 | 61 | 100 => true
  | _ => false
/-- Who writes what it did not make: 1; who may, where memory is open: 2. -/
def mtG : FuncId → List Value → Nat := fun g args => match g with
  | 23 | 24 => 1
  | 13 | 28 | 30 | 14 | 15 => 2
  | 27 | 46 => (match args with | [_, .func (.func 40) _ _] => 0 | _ => 2)
  | 29 | 47 => (match args with | [_, .func (.func 25) _ _] => 0 | _ => 2)
  | _ => 0

end
end Go.Proofs.YtibffohcmegooaaGreatDoor.V
