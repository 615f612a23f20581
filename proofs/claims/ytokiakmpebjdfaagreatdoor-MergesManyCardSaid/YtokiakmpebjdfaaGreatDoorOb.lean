/- What the types of the functions that are walked come to. Conditions: none. -/
import Derived.Test.YtokiakmpebjdfaaGreatDoorWf
import Derived.Test.YtokiakmpebjdfaaGreatDoorProg
import Derived.KernelRfl
namespace Go.Proofs.YtokiakmpebjdfaaGreatDoor.V
set_option linter.all false
open Go
noncomputable section
theorem sz3 : szOf Tryz.prog 3 = some 1 := by kernel_rfl
theorem ag3 : isAggB Tryz.prog 3 = some false := by kernel_rfl
theorem ze3 : zeroOf Tryz.prog 3 = some (.int .i64 (0)) := by kernel_rfl
theorem sz4 : szOf Tryz.prog 4 = some 1 := by kernel_rfl
theorem ag4 : isAggB Tryz.prog 4 = some false := by kernel_rfl
theorem ze4 : zeroOf Tryz.prog 4 = some (.bool false) := by kernel_rfl
theorem sz5 : szOf Tryz.prog 5 = some 1 := by kernel_rfl
theorem ag5 : isAggB Tryz.prog 5 = some false := by kernel_rfl
theorem ze5 : zeroOf Tryz.prog 5 = some (.int .u8 (0)) := by kernel_rfl
theorem sz9 : szOf Tryz.prog 9 = some 1 := by kernel_rfl
theorem ag9 : isAggB Tryz.prog 9 = some false := by kernel_rfl
theorem ze9 : zeroOf Tryz.prog 9 = some (.string ⟨#[]⟩) := by kernel_rfl
theorem sz22 : szOf Tryz.prog 22 = some 1 := by kernel_rfl
theorem ag22 : isAggB Tryz.prog 22 = some false := by kernel_rfl
theorem ze22 : zeroOf Tryz.prog 22 = some (.slice none 0 0) := by kernel_rfl
theorem sz23 : szOf Tryz.prog 23 = some 1 := by kernel_rfl
theorem ag23 : isAggB Tryz.prog 23 = some false := by kernel_rfl
theorem ze23 : zeroOf Tryz.prog 23 = some (.slice none 0 0) := by kernel_rfl
theorem sz24 : szOf Tryz.prog 24 = some 1 := by kernel_rfl
theorem ag24 : isAggB Tryz.prog 24 = some false := by kernel_rfl
theorem ze24 : zeroOf Tryz.prog 24 = some (.slice none 0 0) := by kernel_rfl
theorem sz25 : szOf Tryz.prog 25 = some 1 := by kernel_rfl
theorem ag25 : isAggB Tryz.prog 25 = some false := by kernel_rfl
theorem ze25 : zeroOf Tryz.prog 25 = some (.slice none 0 0) := by kernel_rfl
theorem sz26 : szOf Tryz.prog 26 = some 1 := by kernel_rfl
theorem ag26 : isAggB Tryz.prog 26 = some false := by kernel_rfl
theorem ze26 : zeroOf Tryz.prog 26 = some (.int .i64 (0)) := by kernel_rfl
theorem sz30 : szOf Tryz.prog 30 = some 1 := by kernel_rfl
theorem ag30 : isAggB Tryz.prog 30 = some false := by kernel_rfl
theorem ze30 : zeroOf Tryz.prog 30 = some (.slice none 0 0) := by kernel_rfl
theorem sz32 : szOf Tryz.prog 32 = some 1 := by kernel_rfl
theorem ag32 : isAggB Tryz.prog 32 = some false := by kernel_rfl
theorem ze32 : zeroOf Tryz.prog 32 = some (.slice none 0 0) := by kernel_rfl
theorem sz34 : szOf Tryz.prog 34 = some 2 := by kernel_rfl
theorem ag34 : isAggB Tryz.prog 34 = some true := by kernel_rfl
theorem ze34 : zeroOf Tryz.prog 34 = some (.agg #[.int .i64 (0), .int .i64 (0)]) := by kernel_rfl
theorem sz35 : szOf Tryz.prog 35 = some 1 := by kernel_rfl
theorem ag35 : isAggB Tryz.prog 35 = some false := by kernel_rfl
theorem ze35 : zeroOf Tryz.prog 35 = some (.slice none 0 0) := by kernel_rfl
theorem sz40 : szOf Tryz.prog 40 = some 1 := by kernel_rfl
theorem ag40 : isAggB Tryz.prog 40 = some false := by kernel_rfl
theorem ze40 : zeroOf Tryz.prog 40 = some (.nilFunc) := by kernel_rfl
theorem sz42 : szOf Tryz.prog 42 = some 1 := by kernel_rfl
theorem ag42 : isAggB Tryz.prog 42 = some false := by kernel_rfl
theorem ze42 : zeroOf Tryz.prog 42 = some (.pointer none) := by kernel_rfl
theorem sz44 : szOf Tryz.prog 44 = some 3 := by kernel_rfl
theorem ag44 : isAggB Tryz.prog 44 = some true := by kernel_rfl
theorem ze44 : zeroOf Tryz.prog 44 = some (.agg #[.bool false, .bool false, .pointer none]) := by kernel_rfl
theorem sz47 : szOf Tryz.prog 47 = some 1 := by kernel_rfl
theorem ag47 : isAggB Tryz.prog 47 = some false := by kernel_rfl
theorem ze47 : zeroOf Tryz.prog 47 = some (.nilFunc) := by kernel_rfl
theorem sz51 : szOf Tryz.prog 51 = some 2 := by kernel_rfl
theorem ag51 : isAggB Tryz.prog 51 = some true := by kernel_rfl
theorem ze51 : zeroOf Tryz.prog 51 = some (.agg #[.int .i64 (0), .string ⟨#[]⟩]) := by kernel_rfl
theorem sz53 : szOf Tryz.prog 53 = some 1 := by kernel_rfl
theorem ag53 : isAggB Tryz.prog 53 = some false := by kernel_rfl
theorem ze53 : zeroOf Tryz.prog 53 = some (.nilFunc) := by kernel_rfl
theorem sz85 : szOf Tryz.prog 85 = some 1 := by kernel_rfl
theorem ag85 : isAggB Tryz.prog 85 = some false := by kernel_rfl
theorem ze85 : zeroOf Tryz.prog 85 = some (.int .u64 (0)) := by kernel_rfl
theorem sz122 : szOf Tryz.prog 122 = some 5 := by kernel_rfl
theorem ag122 : isAggB Tryz.prog 122 = some true := by kernel_rfl
theorem ze122 : zeroOf Tryz.prog 122 = some (.agg #[.map none, .int .i64 (0), .int .i64 (0), .int .i64 (0), .int .i64 (0)]) := by kernel_rfl

section
variable {P : Program} {base : Orc} {walk : Nat → Bool} (E : Alike P Tryz.prog base walk)
include E
theorem U3 : P.underlying 3 = some (.int (.i64)) := (E.ut 3).trans Tryz.underlying3
theorem S3 : szOf P 3 = some 1 := (E.sz 3).trans sz3
theorem A3 : isAggB P 3 = some false := (E.ag 3).trans ag3
theorem Z3 : zeroOf P 3 = some (.int .i64 (0)) := (E.ze 3).trans ze3
theorem U4 : P.underlying 4 = some (.bool) := (E.ut 4).trans Tryz.underlying4
theorem S4 : szOf P 4 = some 1 := (E.sz 4).trans sz4
theorem A4 : isAggB P 4 = some false := (E.ag 4).trans ag4
theorem Z4 : zeroOf P 4 = some (.bool false) := (E.ze 4).trans ze4
theorem U5 : P.underlying 5 = some (.int (.u8)) := (E.ut 5).trans Tryz.underlying5
theorem S5 : szOf P 5 = some 1 := (E.sz 5).trans sz5
theorem A5 : isAggB P 5 = some false := (E.ag 5).trans ag5
theorem Z5 : zeroOf P 5 = some (.int .u8 (0)) := (E.ze 5).trans ze5
theorem U9 : P.underlying 9 = some (.string) := (E.ut 9).trans Tryz.underlying9
theorem S9 : szOf P 9 = some 1 := (E.sz 9).trans sz9
theorem A9 : isAggB P 9 = some false := (E.ag 9).trans ag9
theorem Z9 : zeroOf P 9 = some (.string ⟨#[]⟩) := (E.ze 9).trans ze9
theorem U22 : P.underlying 22 = some (.slice 23) := (E.ut 22).trans Tryz.underlying22
theorem S22 : szOf P 22 = some 1 := (E.sz 22).trans sz22
theorem A22 : isAggB P 22 = some false := (E.ag 22).trans ag22
theorem Z22 : zeroOf P 22 = some (.slice none 0 0) := (E.ze 22).trans ze22
theorem U23 : P.underlying 23 = some (.slice 51) := (E.ut 23).trans Tryz.underlying23
theorem S23 : szOf P 23 = some 1 := (E.sz 23).trans sz23
theorem A23 : isAggB P 23 = some false := (E.ag 23).trans ag23
theorem Z23 : zeroOf P 23 = some (.slice none 0 0) := (E.ze 23).trans ze23
theorem U24 : P.underlying 24 = some (.slice 22) := (E.ut 24).trans Tryz.underlying24
theorem S24 : szOf P 24 = some 1 := (E.sz 24).trans sz24
theorem A24 : isAggB P 24 = some false := (E.ag 24).trans ag24
theorem Z24 : zeroOf P 24 = some (.slice none 0 0) := (E.ze 24).trans ze24
theorem U25 : P.underlying 25 = some (.slice 30) := (E.ut 25).trans Tryz.underlying25
theorem S25 : szOf P 25 = some 1 := (E.sz 25).trans sz25
theorem A25 : isAggB P 25 = some false := (E.ag 25).trans ag25
theorem Z25 : zeroOf P 25 = some (.slice none 0 0) := (E.ze 25).trans ze25
theorem U26 : P.underlying 26 = some (.int (.i64)) := (E.ut 26).trans Tryz.underlying26
theorem S26 : szOf P 26 = some 1 := (E.sz 26).trans sz26
theorem A26 : isAggB P 26 = some false := (E.ag 26).trans ag26
theorem Z26 : zeroOf P 26 = some (.int .i64 (0)) := (E.ze 26).trans ze26
theorem U30 : P.underlying 30 = some (.slice 34) := (E.ut 30).trans Tryz.underlying30
theorem S30 : szOf P 30 = some 1 := (E.sz 30).trans sz30
theorem A30 : isAggB P 30 = some false := (E.ag 30).trans ag30
theorem Z30 : zeroOf P 30 = some (.slice none 0 0) := (E.ze 30).trans ze30
theorem U32 : P.underlying 32 = some (.slice 44) := (E.ut 32).trans Tryz.underlying32
theorem S32 : szOf P 32 = some 1 := (E.sz 32).trans sz32
theorem A32 : isAggB P 32 = some false := (E.ag 32).trans ag32
theorem Z32 : zeroOf P 32 = some (.slice none 0 0) := (E.ze 32).trans ze32
theorem U34 : P.underlying 34 = some (.struct #[{ name := "Source", type := 3, offset := 0, embedded := false, tag := "", pkgPath := "", byteOffset := 0 }, { name := "Index", type := 3, offset := 1, embedded := false, tag := "", pkgPath := "", byteOffset := 8 }]) := (E.ut 34).trans Tryz.underlying34
theorem S34 : szOf P 34 = some 2 := (E.sz 34).trans sz34
theorem A34 : isAggB P 34 = some true := (E.ag 34).trans ag34
theorem Z34 : zeroOf P 34 = some (.agg #[.int .i64 (0), .int .i64 (0)]) := (E.ze 34).trans ze34
theorem U35 : P.underlying 35 = some (.slice 3) := (E.ut 35).trans Tryz.underlying35
theorem S35 : szOf P 35 = some 1 := (E.sz 35).trans sz35
theorem A35 : isAggB P 35 = some false := (E.ag 35).trans ag35
theorem Z35 : zeroOf P 35 = some (.slice none 0 0) := (E.ze 35).trans ze35
theorem U40 : P.underlying 40 = some (.func #[3, 3] #[3] false) := (E.ut 40).trans Tryz.underlying40
theorem S40 : szOf P 40 = some 1 := (E.sz 40).trans sz40
theorem A40 : isAggB P 40 = some false := (E.ag 40).trans ag40
theorem Z40 : zeroOf P 40 = some (.nilFunc) := (E.ze 40).trans ze40
theorem U42 : P.underlying 42 = some (.pointer 122) := (E.ut 42).trans Tryz.underlying42
theorem S42 : szOf P 42 = some 1 := (E.sz 42).trans sz42
theorem A42 : isAggB P 42 = some false := (E.ag 42).trans ag42
theorem Z42 : zeroOf P 42 = some (.pointer none) := (E.ze 42).trans ze42
theorem U44 : P.underlying 44 = some (.struct #[{ name := "Descending", type := 4, offset := 0, embedded := false, tag := "", pkgPath := "", byteOffset := 0 }, { name := "Number", type := 4, offset := 1, embedded := false, tag := "", pkgPath := "", byteOffset := 1 }, { name := "Table", type := 42, offset := 2, embedded := false, tag := "", pkgPath := "", byteOffset := 8 }]) := (E.ut 44).trans Tryz.underlying44
theorem S44 : szOf P 44 = some 3 := (E.sz 44).trans sz44
theorem A44 : isAggB P 44 = some true := (E.ag 44).trans ag44
theorem Z44 : zeroOf P 44 = some (.agg #[.bool false, .bool false, .pointer none]) := (E.ze 44).trans ze44
theorem U47 : P.underlying 47 = some (.func #[23, 23] #[3] false) := (E.ut 47).trans Tryz.underlying47
theorem S47 : szOf P 47 = some 1 := (E.sz 47).trans sz47
theorem A47 : isAggB P 47 = some false := (E.ag 47).trans ag47
theorem Z47 : zeroOf P 47 = some (.nilFunc) := (E.ze 47).trans ze47
theorem U51 : P.underlying 51 = some (.struct #[{ name := "Kind", type := 3, offset := 0, embedded := false, tag := "", pkgPath := "", byteOffset := 0 }, { name := "Text", type := 9, offset := 1, embedded := false, tag := "", pkgPath := "", byteOffset := 8 }]) := (E.ut 51).trans Tryz.underlying51
theorem S51 : szOf P 51 = some 2 := (E.sz 51).trans sz51
theorem A51 : isAggB P 51 = some true := (E.ag 51).trans ag51
theorem Z51 : zeroOf P 51 = some (.agg #[.int .i64 (0), .string ⟨#[]⟩]) := (E.ze 51).trans ze51
theorem U53 : P.underlying 53 = some (.func #[51] #[4] false) := (E.ut 53).trans Tryz.underlying53
theorem S53 : szOf P 53 = some 1 := (E.sz 53).trans sz53
theorem A53 : isAggB P 53 = some false := (E.ag 53).trans ag53
theorem Z53 : zeroOf P 53 = some (.nilFunc) := (E.ze 53).trans ze53
theorem U85 : P.underlying 85 = some (.int (.u64)) := (E.ut 85).trans Tryz.underlying85
theorem S85 : szOf P 85 = some 1 := (E.sz 85).trans sz85
theorem A85 : isAggB P 85 = some false := (E.ag 85).trans ag85
theorem Z85 : zeroOf P 85 = some (.int .u64 (0)) := (E.ze 85).trans ze85
theorem U122 : P.underlying 122 = some (.struct #[{ name := "of", type := 118, offset := 0, embedded := false, tag := "", pkgPath := "chisel/coll", byteOffset := 0 }, { name := "last", type := 120, offset := 1, embedded := false, tag := "", pkgPath := "chisel/coll", byteOffset := 8 }, { name := "strength", type := 3, offset := 4, embedded := false, tag := "", pkgPath := "chisel/coll", byteOffset := 32 }]) := (E.ut 122).trans Tryz.underlying122
theorem S122 : szOf P 122 = some 5 := (E.sz 122).trans sz122
theorem A122 : isAggB P 122 = some true := (E.ag 122).trans ag122
theorem Z122 : zeroOf P 122 = some (.agg #[.map none, .int .i64 (0), .int .i64 (0), .int .i64 (0), .int .i64 (0)]) := (E.ze 122).trans ze122
end

end
end Go.Proofs.YtokiakmpebjdfaaGreatDoor.V

namespace Go.Proofs.YtokiakmpebjdfaaGreatDoor.V
set_option linter.all false
open Go
noncomputable section

/-- A row of n at a block's start. -/
abbrev sl (b n : Nat) : Value := .slice (some ⟨b, 0, none⟩) n n
abbrev pt (b : Nat) : Value := .pointer (some ⟨b, 0, none⟩)

/-- The same below K. -/
def Ag (K : Nat) (h h' : AH) : Prop := ∀ j, j < K → h'.get j = h.get j
theorem Ag.refl (K : Nat) (h : AH) : Ag K h h := fun _ _ => rfl
theorem Ag.trans {K : Nat} {h h1 h2 : AH} (x : Ag K h h1) (y : Ag K h1 h2) : Ag K h h2 := fun j hj => (y j hj).trans (x j hj)

theorem wrap_u64 {r : Int} (h1 : 0 ≤ r) (h2 : r ≤ 9223372036854775807) : IntKind.u64.wrap r = r := by
  unfold IntKind.wrap
  simp only [IntKind.bits, IntKind.signed]
  have : r % (2 ^ 64 : Int) = r := Int.emod_eq_of_lt h1 (by simp; omega)
  simp only [this, Bool.false_and]
  rfl
theorem half_ok {P : Program} {t : TypeId} {x y : Operand} {z : Int} {k : IntKind} : binB P .shr t x y (.int .u64 z) (.int k 1) = some (.int .u64 (z / 2)) := by
  show some (Value.int .u64 (z.fdiv 2)) = _
  rw [Int.fdiv_eq_ediv_of_nonneg _ (by omega)]
theorem half_wrap {z w : Int} (h1 : 0 ≤ z) (h2 : z ≤ 9223372036854775807) (h : w = IntKind.i64.wrap (z.fdiv (2 ^ min 1 IntKind.u64.bits))) : w = z / 2 := by
  have e : z.fdiv (2 ^ min 1 IntKind.u64.bits) = z / 2 := Int.fdiv_eq_ediv_of_nonneg _ (by decide)
  rw [e, wrap_i64 (by omega) (by omega)] at h
  exact h
theorem quo_ok {P : Program} {t : TypeId} {x y : Operand} {z k : Nat} (hk : 0 < k) (hz : z ≤ 1000000000) : binB P .quo t x y (.int .i64 (z : Int)) (.int .i64 (k : Int)) = some (.int .i64 ((z / k : Nat) : Int)) := by
  obtain ⟨k, rfl⟩ : ∃ j, k = j + 1 := ⟨k - 1, by omega⟩
  show some (Value.int .i64 (IntKind.i64.wrap (Int.tdiv (z : Int) ((k + 1 : Nat) : Int)))) = _
  have h1 : Int.tdiv (z : Int) ((k + 1 : Nat) : Int) = ((z / (k + 1) : Nat) : Int) := by
    rw [Int.tdiv_eq_ediv_of_nonneg (by omega)]
    exact (Int.natCast_ediv z (k + 1)).symm
  have h2 : z / (k + 1) ≤ z := Nat.div_le_self _ _
  rw [h1]
  generalize z / (k + 1) = w at h2
  rw [wrap_i64 (by omega) (by omega)]

/-- Where the parts begin. -/
def cutN (n k i : Nat) : Nat := i * n / k
theorem cut_zero {n k : Nat} : cutN n k 0 = 0 := by simp [cutN]
theorem cut_all {n k : Nat} (hk : 0 < k) : cutN n k k = n := Nat.mul_div_cancel_left n hk
theorem cut_le {n k i : Nat} : cutN n k i ≤ cutN n k (i + 1) := Nat.div_le_div_right (Nat.mul_le_mul_right n (Nat.le_succ i))
theorem cut_top {n k i : Nat} (hk : 0 < k) (hi : i ≤ k) : cutN n k i ≤ n := by
  have h : cutN n k i ≤ cutN n k k := Nat.div_le_div_right (Nat.mul_le_mul_right n hi)
  rwa [cut_all hk] at h

theorem may_of {h h' : AH} {j : Nat} (hl : h'.lock = h.lock) (hi : h'.imp = h.imp) (hm : h.may j = true) : h'.may j = true := by
  unfold AH.may AH.own at hm ⊢
  rw [hl, hi]; exact hm

/-- A row of open capacity, in block b; none yet: block b is none at all. -/
def Acc (e : Nat) (elem : TypeId) (h : AH) (b : Nat) (v : Value) (k : Nat) (cs : List Value) : Prop :=
  (k = 0 ∧ v = .slice none 0 0 ∧ cs = [] ∧ b = 33554432) ∨ (0 < k ∧ v = sl b k ∧ h.get b = some (.cells ⟨cs⟩ (.up e (some elem))) ∧ h.may b = true ∧ b < h.next)

theorem Grown.split {h h' : AH} {i : Nat} {b : Blk} (x : Grown h h' (some i) b) (hok : HOK h) (hi : i < h.next) : ∃ h1, Upd h h1 i none ∧ New h1 h' b := by
  have u := hok.put hi none
  refine ⟨_, u, fun j => ?_, ?_, ?_, ?_, ?_, x.ok⟩
  · rw [x.get, u.next, u.get]
    by_cases h1 : j = h.next
    · rw [if_pos h1, if_pos h1]
    · rw [if_neg h1, if_neg h1]
      by_cases h2 : j = i
      · rw [if_pos (by rw [h2]), if_pos h2]
      · rw [if_neg (by simpa using h2), if_neg h2]
  · rw [x.next, u.next]
  · rw [x.lock, u.lock]
  · rw [x.imp, u.imp]
  · rw [x.fl, u.fl]

/-- One more. -/
theorem app1 {P : Program} {h : AH} {t elem : TypeId} {i : TypeInfo} {z : Value} {e : Nat} (hok : HOK h) (h1 : P.underlying t = some (.slice elem)) (h3 : P.info? elem = some i) (h4 : zeroOf P elem = some z) (h5 : z.cells.size = i.size) (h6 : i.size = e + 1)
    {b2 c2 : Nat} {c : List Value} {g : Gw} (hb2 : h.get b2 = some (.cells ⟨c⟩ g)) (hc : c.length = e + 1) (hone : c.all oneB = true) {b k : Nat} {v : Value} {cs : List Value} (ha : Acc e elem h b v k cs) (hcs : cs.length = k * (e + 1)) (hbig : (k + 1) * (i.bytes + 1) ≤ 1099511627776) (hn : h.next < 16777216) :
    ∃ x h1 h2, appendB P h #[t, t] v (.slice (some ⟨b2, 0, none⟩) 1 c2) = some (sl h.next (k + 1), some h2) ∧ Upd h h1 b x ∧ New h1 h2 (.cells ⟨cs ++ c⟩ (.up e (some elem))) := by
  have hx : ((⟨c⟩ : Array Value).toList.drop 0).take (1 * i.size) = c := by
    rw [List.drop_zero, Nat.one_mul, List.take_of_length_le (by rw [h6, ← hc]; exact Nat.le_refl _)]
  have hsz : 0 + 1 * i.size ≤ (⟨c⟩ : Array Value).size := by
    show _ ≤ c.length
    omega
  rcases ha with ⟨rfl, rfl, rfl, rfl⟩ | ⟨hk, rfl, hb, hm, hl⟩
  · obtain ⟨h', e1, e2⟩ := appendS_nil (c2 := c2) (m := 1) hok h1 h1 h3 h4 h5 h6 (by omega) hb2 hsz (by simpa using hbig) hn
    rw [hx] at e2
    refine ⟨h.get 33554432, h, h', e1, ⟨fun j => ?_, rfl, rfl, rfl, rfl, hok⟩, ⟨fun j => by rw [e2.get]; simp, e2.next, e2.lock, e2.imp, e2.fl, e2.ok⟩⟩
    by_cases hj : j = 33554432
    · rw [if_pos hj, hj]
    · rw [if_neg hj]
  · obtain ⟨h', e1, e2⟩ := appendS_up (c2 := c2) (m := 1) (k := k) hok h1 h1 h3 h4 h5 h6 (by omega) hb2 hsz (by rw [hx]; exact hone) hb hm (by show k * i.size ≤ cs.length; rw [hcs, h6]; exact Nat.le_refl _) hbig hn
    rw [hx] at e2
    have e3 : (⟨cs⟩ : Array Value).toList.take (k * i.size) = cs := List.take_of_length_le (by rw [h6, hcs]; exact Nat.le_refl _)
    rw [e3] at e2
    obtain ⟨h1, a, b⟩ := e2.split hok hl
    exact ⟨none, h1, h', e1, a, b⟩

theorem at0 {R : List Value} {z : Int} {v : Value} (h : R[z.toNat]? = some v) : (⟨R⟩ : Array Value).toList[0 + z.toNat * 1]? = some v := by
  rw [Nat.zero_add, Nat.mul_one]
  exact h

theorem brkU {b : Bool} {A B : Prop} (h1 : b = true → A) (h2 : b = false → B) : brk b A B := brk_of h1 h2

end
end Go.Proofs.YtokiakmpebjdfaaGreatDoor.V

namespace Go.Proofs.YtokiakmpebjdfaaGreatDoor.V
set_option linter.all false
open Go
noncomputable section

/-- The functions that are walked. -/
def walkM : Nat → Bool := fun g => match g with
  | 3 | 4 | 6 | 7 | 8 | 11 | 12 | 13 | 14 | 15 | 18 | 20 | 21 | 29 | 30 => true
  | _ => false
def mtM : FuncId → List Value → Nat := fun _ _ => 0

/-- Rows of no keys. -/
def RowsE (R : List Value) : Prop := ∀ x ∈ R, ∃ p, x = .slice p 0 0
theorem RowsE.at {R : List Value} (h : RowsE R) {i : Nat} (hi : i < R.length) : ∃ p, R[i]? = some (.slice p 0 0) := by
  obtain ⟨p, hp⟩ := h R[i] (List.getElem_mem hi)
  exact ⟨p, by rw [List.getElem?_eq_getElem hi, hp]⟩

section
variable {P : Program} {G : Nat} {ext : FuncId → Option Ext} {base : Orc}

theorem f21_ok (E : Alike P Tryz.prog base walkM) {d : Nat} {h : AH} {p : Option Addr} {c : Nat} {f : Value} (hd : 1 ≤ d) (hok : HOK h) :
    deepF P G ext 2199023255552 base mtM d 21 [.slice p 0 c, f] h = some (.int .i64 (-1), none) := by
  have u3:=U3 E;have s3:=S3 E
  have u9:=U9 E;have s9:=S9 E
  have u23:=U23 E;have s23:=S23 E
  have u51:=U51 E;have s51:=S51 E;have a51:=A51 E
  refine over_eq (by omega) rfl (E.no 21 _ _ rfl) rfl ((E.fn 21).trans Tryz.func21) rfl hok rfl ?_
  have hokl := hok.locked
  have hnl : h.locked.next = h.next := rfl
  have hll : h.locked.lock = h.next := rfl
  have hil : h.locked.imp = h.imp := rfl
  have hfll : h.locked.fl = h.fl := rfl
  conv => whnf
  refine ⟨by simp [Tryz.f21], ?_⟩
  repeat ((conv=>whnf);first|((with_reducible refine Exists.intro ?_ (Exists.intro ?_ (And.intro (a:=_=some (Blk.cells _ _)) ?_ ?_)));rotate_left 2;· (try dsimp only);(repeat first|with_reducible assumption|with_reducible exact uA (by assumption)|with_reducible exact nA (by assumption)|((with_reducible refine uN (by assumption) ?_ ?_);· omega)|((with_reducible refine nN (by assumption) ?_ ?_);· omega)))|((with_reducible refine Exists.intro ?_ (And.intro ?_ ?_));rotate_left;· first|with_reducible assumption|((conv=>lhs;arg 2;whnf);with_reducible assumption)|exact rfl)|((with_reducible refine And.intro (a:=AH.may _ _=true) ?_ ?_);· (try dsimp only);(repeat first|with_reducible assumption|((with_reducible refine New.mayNew (by assumption) (by assumption) ?_ ?_ ?_)<;>omega)|refine Upd.mayOf (by assumption) ?_|refine New.mayOf (by assumption) ?_|refine Ke.mayOf (by assumption) ?_))|((with_reducible refine And.intro (a:=szOf _ _=_) ?_ ?_);· refine Eq.trans (by assumption) ?_;kernel_rfl)|((with_reducible refine And.intro (a:=List.all _ _=true) ?_ ?_);· kernel_rfl)|((with_reducible refine And.intro (a:=_=_) ?_ ?_);· first|with_reducible assumption|rfl)|((with_reducible refine And.intro (a:=_≤_) ?_ ?_);· first|omega|exact sz_ok|exact Nat.le_of_ble_eq_true (by kernel_rfl))|((with_reducible refine And.intro (a:=_<_) ?_ ?_);· omega)|((with_reducible refine And.intro (a:=_∧_) ?_ ?_);· constructor<;>first|omega|(simp<;>omega))|(refine brk_true ?_ ?_;· first|rfl|(simp only [q1,q2,q3,q4,q7,q8,ne_eq,q5,q6];omega))|(refine brk_false ?_ ?_;· first|rfl|(simp only [q1,q2,q3,q4,q7,q8,ne_eq,q5,q6];omega))|(intro aa uu;(try dsimp only at uu);have okk:=uu.ok;have nxx:=uu.next;have lkk:=uu.lock;have imm:=uu.imp))
  try conv=>whnf
  refine .inr ⟨1, by omega, ?_⟩
  repeat ((conv=>whnf);first|((with_reducible refine Exists.intro ?_ (Exists.intro ?_ (And.intro (a:=_=some (Blk.cells _ _)) ?_ ?_)));rotate_left 2;· (try dsimp only);(repeat first|with_reducible assumption|with_reducible exact uA (by assumption)|with_reducible exact nA (by assumption)|((with_reducible refine uN (by assumption) ?_ ?_);· omega)|((with_reducible refine nN (by assumption) ?_ ?_);· omega)))|((with_reducible refine Exists.intro ?_ (And.intro ?_ ?_));rotate_left;· first|with_reducible assumption|((conv=>lhs;arg 2;whnf);with_reducible assumption)|exact rfl)|((with_reducible refine And.intro (a:=AH.may _ _=true) ?_ ?_);· (try dsimp only);(repeat first|with_reducible assumption|((with_reducible refine New.mayNew (by assumption) (by assumption) ?_ ?_ ?_)<;>omega)|refine Upd.mayOf (by assumption) ?_|refine New.mayOf (by assumption) ?_|refine Ke.mayOf (by assumption) ?_))|((with_reducible refine And.intro (a:=szOf _ _=_) ?_ ?_);· refine Eq.trans (by assumption) ?_;kernel_rfl)|((with_reducible refine And.intro (a:=List.all _ _=true) ?_ ?_);· kernel_rfl)|((with_reducible refine And.intro (a:=_=_) ?_ ?_);· first|with_reducible assumption|rfl)|((with_reducible refine And.intro (a:=_≤_) ?_ ?_);· first|omega|exact sz_ok|exact Nat.le_of_ble_eq_true (by kernel_rfl))|((with_reducible refine And.intro (a:=_<_) ?_ ?_);· omega)|((with_reducible refine And.intro (a:=_∧_) ?_ ?_);· constructor<;>first|omega|(simp<;>omega))|(refine brk_true ?_ ?_;· first|rfl|(simp only [q1,q2,q3,q4,q7,q8,ne_eq,q5,q6];omega))|(refine brk_false ?_ ?_;· first|rfl|(simp only [q1,q2,q3,q4,q7,q8,ne_eq,q5,q6];omega))|(intro aa uu;(try dsimp only at uu);have okk:=uu.ok;have nxx:=uu.next;have lkk:=uu.lock;have imm:=uu.imp))
  try conv=>whnf
  rfl

theorem f15_ok (E : Alike P Tryz.prog base walkM) {d : Nat} {h : AH} {p : Option Addr} {c : Nat} {f : Value} (hd : 2 ≤ d) (hok : HOK h) :
    deepF P G ext 2199023255552 base mtM d 15 [.slice p 0 c, f] h = some (.bool false, none) := by
  have u3:=U3 E;have s3:=S3 E
  have u9:=U9 E;have s9:=S9 E
  have u23:=U23 E;have s23:=S23 E
  have u51:=U51 E;have s51:=S51 E
  have u53:=U53 E;have s53:=S53 E
  refine over_eq (by omega) rfl (E.no 15 _ _ rfl) rfl ((E.fn 15).trans Tryz.func15) rfl hok rfl ?_
  have hokl := hok.locked
  have hnl : h.locked.next = h.next := rfl
  have hll : h.locked.lock = h.next := rfl
  have hil : h.locked.imp = h.imp := rfl
  have hfll : h.locked.fl = h.fl := rfl
  conv => whnf
  refine ⟨by simp [Tryz.f15], ?_⟩
  repeat ((conv=>whnf);first|((with_reducible refine Exists.intro ?_ (Exists.intro ?_ (And.intro (a:=_=some (Blk.cells _ _)) ?_ ?_)));rotate_left 2;· (try dsimp only);(repeat first|with_reducible assumption|with_reducible exact uA (by assumption)|with_reducible exact nA (by assumption)|((with_reducible refine uN (by assumption) ?_ ?_);· omega)|((with_reducible refine nN (by assumption) ?_ ?_);· omega)))|((with_reducible refine Exists.intro ?_ (And.intro ?_ ?_));rotate_left;· first|with_reducible assumption|((conv=>lhs;arg 2;whnf);with_reducible assumption)|exact rfl)|((with_reducible refine And.intro (a:=AH.may _ _=true) ?_ ?_);· (try dsimp only);(repeat first|with_reducible assumption|((with_reducible refine New.mayNew (by assumption) (by assumption) ?_ ?_ ?_)<;>omega)|refine Upd.mayOf (by assumption) ?_|refine New.mayOf (by assumption) ?_|refine Ke.mayOf (by assumption) ?_))|((with_reducible refine And.intro (a:=szOf _ _=_) ?_ ?_);· refine Eq.trans (by assumption) ?_;kernel_rfl)|((with_reducible refine And.intro (a:=List.all _ _=true) ?_ ?_);· kernel_rfl)|((with_reducible refine And.intro (a:=_=_) ?_ ?_);· first|with_reducible assumption|rfl)|((with_reducible refine And.intro (a:=_≤_) ?_ ?_);· first|omega|exact sz_ok|exact Nat.le_of_ble_eq_true (by kernel_rfl))|((with_reducible refine And.intro (a:=_<_) ?_ ?_);· omega)|((with_reducible refine And.intro (a:=_∧_) ?_ ?_);· constructor<;>first|omega|(simp<;>omega))|(refine brk_true ?_ ?_;· first|rfl|(simp only [q1,q2,q3,q4,q7,q8,ne_eq,q5,q6];omega))|(refine brk_false ?_ ?_;· first|rfl|(simp only [q1,q2,q3,q4,q7,q8,ne_eq,q5,q6];omega))|(intro aa uu;(try dsimp only at uu);have okk:=uu.ok;have nxx:=uu.next;have lkk:=uu.lock;have imm:=uu.imp))
  try conv=>whnf
  refine callB_pure ((E.fn 21).trans Tryz.func21) rfl ?_
  refine ⟨by assumption, _, (f21_ok E (by omega) (by assumption)), ?_⟩
  repeat ((conv=>whnf);first|((with_reducible refine Exists.intro ?_ (Exists.intro ?_ (And.intro (a:=_=some (Blk.cells _ _)) ?_ ?_)));rotate_left 2;· (try dsimp only);(repeat first|with_reducible assumption|with_reducible exact uA (by assumption)|with_reducible exact nA (by assumption)|((with_reducible refine uN (by assumption) ?_ ?_);· omega)|((with_reducible refine nN (by assumption) ?_ ?_);· omega)))|((with_reducible refine Exists.intro ?_ (And.intro ?_ ?_));rotate_left;· first|with_reducible assumption|((conv=>lhs;arg 2;whnf);with_reducible assumption)|exact rfl)|((with_reducible refine And.intro (a:=AH.may _ _=true) ?_ ?_);· (try dsimp only);(repeat first|with_reducible assumption|((with_reducible refine New.mayNew (by assumption) (by assumption) ?_ ?_ ?_)<;>omega)|refine Upd.mayOf (by assumption) ?_|refine New.mayOf (by assumption) ?_|refine Ke.mayOf (by assumption) ?_))|((with_reducible refine And.intro (a:=szOf _ _=_) ?_ ?_);· refine Eq.trans (by assumption) ?_;kernel_rfl)|((with_reducible refine And.intro (a:=List.all _ _=true) ?_ ?_);· kernel_rfl)|((with_reducible refine And.intro (a:=_=_) ?_ ?_);· first|with_reducible assumption|rfl)|((with_reducible refine And.intro (a:=_≤_) ?_ ?_);· first|omega|exact sz_ok|exact Nat.le_of_ble_eq_true (by kernel_rfl))|((with_reducible refine And.intro (a:=_<_) ?_ ?_);· omega)|((with_reducible refine And.intro (a:=_∧_) ?_ ?_);· constructor<;>first|omega|(simp<;>omega))|(refine brk_true ?_ ?_;· first|rfl|(simp only [q1,q2,q3,q4,q7,q8,ne_eq,q5,q6];omega))|(refine brk_false ?_ ?_;· first|rfl|(simp only [q1,q2,q3,q4,q7,q8,ne_eq,q5,q6];omega))|(intro aa uu;(try dsimp only at uu);have okk:=uu.ok;have nxx:=uu.next;have lkk:=uu.lock;have imm:=uu.imp))
  try conv=>whnf
  rfl

theorem f11_ok (E : Alike P Tryz.prog base walkM) {d : Nat} {h : AH} {p : Option Addr} {c : Nat} (hd : 3 ≤ d) (hok : HOK h) :
    deepF P G ext 2199023255552 base mtM d 11 [.slice p 0 c, .int .i64 0] h = some (.bool true, none) := by
  have u3:=U3 E;have s3:=S3 E
  have u4:=U4 E;have s4:=S4 E
  have u9:=U9 E;have s9:=S9 E
  have u23:=U23 E;have s23:=S23 E
  have u51:=U51 E;have s51:=S51 E
  have u53:=U53 E;have s53:=S53 E
  refine over_eq (by omega) rfl (E.no 11 _ _ rfl) rfl ((E.fn 11).trans Tryz.func11) rfl hok rfl ?_
  have hokl := hok.locked
  have hnl : h.locked.next = h.next := rfl
  have hll : h.locked.lock = h.next := rfl
  have hil : h.locked.imp = h.imp := rfl
  have hfll : h.locked.fl = h.fl := rfl
  conv => whnf
  refine ⟨by simp [Tryz.f11], ?_⟩
  repeat ((conv=>whnf);first|((with_reducible refine Exists.intro ?_ (Exists.intro ?_ (And.intro (a:=_=some (Blk.cells _ _)) ?_ ?_)));rotate_left 2;· (try dsimp only);(repeat first|with_reducible assumption|with_reducible exact uA (by assumption)|with_reducible exact nA (by assumption)|((with_reducible refine uN (by assumption) ?_ ?_);· omega)|((with_reducible refine nN (by assumption) ?_ ?_);· omega)))|((with_reducible refine Exists.intro ?_ (And.intro ?_ ?_));rotate_left;· first|with_reducible assumption|((conv=>lhs;arg 2;whnf);with_reducible assumption)|exact rfl)|((with_reducible refine And.intro (a:=AH.may _ _=true) ?_ ?_);· (try dsimp only);(repeat first|with_reducible assumption|((with_reducible refine New.mayNew (by assumption) (by assumption) ?_ ?_ ?_)<;>omega)|refine Upd.mayOf (by assumption) ?_|refine New.mayOf (by assumption) ?_|refine Ke.mayOf (by assumption) ?_))|((with_reducible refine And.intro (a:=szOf _ _=_) ?_ ?_);· refine Eq.trans (by assumption) ?_;kernel_rfl)|((with_reducible refine And.intro (a:=List.all _ _=true) ?_ ?_);· kernel_rfl)|((with_reducible refine And.intro (a:=_=_) ?_ ?_);· first|with_reducible assumption|rfl)|((with_reducible refine And.intro (a:=_≤_) ?_ ?_);· first|omega|exact sz_ok|exact Nat.le_of_ble_eq_true (by kernel_rfl))|((with_reducible refine And.intro (a:=_<_) ?_ ?_);· omega)|((with_reducible refine And.intro (a:=_∧_) ?_ ?_);· constructor<;>first|omega|(simp<;>omega))|(refine brk_true ?_ ?_;· first|rfl|(simp only [q1,q2,q3,q4,q7,q8,ne_eq,q5,q6];omega))|(refine brk_false ?_ ?_;· first|rfl|(simp only [q1,q2,q3,q4,q7,q8,ne_eq,q5,q6];omega))|(intro aa uu;(try dsimp only at uu);have okk:=uu.ok;have nxx:=uu.next;have lkk:=uu.lock;have imm:=uu.imp))
  try conv=>whnf
  refine callB_pure ((E.fn 15).trans Tryz.func15) rfl ?_
  refine ⟨by assumption, _, (f15_ok E (by omega) (by assumption)), ?_⟩
  repeat ((conv=>whnf);first|((with_reducible refine Exists.intro ?_ (Exists.intro ?_ (And.intro (a:=_=some (Blk.cells _ _)) ?_ ?_)));rotate_left 2;· (try dsimp only);(repeat first|with_reducible assumption|with_reducible exact uA (by assumption)|with_reducible exact nA (by assumption)|((with_reducible refine uN (by assumption) ?_ ?_);· omega)|((with_reducible refine nN (by assumption) ?_ ?_);· omega)))|((with_reducible refine Exists.intro ?_ (And.intro ?_ ?_));rotate_left;· first|with_reducible assumption|((conv=>lhs;arg 2;whnf);with_reducible assumption)|exact rfl)|((with_reducible refine And.intro (a:=AH.may _ _=true) ?_ ?_);· (try dsimp only);(repeat first|with_reducible assumption|((with_reducible refine New.mayNew (by assumption) (by assumption) ?_ ?_ ?_)<;>omega)|refine Upd.mayOf (by assumption) ?_|refine New.mayOf (by assumption) ?_|refine Ke.mayOf (by assumption) ?_))|((with_reducible refine And.intro (a:=szOf _ _=_) ?_ ?_);· refine Eq.trans (by assumption) ?_;kernel_rfl)|((with_reducible refine And.intro (a:=List.all _ _=true) ?_ ?_);· kernel_rfl)|((with_reducible refine And.intro (a:=_=_) ?_ ?_);· first|with_reducible assumption|rfl)|((with_reducible refine And.intro (a:=_≤_) ?_ ?_);· first|omega|exact sz_ok|exact Nat.le_of_ble_eq_true (by kernel_rfl))|((with_reducible refine And.intro (a:=_<_) ?_ ?_);· omega)|((with_reducible refine And.intro (a:=_∧_) ?_ ?_);· constructor<;>first|omega|(simp<;>omega))|(refine brk_true ?_ ?_;· first|rfl|(simp only [q1,q2,q3,q4,q7,q8,ne_eq,q5,q6];omega))|(refine brk_false ?_ ?_;· first|rfl|(simp only [q1,q2,q3,q4,q7,q8,ne_eq,q5,q6];omega))|(intro aa uu;(try dsimp only at uu);have okk:=uu.ok;have nxx:=uu.next;have lkk:=uu.lock;have imm:=uu.imp))
  try conv=>whnf
  rfl

theorem f12_ok (E : Alike P Tryz.prog base walkM) {d : Nat} {h : AH} (hd : 1 ≤ d) (hok : HOK h) (hn : h.next < 16777216) :
    ∃ v h', deepF P G ext 2199023255552 base mtM d 12 [.slice none 0 0] h = some (v, some h') ∧ HOK h' ∧ (v = .func (.func 18) #[] #[pt h.next] ∧ h'.get h.next = some (.cells #[.slice none 0 0] (tyOf P 32)) ∧ h'.next = h.next + 1 ∧ h'.lock = h.lock ∧ h'.imp = h.imp ∧ h'.fl = h.fl ∧ ∀ j, j < h.next → h'.get j = h.get j) := by
  have u4:=U4 E;have s4:=S4 E
  have u32:=U32 E;have s32:=S32 E
  have u42:=U42 E;have s42:=S42 E
  have u44:=U44 E;have s44:=S44 E
  refine over_to (by omega) rfl (E.no 12 _ _ rfl) rfl ((E.fn 12).trans Tryz.func12) rfl hok ?_
  have hokl := hok.locked
  have hnl : h.locked.next = h.next := rfl
  have hll : h.locked.lock = h.next := rfl
  have hil : h.locked.imp = h.imp := rfl
  have hfll : h.locked.fl = h.fl := rfl
  conv => whnf
  refine ⟨by simp [Tryz.f12], ?_⟩
  repeat ((conv=>whnf);first|((with_reducible refine Exists.intro ?_ (Exists.intro ?_ (And.intro (a:=_=some (Blk.cells _ _)) ?_ ?_)));rotate_left 2;· (try dsimp only);(repeat first|with_reducible assumption|with_reducible exact uA (by assumption)|with_reducible exact nA (by assumption)|((with_reducible refine uN (by assumption) ?_ ?_);· omega)|((with_reducible refine nN (by assumption) ?_ ?_);· omega)))|((with_reducible refine Exists.intro ?_ (And.intro ?_ ?_));rotate_left;· first|with_reducible assumption|((conv=>lhs;arg 2;whnf);with_reducible assumption)|exact rfl)|((with_reducible refine And.intro (a:=AH.may _ _=true) ?_ ?_);· (try dsimp only);(repeat first|with_reducible assumption|((with_reducible refine New.mayNew (by assumption) (by assumption) ?_ ?_ ?_)<;>omega)|refine Upd.mayOf (by assumption) ?_|refine New.mayOf (by assumption) ?_|refine Ke.mayOf (by assumption) ?_))|((with_reducible refine And.intro (a:=szOf _ _=_) ?_ ?_);· refine Eq.trans (by assumption) ?_;kernel_rfl)|((with_reducible refine And.intro (a:=List.all _ _=true) ?_ ?_);· kernel_rfl)|((with_reducible refine And.intro (a:=_=_) ?_ ?_);· first|with_reducible assumption|rfl)|((with_reducible refine And.intro (a:=_≤_) ?_ ?_);· first|omega|exact sz_ok|exact Nat.le_of_ble_eq_true (by kernel_rfl))|((with_reducible refine And.intro (a:=_<_) ?_ ?_);· omega)|((with_reducible refine And.intro (a:=_∧_) ?_ ?_);· constructor<;>first|omega|(simp<;>omega))|(refine brk_true ?_ ?_;· first|rfl|(simp only [q1,q2,q3,q4,q7,q8,ne_eq,q5,q6];omega))|(refine brk_false ?_ ?_;· first|rfl|(simp only [q1,q2,q3,q4,q7,q8,ne_eq,q5,q6];omega))|(intro aa uu;(try dsimp only at uu);have okk:=uu.ok;have nxx:=uu.next;have lkk:=uu.lock;have imm:=uu.imp))
  try conv=>whnf
  have w1 : ∀ j, j < h.next → aa.get j = h.get j := (fun j hj => by repeat first|((with_reducible refine uN (by assumption) ?_ ?_);· omega)|((with_reducible refine nN (by assumption) ?_ ?_);· omega)|exact rfl)
  have w2 : aa.fl = h.fl := (by repeat first|with_reducible assumption|refine Upd.flOf (by assumption) ?_|refine New.flOf (by assumption) ?_|refine Ke.flOf (by assumption) ?_|exact hfl|exact rfl)
  exact ⟨by show aa.get h.locked.next = _; exact uu.at, by show aa.next = _; omega, rfl, by show aa.imp = _; omega, w2, w1⟩

theorem f18_ok (E : Alike P Tryz.prog base walkM) {d : Nat} {h : AH} {u v : Value} {w0 : Nat} {g : Gw} (hd : 1 ≤ d) (hok : HOK h) (hq : h.get w0 = some (.cells #[.slice none 0 0] g)) :
    deepF P G ext 2199023255552 base mtM d 18 [u, v, pt w0] h = some (.int .i64 0, none) := by
  have hq : h.locked.get w0 = some (.cells #[.slice none 0 0] g) := hq
  have u3:=U3 E;have s3:=S3 E
  have u4:=U4 E;have s4:=S4 E
  have u9:=U9 E;have s9:=S9 E
  have u23:=U23 E;have s23:=S23 E
  have u32:=U32 E;have s32:=S32 E;have a32:=A32 E
  have u42:=U42 E;have s42:=S42 E
  have u44:=U44 E;have s44:=S44 E;have a44:=A44 E;have e44:=Z44 E
  have u51:=U51 E;have s51:=S51 E;have a51:=A51 E
  have u122:=U122 E;have s122:=S122 E
  refine over_eq (by omega) rfl (E.no 18 _ _ rfl) rfl ((E.fn 18).trans Tryz.func18) rfl hok rfl ?_
  have hokl := hok.locked
  have hnl : h.locked.next = h.next := rfl
  have hll : h.locked.lock = h.next := rfl
  have hil : h.locked.imp = h.imp := rfl
  have hfll : h.locked.fl = h.fl := rfl
  conv => whnf
  refine ⟨by simp [Tryz.f18], ?_⟩
  repeat ((conv=>whnf);first|((with_reducible refine Exists.intro ?_ (Exists.intro ?_ (And.intro (a:=_=some (Blk.cells _ _)) ?_ ?_)));rotate_left 2;· (try dsimp only);(repeat first|with_reducible assumption|with_reducible exact uA (by assumption)|with_reducible exact nA (by assumption)|((with_reducible refine uN (by assumption) ?_ ?_);· omega)|((with_reducible refine nN (by assumption) ?_ ?_);· omega)))|((with_reducible refine Exists.intro ?_ (And.intro ?_ ?_));rotate_left;· first|with_reducible assumption|((conv=>lhs;arg 2;whnf);with_reducible assumption)|exact rfl)|((with_reducible refine And.intro (a:=AH.may _ _=true) ?_ ?_);· (try dsimp only);(repeat first|with_reducible assumption|((with_reducible refine New.mayNew (by assumption) (by assumption) ?_ ?_ ?_)<;>omega)|refine Upd.mayOf (by assumption) ?_|refine New.mayOf (by assumption) ?_|refine Ke.mayOf (by assumption) ?_))|((with_reducible refine And.intro (a:=szOf _ _=_) ?_ ?_);· refine Eq.trans (by assumption) ?_;kernel_rfl)|((with_reducible refine And.intro (a:=List.all _ _=true) ?_ ?_);· kernel_rfl)|((with_reducible refine And.intro (a:=_=_) ?_ ?_);· first|with_reducible assumption|rfl)|((with_reducible refine And.intro (a:=_≤_) ?_ ?_);· first|omega|exact sz_ok|exact Nat.le_of_ble_eq_true (by kernel_rfl))|((with_reducible refine And.intro (a:=_<_) ?_ ?_);· omega)|((with_reducible refine And.intro (a:=_∧_) ?_ ?_);· constructor<;>first|omega|(simp<;>omega))|(refine brk_true ?_ ?_;· first|rfl|(simp only [q1,q2,q3,q4,q7,q8,ne_eq,q5,q6];omega))|(refine brk_false ?_ ?_;· first|rfl|(simp only [q1,q2,q3,q4,q7,q8,ne_eq,q5,q6];omega))|(intro aa uu;(try dsimp only at uu);have okk:=uu.ok;have nxx:=uu.next;have lkk:=uu.lock;have imm:=uu.imp))
  try conv=>whnf
  refine .inr ⟨1, by omega, ?_⟩
  repeat ((conv=>whnf);first|((with_reducible refine Exists.intro ?_ (Exists.intro ?_ (And.intro (a:=_=some (Blk.cells _ _)) ?_ ?_)));rotate_left 2;· (try dsimp only);(repeat first|with_reducible assumption|with_reducible exact uA (by assumption)|with_reducible exact nA (by assumption)|((with_reducible refine uN (by assumption) ?_ ?_);· omega)|((with_reducible refine nN (by assumption) ?_ ?_);· omega)))|((with_reducible refine Exists.intro ?_ (And.intro ?_ ?_));rotate_left;· first|with_reducible assumption|((conv=>lhs;arg 2;whnf);with_reducible assumption)|exact rfl)|((with_reducible refine And.intro (a:=AH.may _ _=true) ?_ ?_);· (try dsimp only);(repeat first|with_reducible assumption|((with_reducible refine New.mayNew (by assumption) (by assumption) ?_ ?_ ?_)<;>omega)|refine Upd.mayOf (by assumption) ?_|refine New.mayOf (by assumption) ?_|refine Ke.mayOf (by assumption) ?_))|((with_reducible refine And.intro (a:=szOf _ _=_) ?_ ?_);· refine Eq.trans (by assumption) ?_;kernel_rfl)|((with_reducible refine And.intro (a:=List.all _ _=true) ?_ ?_);· kernel_rfl)|((with_reducible refine And.intro (a:=_=_) ?_ ?_);· first|with_reducible assumption|rfl)|((with_reducible refine And.intro (a:=_≤_) ?_ ?_);· first|omega|exact sz_ok|exact Nat.le_of_ble_eq_true (by kernel_rfl))|((with_reducible refine And.intro (a:=_<_) ?_ ?_);· omega)|((with_reducible refine And.intro (a:=_∧_) ?_ ?_);· constructor<;>first|omega|(simp<;>omega))|(refine brk_true ?_ ?_;· first|rfl|(simp only [q1,q2,q3,q4,q7,q8,ne_eq,q5,q6];omega))|(refine brk_false ?_ ?_;· first|rfl|(simp only [q1,q2,q3,q4,q7,q8,ne_eq,q5,q6];omega))|(intro aa uu;(try dsimp only at uu);have okk:=uu.ok;have nxx:=uu.next;have lkk:=uu.lock;have imm:=uu.imp))
  try conv=>whnf
  rfl

theorem f8_ok (E : Alike P Tryz.prog base walkM) {d : Nat} {h : AH} {p w0 : Option Addr} {c1 c2 : Nat} (hd : 4 ≤ d) (hok : HOK h) (hn : h.next + 10 < 16777216) :
    deepF P G ext 2199023255552 base mtM d 8 [.slice p 0 c1, .slice w0 0 c2, .slice none 0 0] h = some (.tuple #[.int .i64 0, .int .i64 0], none) := by
  have u3:=U3 E;have s3:=S3 E
  have u4:=U4 E;have s4:=S4 E
  have u9:=U9 E;have s9:=S9 E
  have u23:=U23 E;have s23:=S23 E
  have u32:=U32 E;have s32:=S32 E
  have u42:=U42 E;have s42:=S42 E
  have u44:=U44 E;have s44:=S44 E
  have u51:=U51 E;have s51:=S51 E
  refine over_eq (by omega) rfl (E.no 8 _ _ rfl) rfl ((E.fn 8).trans Tryz.func8) rfl hok rfl ?_
  have hokl := hok.locked
  have hnl : h.locked.next = h.next := rfl
  have hll : h.locked.lock = h.next := rfl
  have hil : h.locked.imp = h.imp := rfl
  have hfll : h.locked.fl = h.fl := rfl
  conv => whnf
  refine ⟨by simp [Tryz.f8], ?_⟩
  repeat ((conv=>whnf);first|((with_reducible refine Exists.intro ?_ (Exists.intro ?_ (And.intro (a:=_=some (Blk.cells _ _)) ?_ ?_)));rotate_left 2;· (try dsimp only);(repeat first|with_reducible assumption|with_reducible exact uA (by assumption)|with_reducible exact nA (by assumption)|((with_reducible refine uN (by assumption) ?_ ?_);· omega)|((with_reducible refine nN (by assumption) ?_ ?_);· omega)))|((with_reducible refine Exists.intro ?_ (And.intro ?_ ?_));rotate_left;· first|with_reducible assumption|((conv=>lhs;arg 2;whnf);with_reducible assumption)|exact rfl)|((with_reducible refine And.intro (a:=AH.may _ _=true) ?_ ?_);· (try dsimp only);(repeat first|with_reducible assumption|((with_reducible refine New.mayNew (by assumption) (by assumption) ?_ ?_ ?_)<;>omega)|refine Upd.mayOf (by assumption) ?_|refine New.mayOf (by assumption) ?_|refine Ke.mayOf (by assumption) ?_))|((with_reducible refine And.intro (a:=szOf _ _=_) ?_ ?_);· refine Eq.trans (by assumption) ?_;kernel_rfl)|((with_reducible refine And.intro (a:=List.all _ _=true) ?_ ?_);· kernel_rfl)|((with_reducible refine And.intro (a:=_=_) ?_ ?_);· first|with_reducible assumption|rfl)|((with_reducible refine And.intro (a:=_≤_) ?_ ?_);· first|omega|exact sz_ok|exact Nat.le_of_ble_eq_true (by kernel_rfl))|((with_reducible refine And.intro (a:=_<_) ?_ ?_);· omega)|((with_reducible refine And.intro (a:=_∧_) ?_ ?_);· constructor<;>first|omega|(simp<;>omega))|(refine brk_true ?_ ?_;· first|rfl|(simp only [q1,q2,q3,q4,q7,q8,ne_eq,q5,q6];omega))|(refine brk_false ?_ ?_;· first|rfl|(simp only [q1,q2,q3,q4,q7,q8,ne_eq,q5,q6];omega))|(intro aa uu;(try dsimp only at uu);have okk:=uu.ok;have nxx:=uu.next;have lkk:=uu.lock;have imm:=uu.imp))
  try conv=>whnf
  refine callB_pure ((E.fn 11).trans Tryz.func11) rfl ?_
  refine ⟨by assumption, _, (f11_ok E (by omega) (by assumption)), ?_⟩
  repeat ((conv=>whnf);first|((with_reducible refine Exists.intro ?_ (Exists.intro ?_ (And.intro (a:=_=some (Blk.cells _ _)) ?_ ?_)));rotate_left 2;· (try dsimp only);(repeat first|with_reducible assumption|with_reducible exact uA (by assumption)|with_reducible exact nA (by assumption)|((with_reducible refine uN (by assumption) ?_ ?_);· omega)|((with_reducible refine nN (by assumption) ?_ ?_);· omega)))|((with_reducible refine Exists.intro ?_ (And.intro ?_ ?_));rotate_left;· first|with_reducible assumption|((conv=>lhs;arg 2;whnf);with_reducible assumption)|exact rfl)|((with_reducible refine And.intro (a:=AH.may _ _=true) ?_ ?_);· (try dsimp only);(repeat first|with_reducible assumption|((with_reducible refine New.mayNew (by assumption) (by assumption) ?_ ?_ ?_)<;>omega)|refine Upd.mayOf (by assumption) ?_|refine New.mayOf (by assumption) ?_|refine Ke.mayOf (by assumption) ?_))|((with_reducible refine And.intro (a:=szOf _ _=_) ?_ ?_);· refine Eq.trans (by assumption) ?_;kernel_rfl)|((with_reducible refine And.intro (a:=List.all _ _=true) ?_ ?_);· kernel_rfl)|((with_reducible refine And.intro (a:=_=_) ?_ ?_);· first|with_reducible assumption|rfl)|((with_reducible refine And.intro (a:=_≤_) ?_ ?_);· first|omega|exact sz_ok|exact Nat.le_of_ble_eq_true (by kernel_rfl))|((with_reducible refine And.intro (a:=_<_) ?_ ?_);· omega)|((with_reducible refine And.intro (a:=_∧_) ?_ ?_);· constructor<;>first|omega|(simp<;>omega))|(refine brk_true ?_ ?_;· first|rfl|(simp only [q1,q2,q3,q4,q7,q8,ne_eq,q5,q6];omega))|(refine brk_false ?_ ?_;· first|rfl|(simp only [q1,q2,q3,q4,q7,q8,ne_eq,q5,q6];omega))|(intro aa uu;(try dsimp only at uu);have okk:=uu.ok;have nxx:=uu.next;have lkk:=uu.lock;have imm:=uu.imp))
  try conv=>whnf
  refine callB_pure ((E.fn 11).trans Tryz.func11) rfl ?_
  refine ⟨by assumption, _, (f11_ok E (by omega) (by assumption)), ?_⟩
  repeat ((conv=>whnf);first|((with_reducible refine Exists.intro ?_ (Exists.intro ?_ (And.intro (a:=_=some (Blk.cells _ _)) ?_ ?_)));rotate_left 2;· (try dsimp only);(repeat first|with_reducible assumption|with_reducible exact uA (by assumption)|with_reducible exact nA (by assumption)|((with_reducible refine uN (by assumption) ?_ ?_);· omega)|((with_reducible refine nN (by assumption) ?_ ?_);· omega)))|((with_reducible refine Exists.intro ?_ (And.intro ?_ ?_));rotate_left;· first|with_reducible assumption|((conv=>lhs;arg 2;whnf);with_reducible assumption)|exact rfl)|((with_reducible refine And.intro (a:=AH.may _ _=true) ?_ ?_);· (try dsimp only);(repeat first|with_reducible assumption|((with_reducible refine New.mayNew (by assumption) (by assumption) ?_ ?_ ?_)<;>omega)|refine Upd.mayOf (by assumption) ?_|refine New.mayOf (by assumption) ?_|refine Ke.mayOf (by assumption) ?_))|((with_reducible refine And.intro (a:=szOf _ _=_) ?_ ?_);· refine Eq.trans (by assumption) ?_;kernel_rfl)|((with_reducible refine And.intro (a:=List.all _ _=true) ?_ ?_);· kernel_rfl)|((with_reducible refine And.intro (a:=_=_) ?_ ?_);· first|with_reducible assumption|rfl)|((with_reducible refine And.intro (a:=_≤_) ?_ ?_);· first|omega|exact sz_ok|exact Nat.le_of_ble_eq_true (by kernel_rfl))|((with_reducible refine And.intro (a:=_<_) ?_ ?_);· omega)|((with_reducible refine And.intro (a:=_∧_) ?_ ?_);· constructor<;>first|omega|(simp<;>omega))|(refine brk_true ?_ ?_;· first|rfl|(simp only [q1,q2,q3,q4,q7,q8,ne_eq,q5,q6];omega))|(refine brk_false ?_ ?_;· first|rfl|(simp only [q1,q2,q3,q4,q7,q8,ne_eq,q5,q6];omega))|(intro aa uu;(try dsimp only at uu);have okk:=uu.ok;have nxx:=uu.next;have lkk:=uu.lock;have imm:=uu.imp))
  try conv=>whnf
  refine callB_heap ((E.fn 12).trans Tryz.func12) rfl ?_
  refine ⟨_, (f12_ok E (by omega) (by assumption) (by omega)), ?_⟩
  rintro v h2 hok2 ⟨rfl, a1, a2, a3, a4, a5, a6⟩
  repeat ((conv=>whnf);first|((with_reducible refine Exists.intro ?_ (Exists.intro ?_ (And.intro (a:=_=some (Blk.cells _ _)) ?_ ?_)));rotate_left 2;· (try dsimp only);(repeat first|with_reducible assumption|with_reducible exact uA (by assumption)|with_reducible exact nA (by assumption)|((with_reducible refine uN (by assumption) ?_ ?_);· omega)|((with_reducible refine nN (by assumption) ?_ ?_);· omega)))|((with_reducible refine Exists.intro ?_ (And.intro ?_ ?_));rotate_left;· first|with_reducible assumption|((conv=>lhs;arg 2;whnf);with_reducible assumption)|exact rfl)|((with_reducible refine And.intro (a:=AH.may _ _=true) ?_ ?_);· (try dsimp only);(repeat first|with_reducible assumption|((with_reducible refine New.mayNew (by assumption) (by assumption) ?_ ?_ ?_)<;>omega)|refine Upd.mayOf (by assumption) ?_|refine New.mayOf (by assumption) ?_|refine Ke.mayOf (by assumption) ?_))|((with_reducible refine And.intro (a:=szOf _ _=_) ?_ ?_);· refine Eq.trans (by assumption) ?_;kernel_rfl)|((with_reducible refine And.intro (a:=List.all _ _=true) ?_ ?_);· kernel_rfl)|((with_reducible refine And.intro (a:=_=_) ?_ ?_);· first|with_reducible assumption|rfl)|((with_reducible refine And.intro (a:=_≤_) ?_ ?_);· first|omega|exact sz_ok|exact Nat.le_of_ble_eq_true (by kernel_rfl))|((with_reducible refine And.intro (a:=_<_) ?_ ?_);· omega)|((with_reducible refine And.intro (a:=_∧_) ?_ ?_);· constructor<;>first|omega|(simp<;>omega))|(refine brk_true ?_ ?_;· first|rfl|(simp only [q1,q2,q3,q4,q7,q8,ne_eq,q5,q6];omega))|(refine brk_false ?_ ?_;· first|rfl|(simp only [q1,q2,q3,q4,q7,q8,ne_eq,q5,q6];omega))|(intro aa uu;(try dsimp only at uu);have okk:=uu.ok;have nxx:=uu.next;have lkk:=uu.lock;have imm:=uu.imp))
  try conv=>whnf
  refine callB_pure ((E.fn 18).trans Tryz.func18) rfl ?_
  refine ⟨by assumption, _, (f18_ok E (by omega) (by assumption) (by assumption)), ?_⟩
  repeat ((conv=>whnf);first|((with_reducible refine Exists.intro ?_ (Exists.intro ?_ (And.intro (a:=_=some (Blk.cells _ _)) ?_ ?_)));rotate_left 2;· (try dsimp only);(repeat first|with_reducible assumption|with_reducible exact uA (by assumption)|with_reducible exact nA (by assumption)|((with_reducible refine uN (by assumption) ?_ ?_);· omega)|((with_reducible refine nN (by assumption) ?_ ?_);· omega)))|((with_reducible refine Exists.intro ?_ (And.intro ?_ ?_));rotate_left;· first|with_reducible assumption|((conv=>lhs;arg 2;whnf);with_reducible assumption)|exact rfl)|((with_reducible refine And.intro (a:=AH.may _ _=true) ?_ ?_);· (try dsimp only);(repeat first|with_reducible assumption|((with_reducible refine New.mayNew (by assumption) (by assumption) ?_ ?_ ?_)<;>omega)|refine Upd.mayOf (by assumption) ?_|refine New.mayOf (by assumption) ?_|refine Ke.mayOf (by assumption) ?_))|((with_reducible refine And.intro (a:=szOf _ _=_) ?_ ?_);· refine Eq.trans (by assumption) ?_;kernel_rfl)|((with_reducible refine And.intro (a:=List.all _ _=true) ?_ ?_);· kernel_rfl)|((with_reducible refine And.intro (a:=_=_) ?_ ?_);· first|with_reducible assumption|rfl)|((with_reducible refine And.intro (a:=_≤_) ?_ ?_);· first|omega|exact sz_ok|exact Nat.le_of_ble_eq_true (by kernel_rfl))|((with_reducible refine And.intro (a:=_<_) ?_ ?_);· omega)|((with_reducible refine And.intro (a:=_∧_) ?_ ?_);· constructor<;>first|omega|(simp<;>omega))|(refine brk_true ?_ ?_;· first|rfl|(simp only [q1,q2,q3,q4,q7,q8,ne_eq,q5,q6];omega))|(refine brk_false ?_ ?_;· first|rfl|(simp only [q1,q2,q3,q4,q7,q8,ne_eq,q5,q6];omega))|(intro aa uu;(try dsimp only at uu);have okk:=uu.ok;have nxx:=uu.next;have lkk:=uu.lock;have imm:=uu.imp))
  try conv=>whnf
  rfl

/-- Rows in memory, and a function that compares them. -/
theorem f7_ok (E : Alike P Tryz.prog base walkM) {d a b br w2 w3 T : Nat} {h : AH} {R : List Value} {gr g2 g3 : Gw} (hd : 5 ≤ d) (hok : HOK h) (hn : h.next + 10 < 16777216)
    (h2 : h.get w2 = some (.cells #[sl br T] g2)) (h3 : h.get w3 = some (.cells #[.slice none 0 0] g3)) (hb : h.get br = some (.cells ⟨R⟩ gr)) (hR : RowsE R) (hT : R.length = T) (ha : a < T) (hbT : b < T) :
    deepF P G ext 2199023255552 base mtM d 7 [.int .i64 a, .int .i64 b, pt w2, pt w3] h = some (.int .i64 0, none) := by
  obtain ⟨p1, e1⟩ := hR.at (i := a) (by omega)
  obtain ⟨p2, e2⟩ := hR.at (i := b) (by omega)
  have h2 : h.locked.locked.get w2 = some (.cells #[sl br T] g2) := h2
  have h3 : h.locked.locked.get w3 = some (.cells #[.slice none 0 0] g3) := h3
  have hb : h.locked.locked.get br = some (.cells ⟨R⟩ gr) := hb
  have hnll : h.locked.locked.next = h.next := rfl
  have u3:=U3 E;have s3:=S3 E
  have u4:=U4 E;have s4:=S4 E
  have u9:=U9 E;have s9:=S9 E
  have u22:=U22 E;have s22:=S22 E;have a22:=A22 E
  have u23:=U23 E;have s23:=S23 E;have a23:=A23 E
  have u32:=U32 E;have s32:=S32 E;have a32:=A32 E
  have u42:=U42 E;have s42:=S42 E
  have u44:=U44 E;have s44:=S44 E
  have u51:=U51 E;have s51:=S51 E
  refine over_eq (by omega) rfl (E.no 7 _ _ rfl) rfl ((E.fn 7).trans Tryz.func7) rfl hok rfl ?_
  have hokl := hok.locked
  have hnl : h.locked.next = h.next := rfl
  have hll : h.locked.lock = h.next := rfl
  have hil : h.locked.imp = h.imp := rfl
  have hfll : h.locked.fl = h.fl := rfl
  conv => whnf
  refine ⟨by simp [Tryz.f7], ?_⟩
  repeat ((conv=>whnf);first|((with_reducible refine Exists.intro ?_ (Exists.intro ?_ (And.intro (a:=_=some (Blk.cells _ _)) ?_ ?_)));rotate_left 2;· (try dsimp only [List.getLast_singleton, List.getLast_cons_cons, List.cons_append, List.append_eq, List.nil_append]);(repeat first|with_reducible assumption|with_reducible exact uA (by assumption)|with_reducible exact nA (by assumption)|((with_reducible refine uN (by assumption) ?_ ?_);· omega)|((with_reducible refine nN (by assumption) ?_ ?_);· omega)))|((with_reducible refine Exists.intro ?_ (And.intro ?_ ?_));rotate_left;· first|with_reducible assumption|((conv=>lhs;arg 2;whnf);with_reducible assumption)|exact rfl)|((with_reducible refine And.intro (a:=AH.may _ _=true) ?_ ?_);· (try dsimp only);(repeat first|with_reducible assumption|((with_reducible refine New.mayNew (by assumption) (by assumption) ?_ ?_ ?_)<;>omega)|refine Upd.mayOf (by assumption) ?_|refine New.mayOf (by assumption) ?_|refine Ke.mayOf (by assumption) ?_))|((with_reducible refine And.intro (a:=szOf _ _=_) ?_ ?_);· refine Eq.trans (by assumption) ?_;kernel_rfl)|((with_reducible refine And.intro (a:=List.all _ _=true) ?_ ?_);· kernel_rfl)|((with_reducible refine And.intro (a:=_=_) ?_ ?_);· first|with_reducible assumption|rfl|exact sameL_int)|((with_reducible refine And.intro (a:=_≤_) ?_ ?_);· first|omega|exact sz_ok|exact Nat.le_of_ble_eq_true (by kernel_rfl))|((with_reducible refine And.intro (a:=_<_) ?_ ?_);· omega)|((with_reducible refine And.intro (a:=_∧_) ?_ ?_);· constructor<;>first|omega|(simp<;>omega))|(refine brk_true ?_ ?_;· first|rfl|(simp only [q1,q2,q3,q4,q7,q8,ne_eq,q5,q6];omega))|(refine brk_false ?_ ?_;· first|rfl|(simp only [q1,q2,q3,q4,q7,q8,ne_eq,q5,q6];omega))|(intro aa uu;(try dsimp only at uu);have okk:=uu.ok;have nxx:=uu.next;have lkk:=uu.lock;have imm:=uu.imp))
  try conv=>whnf
  refine ⟨_, at0 (z := (a : Int)) e1, ?_⟩
  repeat ((conv=>whnf);first|((with_reducible refine Exists.intro ?_ (Exists.intro ?_ (And.intro (a:=_=some (Blk.cells _ _)) ?_ ?_)));rotate_left 2;· (try dsimp only [List.getLast_singleton, List.getLast_cons_cons, List.cons_append, List.append_eq, List.nil_append]);(repeat first|with_reducible assumption|with_reducible exact uA (by assumption)|with_reducible exact nA (by assumption)|((with_reducible refine uN (by assumption) ?_ ?_);· omega)|((with_reducible refine nN (by assumption) ?_ ?_);· omega)))|((with_reducible refine Exists.intro ?_ (And.intro ?_ ?_));rotate_left;· first|with_reducible assumption|((conv=>lhs;arg 2;whnf);with_reducible assumption)|exact rfl)|((with_reducible refine And.intro (a:=AH.may _ _=true) ?_ ?_);· (try dsimp only);(repeat first|with_reducible assumption|((with_reducible refine New.mayNew (by assumption) (by assumption) ?_ ?_ ?_)<;>omega)|refine Upd.mayOf (by assumption) ?_|refine New.mayOf (by assumption) ?_|refine Ke.mayOf (by assumption) ?_))|((with_reducible refine And.intro (a:=szOf _ _=_) ?_ ?_);· refine Eq.trans (by assumption) ?_;kernel_rfl)|((with_reducible refine And.intro (a:=List.all _ _=true) ?_ ?_);· kernel_rfl)|((with_reducible refine And.intro (a:=_=_) ?_ ?_);· first|with_reducible assumption|rfl|exact sameL_int)|((with_reducible refine And.intro (a:=_≤_) ?_ ?_);· first|omega|exact sz_ok|exact Nat.le_of_ble_eq_true (by kernel_rfl))|((with_reducible refine And.intro (a:=_<_) ?_ ?_);· omega)|((with_reducible refine And.intro (a:=_∧_) ?_ ?_);· constructor<;>first|omega|(simp<;>omega))|(refine brk_true ?_ ?_;· first|rfl|(simp only [q1,q2,q3,q4,q7,q8,ne_eq,q5,q6];omega))|(refine brk_false ?_ ?_;· first|rfl|(simp only [q1,q2,q3,q4,q7,q8,ne_eq,q5,q6];omega))|(intro aa uu;(try dsimp only at uu);have okk:=uu.ok;have nxx:=uu.next;have lkk:=uu.lock;have imm:=uu.imp))
  try conv=>whnf
  refine ⟨_, at0 (z := (b : Int)) e2, ?_⟩
  repeat ((conv=>whnf);first|((with_reducible refine Exists.intro ?_ (Exists.intro ?_ (And.intro (a:=_=some (Blk.cells _ _)) ?_ ?_)));rotate_left 2;· (try dsimp only [List.getLast_singleton, List.getLast_cons_cons, List.cons_append, List.append_eq, List.nil_append]);(repeat first|with_reducible assumption|with_reducible exact uA (by assumption)|with_reducible exact nA (by assumption)|((with_reducible refine uN (by assumption) ?_ ?_);· omega)|((with_reducible refine nN (by assumption) ?_ ?_);· omega)))|((with_reducible refine Exists.intro ?_ (And.intro ?_ ?_));rotate_left;· first|with_reducible assumption|((conv=>lhs;arg 2;whnf);with_reducible assumption)|exact rfl)|((with_reducible refine And.intro (a:=AH.may _ _=true) ?_ ?_);· (try dsimp only);(repeat first|with_reducible assumption|((with_reducible refine New.mayNew (by assumption) (by assumption) ?_ ?_ ?_)<;>omega)|refine Upd.mayOf (by assumption) ?_|refine New.mayOf (by assumption) ?_|refine Ke.mayOf (by assumption) ?_))|((with_reducible refine And.intro (a:=szOf _ _=_) ?_ ?_);· refine Eq.trans (by assumption) ?_;kernel_rfl)|((with_reducible refine And.intro (a:=List.all _ _=true) ?_ ?_);· kernel_rfl)|((with_reducible refine And.intro (a:=_=_) ?_ ?_);· first|with_reducible assumption|rfl|exact sameL_int)|((with_reducible refine And.intro (a:=_≤_) ?_ ?_);· first|omega|exact sz_ok|exact Nat.le_of_ble_eq_true (by kernel_rfl))|((with_reducible refine And.intro (a:=_<_) ?_ ?_);· omega)|((with_reducible refine And.intro (a:=_∧_) ?_ ?_);· constructor<;>first|omega|(simp<;>omega))|(refine brk_true ?_ ?_;· first|rfl|(simp only [q1,q2,q3,q4,q7,q8,ne_eq,q5,q6];omega))|(refine brk_false ?_ ?_;· first|rfl|(simp only [q1,q2,q3,q4,q7,q8,ne_eq,q5,q6];omega))|(intro aa uu;(try dsimp only at uu);have okk:=uu.ok;have nxx:=uu.next;have lkk:=uu.lock;have imm:=uu.imp))
  try conv=>whnf
  refine callB_pure ((E.fn 8).trans Tryz.func8) rfl ?_
  refine ⟨by assumption, _, (f8_ok E (by omega) (by assumption) (by omega)), ?_⟩
  repeat ((conv=>whnf);first|((with_reducible refine Exists.intro ?_ (Exists.intro ?_ (And.intro (a:=_=some (Blk.cells _ _)) ?_ ?_)));rotate_left 2;· (try dsimp only [List.getLast_singleton, List.getLast_cons_cons, List.cons_append, List.append_eq, List.nil_append]);(repeat first|with_reducible assumption|with_reducible exact uA (by assumption)|with_reducible exact nA (by assumption)|((with_reducible refine uN (by assumption) ?_ ?_);· omega)|((with_reducible refine nN (by assumption) ?_ ?_);· omega)))|((with_reducible refine Exists.intro ?_ (And.intro ?_ ?_));rotate_left;· first|with_reducible assumption|((conv=>lhs;arg 2;whnf);with_reducible assumption)|exact rfl)|((with_reducible refine And.intro (a:=AH.may _ _=true) ?_ ?_);· (try dsimp only);(repeat first|with_reducible assumption|((with_reducible refine New.mayNew (by assumption) (by assumption) ?_ ?_ ?_)<;>omega)|refine Upd.mayOf (by assumption) ?_|refine New.mayOf (by assumption) ?_|refine Ke.mayOf (by assumption) ?_))|((with_reducible refine And.intro (a:=szOf _ _=_) ?_ ?_);· refine Eq.trans (by assumption) ?_;kernel_rfl)|((with_reducible refine And.intro (a:=List.all _ _=true) ?_ ?_);· kernel_rfl)|((with_reducible refine And.intro (a:=_=_) ?_ ?_);· first|with_reducible assumption|rfl|exact sameL_int)|((with_reducible refine And.intro (a:=_≤_) ?_ ?_);· first|omega|exact sz_ok|exact Nat.le_of_ble_eq_true (by kernel_rfl))|((with_reducible refine And.intro (a:=_<_) ?_ ?_);· omega)|((with_reducible refine And.intro (a:=_∧_) ?_ ?_);· constructor<;>first|omega|(simp<;>omega))|(refine brk_true ?_ ?_;· first|rfl|(simp only [q1,q2,q3,q4,q7,q8,ne_eq,q5,q6];omega))|(refine brk_false ?_ ?_;· first|rfl|(simp only [q1,q2,q3,q4,q7,q8,ne_eq,q5,q6];omega))|(intro aa uu;(try dsimp only at uu);have okk:=uu.ok;have nxx:=uu.next;have lkk:=uu.lock;have imm:=uu.imp))
  try conv=>whnf
  rfl

theorem f14_ok (E : Alike P Tryz.prog base walkM) {d a b br w0 w2 w3 T : Nat} {h : AH} {R : List Value} {gr g2 g3 gq : Gw} (hd : 2 ≤ d) (hok : HOK h)
    (h2 : h.get w2 = some (.cells #[.func (.func 18) #[] #[pt w0]] g2)) (hq : h.get w0 = some (.cells #[.slice none 0 0] gq)) (h3 : h.get w3 = some (.cells #[sl br T] g3)) (hb : h.get br = some (.cells ⟨R⟩ gr)) (hR : RowsE R) (hT : R.length = T) (ha : a < T) (hbT : b < T) :
    deepF P G ext 2199023255552 base mtM d 14 [.int .i64 a, .int .i64 b, pt w2, pt w3] h = some (.int .i64 0, none) := by
  obtain ⟨p1, e1⟩ := hR.at (i := a) (by omega)
  obtain ⟨p2, e2⟩ := hR.at (i := b) (by omega)
  have h2 : h.locked.locked.get w2 = some (.cells #[.func (.func 18) #[] #[pt w0]] g2) := h2
  have h3 : h.locked.locked.get w3 = some (.cells #[sl br T] g3) := h3
  have hq : h.locked.locked.get w0 = some (.cells #[.slice none 0 0] gq) := hq
  have hb : h.locked.locked.get br = some (.cells ⟨R⟩ gr) := hb
  have u3:=U3 E;have s3:=S3 E
  have u9:=U9 E;have s9:=S9 E
  have u22:=U22 E;have s22:=S22 E;have a22:=A22 E
  have u23:=U23 E;have s23:=S23 E;have a23:=A23 E
  have u47:=U47 E;have s47:=S47 E;have a47:=A47 E
  have u51:=U51 E;have s51:=S51 E
  refine over_eq (by omega) rfl (E.no 14 _ _ rfl) rfl ((E.fn 14).trans Tryz.func14) rfl hok rfl ?_
  have hokl := hok.locked
  have hnl : h.locked.next = h.next := rfl
  have hll : h.locked.lock = h.next := rfl
  have hil : h.locked.imp = h.imp := rfl
  have hfll : h.locked.fl = h.fl := rfl
  conv => whnf
  refine ⟨by simp [Tryz.f14], ?_⟩
  repeat ((conv=>whnf);first|((with_reducible refine Exists.intro ?_ (Exists.intro ?_ (And.intro (a:=_=some (Blk.cells _ _)) ?_ ?_)));rotate_left 2;· (try dsimp only [List.getLast_singleton, List.getLast_cons_cons, List.cons_append, List.append_eq, List.nil_append]);(repeat first|with_reducible assumption|with_reducible exact uA (by assumption)|with_reducible exact nA (by assumption)|((with_reducible refine uN (by assumption) ?_ ?_);· omega)|((with_reducible refine nN (by assumption) ?_ ?_);· omega)))|((with_reducible refine Exists.intro ?_ (And.intro ?_ ?_));rotate_left;· first|with_reducible assumption|((conv=>lhs;arg 2;whnf);with_reducible assumption)|exact rfl)|((with_reducible refine And.intro (a:=AH.may _ _=true) ?_ ?_);· (try dsimp only);(repeat first|with_reducible assumption|((with_reducible refine New.mayNew (by assumption) (by assumption) ?_ ?_ ?_)<;>omega)|refine Upd.mayOf (by assumption) ?_|refine New.mayOf (by assumption) ?_|refine Ke.mayOf (by assumption) ?_))|((with_reducible refine And.intro (a:=szOf _ _=_) ?_ ?_);· refine Eq.trans (by assumption) ?_;kernel_rfl)|((with_reducible refine And.intro (a:=List.all _ _=true) ?_ ?_);· kernel_rfl)|((with_reducible refine And.intro (a:=_=_) ?_ ?_);· first|with_reducible assumption|rfl|exact sameL_int)|((with_reducible refine And.intro (a:=_≤_) ?_ ?_);· first|omega|exact sz_ok|exact Nat.le_of_ble_eq_true (by kernel_rfl))|((with_reducible refine And.intro (a:=_<_) ?_ ?_);· omega)|((with_reducible refine And.intro (a:=_∧_) ?_ ?_);· constructor<;>first|omega|(simp<;>omega))|(refine brk_true ?_ ?_;· first|rfl|(simp only [q1,q2,q3,q4,q7,q8,ne_eq,q5,q6];omega))|(refine brk_false ?_ ?_;· first|rfl|(simp only [q1,q2,q3,q4,q7,q8,ne_eq,q5,q6];omega))|(intro aa uu;(try dsimp only at uu);have okk:=uu.ok;have nxx:=uu.next;have lkk:=uu.lock;have imm:=uu.imp))
  try conv=>whnf
  refine ⟨_, at0 (z := (a : Int)) e1, ?_⟩
  repeat ((conv=>whnf);first|((with_reducible refine Exists.intro ?_ (Exists.intro ?_ (And.intro (a:=_=some (Blk.cells _ _)) ?_ ?_)));rotate_left 2;· (try dsimp only [List.getLast_singleton, List.getLast_cons_cons, List.cons_append, List.append_eq, List.nil_append]);(repeat first|with_reducible assumption|with_reducible exact uA (by assumption)|with_reducible exact nA (by assumption)|((with_reducible refine uN (by assumption) ?_ ?_);· omega)|((with_reducible refine nN (by assumption) ?_ ?_);· omega)))|((with_reducible refine Exists.intro ?_ (And.intro ?_ ?_));rotate_left;· first|with_reducible assumption|((conv=>lhs;arg 2;whnf);with_reducible assumption)|exact rfl)|((with_reducible refine And.intro (a:=AH.may _ _=true) ?_ ?_);· (try dsimp only);(repeat first|with_reducible assumption|((with_reducible refine New.mayNew (by assumption) (by assumption) ?_ ?_ ?_)<;>omega)|refine Upd.mayOf (by assumption) ?_|refine New.mayOf (by assumption) ?_|refine Ke.mayOf (by assumption) ?_))|((with_reducible refine And.intro (a:=szOf _ _=_) ?_ ?_);· refine Eq.trans (by assumption) ?_;kernel_rfl)|((with_reducible refine And.intro (a:=List.all _ _=true) ?_ ?_);· kernel_rfl)|((with_reducible refine And.intro (a:=_=_) ?_ ?_);· first|with_reducible assumption|rfl|exact sameL_int)|((with_reducible refine And.intro (a:=_≤_) ?_ ?_);· first|omega|exact sz_ok|exact Nat.le_of_ble_eq_true (by kernel_rfl))|((with_reducible refine And.intro (a:=_<_) ?_ ?_);· omega)|((with_reducible refine And.intro (a:=_∧_) ?_ ?_);· constructor<;>first|omega|(simp<;>omega))|(refine brk_true ?_ ?_;· first|rfl|(simp only [q1,q2,q3,q4,q7,q8,ne_eq,q5,q6];omega))|(refine brk_false ?_ ?_;· first|rfl|(simp only [q1,q2,q3,q4,q7,q8,ne_eq,q5,q6];omega))|(intro aa uu;(try dsimp only at uu);have okk:=uu.ok;have nxx:=uu.next;have lkk:=uu.lock;have imm:=uu.imp))
  try conv=>whnf
  refine ⟨_, at0 (z := (b : Int)) e2, ?_⟩
  repeat ((conv=>whnf);first|((with_reducible refine Exists.intro ?_ (Exists.intro ?_ (And.intro (a:=_=some (Blk.cells _ _)) ?_ ?_)));rotate_left 2;· (try dsimp only [List.getLast_singleton, List.getLast_cons_cons, List.cons_append, List.append_eq, List.nil_append]);(repeat first|with_reducible assumption|with_reducible exact uA (by assumption)|with_reducible exact nA (by assumption)|((with_reducible refine uN (by assumption) ?_ ?_);· omega)|((with_reducible refine nN (by assumption) ?_ ?_);· omega)))|((with_reducible refine Exists.intro ?_ (And.intro ?_ ?_));rotate_left;· first|with_reducible assumption|((conv=>lhs;arg 2;whnf);with_reducible assumption)|exact rfl)|((with_reducible refine And.intro (a:=AH.may _ _=true) ?_ ?_);· (try dsimp only);(repeat first|with_reducible assumption|((with_reducible refine New.mayNew (by assumption) (by assumption) ?_ ?_ ?_)<;>omega)|refine Upd.mayOf (by assumption) ?_|refine New.mayOf (by assumption) ?_|refine Ke.mayOf (by assumption) ?_))|((with_reducible refine And.intro (a:=szOf _ _=_) ?_ ?_);· refine Eq.trans (by assumption) ?_;kernel_rfl)|((with_reducible refine And.intro (a:=List.all _ _=true) ?_ ?_);· kernel_rfl)|((with_reducible refine And.intro (a:=_=_) ?_ ?_);· first|with_reducible assumption|rfl|exact sameL_int)|((with_reducible refine And.intro (a:=_≤_) ?_ ?_);· first|omega|exact sz_ok|exact Nat.le_of_ble_eq_true (by kernel_rfl))|((with_reducible refine And.intro (a:=_<_) ?_ ?_);· omega)|((with_reducible refine And.intro (a:=_∧_) ?_ ?_);· constructor<;>first|omega|(simp<;>omega))|(refine brk_true ?_ ?_;· first|rfl|(simp only [q1,q2,q3,q4,q7,q8,ne_eq,q5,q6];omega))|(refine brk_false ?_ ?_;· first|rfl|(simp only [q1,q2,q3,q4,q7,q8,ne_eq,q5,q6];omega))|(intro aa uu;(try dsimp only at uu);have okk:=uu.ok;have nxx:=uu.next;have lkk:=uu.lock;have imm:=uu.imp))
  try conv=>whnf
  refine callB_pure ((E.fn 18).trans Tryz.func18) rfl ?_
  refine ⟨by assumption, _, (f18_ok E (by omega) (by assumption) (by assumption)), ?_⟩
  repeat ((conv=>whnf);first|((with_reducible refine Exists.intro ?_ (Exists.intro ?_ (And.intro (a:=_=some (Blk.cells _ _)) ?_ ?_)));rotate_left 2;· (try dsimp only [List.getLast_singleton, List.getLast_cons_cons, List.cons_append, List.append_eq, List.nil_append]);(repeat first|with_reducible assumption|with_reducible exact uA (by assumption)|with_reducible exact nA (by assumption)|((with_reducible refine uN (by assumption) ?_ ?_);· omega)|((with_reducible refine nN (by assumption) ?_ ?_);· omega)))|((with_reducible refine Exists.intro ?_ (And.intro ?_ ?_));rotate_left;· first|with_reducible assumption|((conv=>lhs;arg 2;whnf);with_reducible assumption)|exact rfl)|((with_reducible refine And.intro (a:=AH.may _ _=true) ?_ ?_);· (try dsimp only);(repeat first|with_reducible assumption|((with_reducible refine New.mayNew (by assumption) (by assumption) ?_ ?_ ?_)<;>omega)|refine Upd.mayOf (by assumption) ?_|refine New.mayOf (by assumption) ?_|refine Ke.mayOf (by assumption) ?_))|((with_reducible refine And.intro (a:=szOf _ _=_) ?_ ?_);· refine Eq.trans (by assumption) ?_;kernel_rfl)|((with_reducible refine And.intro (a:=List.all _ _=true) ?_ ?_);· kernel_rfl)|((with_reducible refine And.intro (a:=_=_) ?_ ?_);· first|with_reducible assumption|rfl|exact sameL_int)|((with_reducible refine And.intro (a:=_≤_) ?_ ?_);· first|omega|exact sz_ok|exact Nat.le_of_ble_eq_true (by kernel_rfl))|((with_reducible refine And.intro (a:=_<_) ?_ ?_);· omega)|((with_reducible refine And.intro (a:=_∧_) ?_ ?_);· constructor<;>first|omega|(simp<;>omega))|(refine brk_true ?_ ?_;· first|rfl|(simp only [q1,q2,q3,q4,q7,q8,ne_eq,q5,q6];omega))|(refine brk_false ?_ ?_;· first|rfl|(simp only [q1,q2,q3,q4,q7,q8,ne_eq,q5,q6];omega))|(intro aa uu;(try dsimp only at uu);have okk:=uu.ok;have nxx:=uu.next;have lkk:=uu.lock;have imm:=uu.imp))
  try conv=>whnf
  rfl
end

end
end Go.Proofs.YtokiakmpebjdfaaGreatDoor.V
