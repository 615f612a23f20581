/- What Atomize collects of the last item. Conditions: none. -/
import Derived.Test.YtiecjjcemnafaaaGreatDoorHj
namespace Go.Proofs.YtiecjjcemnafaaaGreatDoor.V
set_option linter.all false
open Go
noncomputable section

theorem Grown.toNew {h h' : AH} {b : Blk} (x : Grown h h' none b) : New h h' b :=
  ⟨fun j => by rw [x.get]; simp, x.next, x.lock, x.imp, x.fl, x.ok⟩
theorem inf28_ok : (match Tryz.prog.info? 28 with | some i => Nat.beq i.size 2 && Nat.ble i.bytes 1000 | none => false) = true := by kernel_rfl
theorem inf28 : ∃ i, Tryz.prog.info? 28 = some i ∧ i.size = 2 ∧ i.bytes ≤ 1000 := by
  have h := inf28_ok
  split at h
  · rename_i i hi
    rw [Bool.and_eq_true] at h
    exact ⟨i, hi, beq_iff.1 h.1, ble_iff.1 h.2⟩
  · cases h

section
variable {P : Program} {G : Nat} {ext : FuncId → Option Ext} {base : Orc}

/-- Nothing collected yet. -/
def St0 (P : Program) (bo bt y : Nat) (h : AH) : Prop := h.get bo = some (.cells #[.slice none 0 0] (tyOf P 48)) ∧ h.get y = some (.cells #[.int .i64 0] (tyOf P 3)) ∧ h.may bo = true ∧ h.may y = true ∧ bo < h.next ∧ y < h.next
/-- One atom collected. -/
def St1 (P : Program) (bo : Nat) (h : AH) : Prop := ∃ B g, h.get bo = some (.cells #[sl B 1] (tyOf P 48)) ∧ h.get B = some (.cells #[.int .i64 3, .string ⟨#[55]⟩] g)

theorem f44_arr (E : Alike P Tryz.prog base walkI) {d bo bt y m : Nat} {h : AH} (hd : 1 ≤ d) (hok : HOK h) (hlk : h.lock < h.next) (hn : h.next < 65000) :
    ∃ v h', deepF P G ext 2199023255552 base mtI d 44 [.agg (itM m 1), pt bo, pt bt, pt y] h = some (v, some h') ∧ HOK h' ∧ (v = .bool false ∧ Lim h.next 0 5 h h') := by
  have u3:=U3 E;have s3:=S3 E;have a3:=A3 E;have e3:=Z3 E
  have u9:=U9 E;have s9:=S9 E;have a9:=A9 E;have e9:=Z9 E
  have u24:=U24 E;have s24:=S24 E;have a24:=A24 E;have e24:=Z24 E
  have u28:=U28 E;have s28:=S28 E;have a28:=A28 E;have e28:=Z28 E
  have u29:=U29 E;have s29:=S29 E;have a29:=A29 E;have e29:=Z29 E
  have u30:=U30 E;have s30:=S30 E;have a30:=A30 E;have e30:=Z30 E
  have u31:=U31 E;have s31:=S31 E;have a31:=A31 E;have e31:=Z31 E
  have u33:=U33 E;have s33:=S33 E;have a33:=A33 E;have e33:=Z33 E
  have u39:=U39 E;have s39:=S39 E;have a39:=A39 E;have e39:=Z39 E
  have u48:=U48 E;have s48:=S48 E;have a48:=A48 E;have e48:=Z48 E
  have u53:=U53 E;have s53:=S53 E;have a53:=A53 E;have e53:=Z53 E
  have u66:=U66 E;have s66:=S66 E;have a66:=A66 E;have e66:=Z66 E
  have u74:=U74 E;have s74:=S74 E;have a74:=A74 E;have e74:=Z74 E
  have u75:=U75 E;have s75:=S75 E;have a75:=A75 E;have e75:=Z75 E
  have u77:=U77 E;have s77:=S77 E;have a77:=A77 E;have e77:=Z77 E
  have hl := beq_less hlk
  refine mut_to (by omega) rfl (E.no 44 _ _ rfl) (by first | exact .inl rfl | exact .inr rfl) hl ((E.fn 44).trans Tryz.func44) rfl hok ?_
  conv => whnf
  refine ⟨by simp [Tryz.f44], ?_⟩
  repeat ((conv=>whnf);first|((with_reducible refine Exists.intro ?_ (Exists.intro ?_ (And.intro (a:=_=some (Blk.cells _ _)) ?_ ?_)));rotate_left 2;· (try dsimp only);(repeat first|with_reducible assumption|with_reducible exact uA (by assumption)|with_reducible exact nA (by assumption)|((with_reducible refine uN (by assumption) ?_ ?_);· omega)|((with_reducible refine nN (by assumption) ?_ ?_);· omega)))|((with_reducible refine Exists.intro ?_ (And.intro ?_ ?_));rotate_left;· first|with_reducible assumption|((conv=>lhs;arg 2;whnf);with_reducible assumption)|exact rfl)|((with_reducible refine And.intro (a:=AH.may _ _=true) ?_ ?_);· (try dsimp only);(repeat first|with_reducible assumption|((with_reducible refine New.mayNew (by assumption) (by assumption) ?_ ?_ ?_)<;>omega)|refine Upd.mayOf (by assumption) ?_|refine New.mayOf (by assumption) ?_|refine Ke.mayOf (by assumption) ?_))|((with_reducible refine And.intro (a:=szOf _ _=_) ?_ ?_);· refine Eq.trans (by assumption) ?_;kernel_rfl)|((with_reducible refine And.intro (a:=List.all _ _=true) ?_ ?_);· kernel_rfl)|((with_reducible refine And.intro (a:=_=_) ?_ ?_);· first|with_reducible assumption|rfl)|((with_reducible refine And.intro (a:=_≤_) ?_ ?_);· first|omega|exact Nat.le_of_ble_eq_true (by kernel_rfl))|((with_reducible refine And.intro (a:=_<_) ?_ ?_);· omega)|((with_reducible refine And.intro (a:=_∧_) ?_ ?_);· constructor<;>first|omega|(simp<;>omega))|(refine brk_true ?_ ?_;· first|rfl|(simp only [q1,q2,q3,q4,ne_eq,q5,q6];omega))|(refine brk_false ?_ ?_;· first|rfl|(simp only [q1,q2,q3,q4,ne_eq,q5,q6];omega))|(intro aa uu;(try dsimp only at uu);have okk:=uu.ok;have nxx:=uu.next;have lkk:=uu.lock;have imm:=uu.imp))
  try conv=>whnf
  exact ⟨(by repeat first|with_reducible assumption|refine Upd.flOf (by assumption) ?_|refine New.flOf (by assumption) ?_|refine Ke.flOf (by assumption) ?_|exact hfl|exact rfl), (fun j hj j1 => by repeat first|((with_reducible refine uN (by assumption) ?_ ?_);· omega)|((with_reducible refine nN (by assumption) ?_ ?_);· omega)|exact rfl)⟩

set_option maxHeartbeats 4000000 in
theorem f44_last (E : Alike P Tryz.prog base walkI) {K L d bo bt y : Nat} {h : AH} (hd : 1 ≤ d) (hi : Op1 L 10 h) (hs : St0 P bo bt y h) (hy : bo ≠ y) (hKo : K ≤ bo) (hKy : K ≤ y) (hoL : bo < L) (hyL : y < L) :
    ∃ v h', deepF P G ext 2199023255552 base mtI d 44 [.agg (itA 3 ⟨#[55]⟩), pt bo, pt bt, pt y] h = some (v, some h') ∧ HOK h' ∧ (v = .bool false ∧ Lim K L 5 h h' ∧ St1 P bo h') := by
  obtain ⟨hok, hlk, him, hL, hn⟩ := hi
  obtain ⟨g1, g2, m1, m2, l1, l2⟩ := hs
  obtain ⟨i, hi1, hi2, hi3⟩ := inf28
  have u3:=U3 E;have s3:=S3 E;have a3:=A3 E;have e3:=Z3 E
  have u9:=U9 E;have s9:=S9 E;have a9:=A9 E;have e9:=Z9 E
  have u24:=U24 E;have s24:=S24 E;have a24:=A24 E;have e24:=Z24 E
  have u28:=U28 E;have s28:=S28 E;have a28:=A28 E;have e28:=Z28 E
  have u29:=U29 E;have s29:=S29 E;have a29:=A29 E;have e29:=Z29 E
  have u30:=U30 E;have s30:=S30 E;have a30:=A30 E;have e30:=Z30 E
  have u31:=U31 E;have s31:=S31 E;have a31:=A31 E;have e31:=Z31 E
  have u33:=U33 E;have s33:=S33 E;have a33:=A33 E;have e33:=Z33 E
  have u39:=U39 E;have s39:=S39 E;have a39:=A39 E;have e39:=Z39 E
  have u48:=U48 E;have s48:=S48 E;have a48:=A48 E;have e48:=Z48 E
  have u53:=U53 E;have s53:=S53 E;have a53:=A53 E;have e53:=Z53 E
  have u66:=U66 E;have s66:=S66 E;have a66:=A66 E;have e66:=Z66 E
  have u74:=U74 E;have s74:=S74 E;have a74:=A74 E;have e74:=Z74 E
  have u75:=U75 E;have s75:=S75 E;have a75:=A75 E;have e75:=Z75 E
  have u77:=U77 E;have s77:=S77 E;have a77:=A77 E;have e77:=Z77 E
  have hl := beq_less hlk
  refine mut_to (by omega) rfl (E.no 44 _ _ rfl) (by first | exact .inl rfl | exact .inr rfl) hl ((E.fn 44).trans Tryz.func44) rfl hok ?_
  conv => whnf
  refine ⟨by simp [Tryz.f44], ?_⟩
  repeat ((conv=>whnf);first|((with_reducible refine Exists.intro ?_ (Exists.intro ?_ (And.intro (a:=_=some (Blk.cells _ _)) ?_ ?_)));rotate_left 2;· (try dsimp only);(repeat first|with_reducible assumption|with_reducible exact uA (by assumption)|with_reducible exact nA (by assumption)|((with_reducible refine uN (by assumption) ?_ ?_);· omega)|((with_reducible refine nN (by assumption) ?_ ?_);· omega)))|((with_reducible refine Exists.intro ?_ (And.intro ?_ ?_));rotate_left;· first|with_reducible assumption|((conv=>lhs;arg 2;whnf);with_reducible assumption)|exact rfl)|((with_reducible refine And.intro (a:=AH.may _ _=true) ?_ ?_);· (try dsimp only);(repeat first|with_reducible assumption|((with_reducible refine New.mayNew (by assumption) (by assumption) ?_ ?_ ?_)<;>omega)|refine Upd.mayOf (by assumption) ?_|refine New.mayOf (by assumption) ?_|refine Ke.mayOf (by assumption) ?_))|((with_reducible refine And.intro (a:=szOf _ _=_) ?_ ?_);· refine Eq.trans (by assumption) ?_;kernel_rfl)|((with_reducible refine And.intro (a:=List.all _ _=true) ?_ ?_);· kernel_rfl)|((with_reducible refine And.intro (a:=_=_) ?_ ?_);· first|with_reducible assumption|rfl)|((with_reducible refine And.intro (a:=_≤_) ?_ ?_);· first|omega|exact Nat.le_of_ble_eq_true (by kernel_rfl))|((with_reducible refine And.intro (a:=_<_) ?_ ?_);· omega)|((with_reducible refine And.intro (a:=_∧_) ?_ ?_);· constructor<;>first|omega|(simp<;>omega))|(refine brk_true ?_ ?_;· first|rfl|(simp only [q1,q2,q3,q4,ne_eq,q5,q6];omega))|(refine brk_false ?_ ?_;· first|rfl|(simp only [q1,q2,q3,q4,ne_eq,q5,q6];omega))|(intro aa uu;(try dsimp only at uu);have okk:=uu.ok;have nxx:=uu.next;have lkk:=uu.lock;have imm:=uu.imp))
  try conv=>whnf
  rename_i x1 u1x o1x n1x l1x i1x
  obtain ⟨a4, ha4⟩ : ∃ a, a = aa := ⟨_, rfl⟩
  subst ha4
  obtain ⟨h5, e5, g5⟩ := appendS_nil (c2 := 1) (m := 1) (h := a4) okk u48 u48 ((E.inf 28).trans hi1) e28 (by rw [hi2]; rfl) (e := 1) (by rw [hi2]) (by omega) (b2 := x1.next) (o2 := 0) (c := #[.int .i64 3, .string ⟨#[55]⟩]) (g := .no) (by (repeat first|with_reducible assumption|with_reducible exact uA (by assumption)|with_reducible exact nA (by assumption)|((with_reducible refine Eq.trans (uA (by assumption)) ?_);kernel_rfl)|((with_reducible refine Eq.trans (nA (by assumption)) ?_);kernel_rfl)|((with_reducible refine uN (by assumption) ?_ ?_);· omega)|((with_reducible refine nN (by assumption) ?_ ?_);· omega))) (by rw [hi2]; decide) (by omega) (by omega)
  have uu5 := g5.toNew
  have okk5 := uu5.ok
  have nxx5 := uu5.next
  have lkk5 := uu5.lock
  have imm5 := uu5.imp
  refine ⟨_, _, e5, okk5, ?_⟩
  repeat ((conv=>whnf);first|((with_reducible refine Exists.intro ?_ (Exists.intro ?_ (And.intro (a:=_=some (Blk.cells _ _)) ?_ ?_)));rotate_left 2;· (try dsimp only);(repeat first|with_reducible assumption|with_reducible exact uA (by assumption)|with_reducible exact nA (by assumption)|((with_reducible refine uN (by assumption) ?_ ?_);· omega)|((with_reducible refine nN (by assumption) ?_ ?_);· omega)))|((with_reducible refine Exists.intro ?_ (And.intro ?_ ?_));rotate_left;· first|with_reducible assumption|((conv=>lhs;arg 2;whnf);with_reducible assumption)|exact rfl)|((with_reducible refine And.intro (a:=AH.may _ _=true) ?_ ?_);· (try dsimp only);(repeat first|with_reducible assumption|((with_reducible refine New.mayNew (by assumption) (by assumption) ?_ ?_ ?_)<;>omega)|refine Upd.mayOf (by assumption) ?_|refine New.mayOf (by assumption) ?_|refine Ke.mayOf (by assumption) ?_))|((with_reducible refine And.intro (a:=szOf _ _=_) ?_ ?_);· refine Eq.trans (by assumption) ?_;kernel_rfl)|((with_reducible refine And.intro (a:=List.all _ _=true) ?_ ?_);· kernel_rfl)|((with_reducible refine And.intro (a:=_=_) ?_ ?_);· first|with_reducible assumption|rfl)|((with_reducible refine And.intro (a:=_≤_) ?_ ?_);· first|omega|exact Nat.le_of_ble_eq_true (by kernel_rfl))|((with_reducible refine And.intro (a:=_<_) ?_ ?_);· omega)|((with_reducible refine And.intro (a:=_∧_) ?_ ?_);· constructor<;>first|omega|(simp<;>omega))|(refine brk_true ?_ ?_;· first|rfl|(simp only [q1,q2,q3,q4,ne_eq,q5,q6];omega))|(refine brk_false ?_ ?_;· first|rfl|(simp only [q1,q2,q3,q4,ne_eq,q5,q6];omega))|(intro aa uu;(try dsimp only at uu);have okk:=uu.ok;have nxx:=uu.next;have lkk:=uu.lock;have imm:=uu.imp))
  try conv=>whnf
  have q1 : aa.locked.get y = some (.cells #[.int .i64 0] (tyOf P 3)) := by
    show aa.get y = _
    (repeat first|with_reducible assumption|with_reducible exact uA (by assumption)|with_reducible exact nA (by assumption)|((with_reducible refine Eq.trans (uA (by assumption)) ?_);kernel_rfl)|((with_reducible refine Eq.trans (nA (by assumption)) ?_);kernel_rfl)|((with_reducible refine uN (by assumption) ?_ ?_);· omega)|((with_reducible refine nN (by assumption) ?_ ?_);· omega))
  have q1' : aa.get y = some (.cells #[.int .i64 0] (tyOf P 3)) := q1
  have q2 : aa.locked.get bo = some (.cells #[sl a4.next 1] (tyOf P 48)) := by
    show aa.get bo = _
    (repeat first|with_reducible assumption|with_reducible exact uA (by assumption)|with_reducible exact nA (by assumption)|((with_reducible refine Eq.trans (uA (by assumption)) ?_);kernel_rfl)|((with_reducible refine Eq.trans (nA (by assumption)) ?_);kernel_rfl)|((with_reducible refine uN (by assumption) ?_ ?_);· omega)|((with_reducible refine nN (by assumption) ?_ ?_);· omega))
  have q2' : aa.get bo = some (.cells #[sl a4.next 1] (tyOf P 48)) := q2
  have q3 : aa.get a4.next = some (.cells #[.int .i64 3, .string ⟨#[55]⟩] (.up 1 (some 28))) := by
    first | (rw [uu.get, if_neg (by omega), uu5.get, if_pos rfl, hi2]; kernel_rfl)
  have q3' : aa.locked.get a4.next = some (.cells #[.int .i64 3, .string ⟨#[55]⟩] (.up 1 (some 28))) := q3
  have hl2 := okk.locked
  repeat ((conv=>whnf);first|((with_reducible refine Exists.intro ?_ (Exists.intro ?_ (And.intro (a:=_=some (Blk.cells _ _)) ?_ ?_)));rotate_left 2;· (try dsimp only [List.getLast_singleton, List.getLast_cons_cons, List.cons_append, List.append_eq, List.nil_append]);(repeat first|with_reducible assumption|with_reducible exact uA (by assumption)|with_reducible exact nA (by assumption)|((with_reducible refine uN (by assumption) ?_ ?_);· omega)|((with_reducible refine nN (by assumption) ?_ ?_);· omega)))|((with_reducible refine Exists.intro ?_ (And.intro ?_ ?_));rotate_left;· first|with_reducible assumption|((conv=>lhs;arg 2;whnf);with_reducible assumption)|exact rfl)|((with_reducible refine And.intro (a:=AH.may _ _=true) ?_ ?_);· (try dsimp only);(repeat first|with_reducible assumption|((with_reducible refine New.mayNew (by assumption) (by assumption) ?_ ?_ ?_)<;>omega)|refine Upd.mayOf (by assumption) ?_|refine New.mayOf (by assumption) ?_|refine Ke.mayOf (by assumption) ?_))|((with_reducible refine And.intro (a:=szOf _ _=_) ?_ ?_);· refine Eq.trans (by assumption) ?_;kernel_rfl)|((with_reducible refine And.intro (a:=List.all _ _=true) ?_ ?_);· kernel_rfl)|((with_reducible refine And.intro (a:=_=_) ?_ ?_);· first|with_reducible assumption|rfl|exact sameL_int)|((with_reducible refine And.intro (a:=_≤_) ?_ ?_);· first|omega|exact Nat.le_of_ble_eq_true (by kernel_rfl))|((with_reducible refine And.intro (a:=_<_) ?_ ?_);· omega)|((with_reducible refine And.intro (a:=_∧_) ?_ ?_);· constructor<;>first|omega|(simp<;>omega))|(refine brk_true ?_ ?_;· first|rfl|(simp only [q1,q2,q3,q4,ne_eq,q5,q6];omega))|(refine brk_false ?_ ?_;· first|rfl|(simp only [q1,q2,q3,q4,ne_eq,q5,q6];omega))|(intro aa uu;(try dsimp only at uu);have okk:=uu.ok;have nxx:=uu.next;have lkk:=uu.lock;have imm:=uu.imp))
  try conv=>whnf
  refine .inr ?_
  repeat ((conv=>whnf);first|((with_reducible refine Exists.intro ?_ (Exists.intro ?_ (And.intro (a:=_=some (Blk.cells _ _)) ?_ ?_)));rotate_left 2;· (try dsimp only [List.getLast_singleton, List.getLast_cons_cons, List.cons_append, List.append_eq, List.nil_append]);(repeat first|with_reducible assumption|with_reducible exact uA (by assumption)|with_reducible exact nA (by assumption)|((with_reducible refine uN (by assumption) ?_ ?_);· omega)|((with_reducible refine nN (by assumption) ?_ ?_);· omega)))|((with_reducible refine Exists.intro ?_ (And.intro ?_ ?_));rotate_left;· first|with_reducible assumption|((conv=>lhs;arg 2;whnf);with_reducible assumption)|exact rfl)|((with_reducible refine And.intro (a:=AH.may _ _=true) ?_ ?_);· (try dsimp only);(repeat first|with_reducible assumption|((with_reducible refine New.mayNew (by assumption) (by assumption) ?_ ?_ ?_)<;>omega)|refine Upd.mayOf (by assumption) ?_|refine New.mayOf (by assumption) ?_|refine Ke.mayOf (by assumption) ?_))|((with_reducible refine And.intro (a:=szOf _ _=_) ?_ ?_);· refine Eq.trans (by assumption) ?_;kernel_rfl)|((with_reducible refine And.intro (a:=List.all _ _=true) ?_ ?_);· kernel_rfl)|((with_reducible refine And.intro (a:=_=_) ?_ ?_);· first|with_reducible assumption|rfl|exact sameL_int)|((with_reducible refine And.intro (a:=_≤_) ?_ ?_);· first|omega|exact Nat.le_of_ble_eq_true (by kernel_rfl))|((with_reducible refine And.intro (a:=_<_) ?_ ?_);· omega)|((with_reducible refine And.intro (a:=_∧_) ?_ ?_);· constructor<;>first|omega|(simp<;>omega))|(refine brk_true ?_ ?_;· first|rfl|(simp only [q1,q2,q3,q4,ne_eq,q5,q6];omega))|(refine brk_false ?_ ?_;· first|rfl|(simp only [q1,q2,q3,q4,ne_eq,q5,q6];omega))|(intro aa uu;(try dsimp only at uu);have okk:=uu.ok;have nxx:=uu.next;have lkk:=uu.lock;have imm:=uu.imp))
  try conv=>whnf
  dsimp only [List.getLast_singleton, List.getLast_cons_cons, List.cons_append, List.append_eq, List.nil_append]
  refine ⟨⟨by omega, by omega, by omega, by omega, (by repeat first|with_reducible assumption|refine Upd.flOf (by assumption) ?_|refine New.flOf (by assumption) ?_|refine Ke.flOf (by assumption) ?_|exact hfl|exact rfl), fun j hj j1 => ?_⟩, a4.next, _, by (repeat first|with_reducible assumption|with_reducible exact uA (by assumption)|with_reducible exact nA (by assumption)|((with_reducible refine Eq.trans (uA (by assumption)) ?_);kernel_rfl)|((with_reducible refine Eq.trans (nA (by assumption)) ?_);kernel_rfl)|((with_reducible refine uN (by assumption) ?_ ?_);· omega)|((with_reducible refine nN (by assumption) ?_ ?_);· omega)), by (repeat first|with_reducible assumption|with_reducible exact uA (by assumption)|with_reducible exact nA (by assumption)|((with_reducible refine Eq.trans (uA (by assumption)) ?_);kernel_rfl)|((with_reducible refine Eq.trans (nA (by assumption)) ?_);kernel_rfl)|((with_reducible refine uN (by assumption) ?_ ?_);· omega)|((with_reducible refine nN (by assumption) ?_ ?_);· omega))⟩
  have : j ≠ bo := by omega
  have : j ≠ y := by omega
  exact (fun j hj => by repeat first|((with_reducible refine uN (by assumption) ?_ ?_);· omega)|((with_reducible refine nN (by assumption) ?_ ?_);· omega)|exact rfl) j hj
end

end
end Go.Proofs.YtiecjjcemnafaaaGreatDoor.V
