/- Sizes, validity and atoms of sequences. Conditions: none. -/
import Derived.Test.YtibffohcmegooaaGreatDoorGb
import Derived.Test.YtibffohcmegooaaGreatDoorGc
import Derived.Test.YtibffohcmegooaaGreatDoorGe
namespace Go.Proofs.YtibffohcmegooaaGreatDoor.V
set_option linter.all false
open Go
noncomputable section

section
variable {P : Program} {G : Nat} {ext : FuncId → Option Ext} {base : Orc}

set_option maxRecDepth 100000 in
set_option maxHeartbeats 4000000 in
/-- Sizes that are not too great. -/
theorem size_fits (E : Alike P Tryz.prog base walkG) {e n b d : Nat} {v : Value} {h0 h : AH} {K : Nat} (ha : AddAt P G ext base K h0 e v n b) (hag : Ag K h0 h) (hK : K ≤ h.next) (hn : n ≤ 262144) (hb : b ≤ 4194304) (hok : HOK h) (hi : h.imp ≤ h.next) (hx : h.next ≤ 14000000) (he : e ≤ 900) (hd : 2 * e + 4 ≤ d) :
    deepF P G ext 2199023255552 base mtG d 11 [v] h = some (.tuple #[.int .i64 n, .int .i64 b], none) := by
  have u3:=U3 E;have s3:=S3 E;have a3:=A3 E;have e3:=Z3 E
  have u4:=U4 E;have s4:=S4 E
  have u22:=U22 E;have s22:=S22 E
  have u24:=U24 E;have s24:=S24 E
  have u25:=U25 E;have s25:=S25 E
  have u26:=U26 E;have s26:=S26 E
  have u27:=U27 E;have s27:=S27 E
  have u29:=U29 E;have s29:=S29 E
  have u78:=U78 E;have s78:=S78 E;have a78:=A78 E;have e78:=Z78 E
  have u79:=U79 E;have s79:=S79 E;have e79:=Z79 E
  refine over_eq (by omega) rfl (E.no 11 _ _ rfl) rfl ((E.fn 11).trans Tryz.func11) rfl hok rfl ?_
  have hokl := hok.locked
  have hnl : h.locked.next = h.next := rfl
  have hll : h.locked.lock = h.next := rfl
  have hil : h.locked.imp = h.imp := rfl
  have hfll : h.locked.fl = h.fl := rfl
  conv => whnf
  refine ⟨by simp [Tryz.f11], ?_⟩
  repeat ((conv=>whnf);first|((with_reducible refine Exists.intro ?_ (Exists.intro ?_ (And.intro (a:=_=some (Blk.cells _ _)) ?_ ?_)));rotate_left 2;· (try dsimp only);(repeat first|with_reducible assumption|with_reducible exact uA (by assumption)|with_reducible exact nA (by assumption)|((with_reducible refine uN (by assumption) ?_ ?_);· omega)|((with_reducible refine nN (by assumption) ?_ ?_);· omega)))|((with_reducible refine Exists.intro ?_ (And.intro ?_ ?_));rotate_left;· first|with_reducible assumption|((conv=>lhs;arg 2;whnf);with_reducible assumption)|exact rfl)|((with_reducible refine And.intro (a:=AH.may _ _=true) ?_ ?_);· (try dsimp only);(repeat first|with_reducible assumption|((with_reducible refine New.mayNew (by assumption) (by assumption) ?_ ?_ ?_)<;>omega)|refine Upd.mayOf (by assumption) ?_|refine New.mayOf (by assumption) ?_|refine Ke.mayOf (by assumption) ?_))|((with_reducible refine And.intro (a:=szOf _ _=_) ?_ ?_);· refine Eq.trans (by assumption) ?_;kernel_rfl)|((with_reducible refine And.intro (a:=List.all _ _=true) ?_ ?_);· kernel_rfl)|((with_reducible refine And.intro (a:=_=_) ?_ ?_);· first|with_reducible assumption|rfl)|((with_reducible refine And.intro (a:=_≤_) ?_ ?_);· first|omega|exact sz_ok|exact Nat.le_of_ble_eq_true (by kernel_rfl))|((with_reducible refine And.intro (a:=_<_) ?_ ?_);· omega)|((with_reducible refine And.intro (a:=_∧_) ?_ ?_);· constructor<;>first|omega|(simp<;>omega))|(refine brk_true ?_ ?_;· first|rfl|(simp only [q1,q2,q3,q4,q7,q8,ne_eq,q5,q6];omega))|(refine brk_false ?_ ?_;· first|rfl|(simp only [q1,q2,q3,q4,q7,q8,ne_eq,q5,q6];omega))|(intro aa uu;(try dsimp only at uu);have okk:=uu.ok;have nxx:=uu.next;have lkk:=uu.lock;have imm:=uu.imp))
  try conv=>whnf
  rename_i x1 u1x o1x n1x l1x i1x x2 u2x o2x n2x l2x i2x x3 u3x o3x n3x l3x i3x x4 u4x o4x n4x l4x i4x x5 u5x o5x n5x l5x i5x
  have hk : ∀ j, j < h.next → aa.get j = h.get j := (fun j hj => by repeat first|((with_reducible refine uN (by assumption) ?_ ?_);· omega)|((with_reducible refine nN (by assumption) ?_ ?_);· omega)|exact rfl)
  have hag2 : Ag K h0 aa := fun j hj => (hk j (by omega)).trans (hag j hj)
  refine callB_heap ((E.fn 24).trans Tryz.func24) rfl ?_
  refine ⟨_, (ha h.locked.next x1.next x3.next x2.next (tyOf P 3) (tyOf P 3) (tyOf P 79) (tyOf P 78) (d - 1) 0 14000010 _ 0 0 (by omega) (by omega) (by omega) (by omega) (by omega) (by omega) (by omega) (by omega) (by omega) (by omega) ⟨by assumption, by omega, by omega, by omega, by (repeat first|with_reducible assumption|with_reducible exact uA (by assumption)|with_reducible exact nA (by assumption)|((with_reducible refine Eq.trans (uA (by assumption)) ?_);kernel_rfl)|((with_reducible refine Eq.trans (nA (by assumption)) ?_);kernel_rfl)|((with_reducible refine uN (by assumption) ?_ ?_);· omega)|((with_reducible refine nN (by assumption) ?_ ?_);· omega)), by (repeat first|with_reducible assumption|with_reducible exact uA (by assumption)|with_reducible exact nA (by assumption)|((with_reducible refine Eq.trans (uA (by assumption)) ?_);kernel_rfl)|((with_reducible refine Eq.trans (nA (by assumption)) ?_);kernel_rfl)|((with_reducible refine uN (by assumption) ?_ ?_);· omega)|((with_reducible refine nN (by assumption) ?_ ?_);· omega)), by (repeat first|with_reducible assumption|with_reducible exact uA (by assumption)|with_reducible exact nA (by assumption)|((with_reducible refine Eq.trans (uA (by assumption)) ?_);kernel_rfl)|((with_reducible refine Eq.trans (nA (by assumption)) ?_);kernel_rfl)|((with_reducible refine uN (by assumption) ?_ ?_);· omega)|((with_reducible refine nN (by assumption) ?_ ?_);· omega)), by (repeat first|with_reducible assumption|with_reducible exact uA (by assumption)|with_reducible exact nA (by assumption)|((with_reducible refine Eq.trans (uA (by assumption)) ?_);kernel_rfl)|((with_reducible refine Eq.trans (nA (by assumption)) ?_);kernel_rfl)|((with_reducible refine uN (by assumption) ?_ ?_);· omega)|((with_reducible refine nN (by assumption) ?_ ?_);· omega)), by (repeat first|with_reducible assumption|((with_reducible refine New.mayNew (by assumption) (by assumption) ?_ ?_ ?_)<;>omega)|refine Upd.mayOf (by assumption) ?_|refine New.mayOf (by assumption) ?_|refine Ke.mayOf (by assumption) ?_), by (repeat first|with_reducible assumption|((with_reducible refine New.mayNew (by assumption) (by assumption) ?_ ?_ ?_)<;>omega)|refine Upd.mayOf (by assumption) ?_|refine New.mayOf (by assumption) ?_|refine Ke.mayOf (by assumption) ?_), by omega, by omega, by omega, by omega⟩ hag2 (by omega) (by omega) (by omega) (by omega) (by omega) (by omega) (by omega) (by omega)), ?_⟩
  rintro v2 h2 hok2 ⟨rfl, N', B', oq1, oq2, oq3, oqu, oqv, ⟨w1, w2, w3, w4, w5, w6, w7, w8, w9, w10, w11, w12, w13, w14⟩, oq5, oq6, oq7, oq8, oq9, oq10⟩
  have hf : fitsB 0 0 n b = true := decide_eq_true (by omega)
  rw [hf]
  obtain ⟨z1, z2⟩ := oq3 (by omega)
  have w5' : h2.locked.get h.locked.next = some (.cells #[.int .i64 N'] (tyOf P 3)) := w5
  have w6' : h2.locked.get x1.next = some (.cells #[.int .i64 B'] (tyOf P 3)) := w6
  have hl2 := hok2.locked
  repeat ((conv=>whnf);first|((with_reducible refine Exists.intro ?_ (Exists.intro ?_ (And.intro (a:=_=some (Blk.cells _ _)) ?_ ?_)));rotate_left 2;· (try dsimp only [List.getLast_singleton, List.getLast_cons_cons, List.cons_append, List.append_eq, List.nil_append]);(repeat first|with_reducible assumption|with_reducible exact uA (by assumption)|with_reducible exact nA (by assumption)|((with_reducible refine uN (by assumption) ?_ ?_);· omega)|((with_reducible refine nN (by assumption) ?_ ?_);· omega)))|((with_reducible refine Exists.intro ?_ (And.intro ?_ ?_));rotate_left;· first|with_reducible assumption|((conv=>lhs;arg 2;whnf);with_reducible assumption)|exact rfl)|((with_reducible refine And.intro (a:=AH.may _ _=true) ?_ ?_);· (try dsimp only);(repeat first|with_reducible assumption|((with_reducible refine New.mayNew (by assumption) (by assumption) ?_ ?_ ?_)<;>omega)|refine Upd.mayOf (by assumption) ?_|refine New.mayOf (by assumption) ?_|refine Ke.mayOf (by assumption) ?_))|((with_reducible refine And.intro (a:=szOf _ _=_) ?_ ?_);· refine Eq.trans (by assumption) ?_;kernel_rfl)|((with_reducible refine And.intro (a:=List.all _ _=true) ?_ ?_);· kernel_rfl)|((with_reducible refine And.intro (a:=_=_) ?_ ?_);· first|with_reducible assumption|rfl|exact sameL_int)|((with_reducible refine And.intro (a:=_≤_) ?_ ?_);· first|omega|exact sz_ok|exact Nat.le_of_ble_eq_true (by kernel_rfl))|((with_reducible refine And.intro (a:=_<_) ?_ ?_);· omega)|((with_reducible refine And.intro (a:=_∧_) ?_ ?_);· constructor<;>first|omega|(simp<;>omega))|(refine brk_true ?_ ?_;· first|rfl|(simp only [q1,q2,q3,q4,q7,q8,ne_eq,q5,q6];omega))|(refine brk_false ?_ ?_;· first|rfl|(simp only [q1,q2,q3,q4,q7,q8,ne_eq,q5,q6];omega))|(intro aa uu;(try dsimp only at uu);have okk:=uu.ok;have nxx:=uu.next;have lkk:=uu.lock;have imm:=uu.imp))
  try conv=>whnf
  refine .inl ?_
  repeat ((conv=>whnf);first|((with_reducible refine Exists.intro ?_ (Exists.intro ?_ (And.intro (a:=_=some (Blk.cells _ _)) ?_ ?_)));rotate_left 2;· (try dsimp only [List.getLast_singleton, List.getLast_cons_cons, List.cons_append, List.append_eq, List.nil_append]);(repeat first|with_reducible assumption|with_reducible exact uA (by assumption)|with_reducible exact nA (by assumption)|((with_reducible refine uN (by assumption) ?_ ?_);· omega)|((with_reducible refine nN (by assumption) ?_ ?_);· omega)))|((with_reducible refine Exists.intro ?_ (And.intro ?_ ?_));rotate_left;· first|with_reducible assumption|((conv=>lhs;arg 2;whnf);with_reducible assumption)|exact rfl)|((with_reducible refine And.intro (a:=AH.may _ _=true) ?_ ?_);· (try dsimp only);(repeat first|with_reducible assumption|((with_reducible refine New.mayNew (by assumption) (by assumption) ?_ ?_ ?_)<;>omega)|refine Upd.mayOf (by assumption) ?_|refine New.mayOf (by assumption) ?_|refine Ke.mayOf (by assumption) ?_))|((with_reducible refine And.intro (a:=szOf _ _=_) ?_ ?_);· refine Eq.trans (by assumption) ?_;kernel_rfl)|((with_reducible refine And.intro (a:=List.all _ _=true) ?_ ?_);· kernel_rfl)|((with_reducible refine And.intro (a:=_=_) ?_ ?_);· first|with_reducible assumption|rfl|exact sameL_int)|((with_reducible refine And.intro (a:=_≤_) ?_ ?_);· first|omega|exact sz_ok|exact Nat.le_of_ble_eq_true (by kernel_rfl))|((with_reducible refine And.intro (a:=_<_) ?_ ?_);· omega)|((with_reducible refine And.intro (a:=_∧_) ?_ ?_);· constructor<;>first|omega|(simp<;>omega))|(refine brk_true ?_ ?_;· first|rfl|(simp only [q1,q2,q3,q4,q7,q8,ne_eq,q5,q6];omega))|(refine brk_false ?_ ?_;· first|rfl|(simp only [q1,q2,q3,q4,q7,q8,ne_eq,q5,q6];omega))|(intro aa uu;(try dsimp only at uu);have okk:=uu.ok;have nxx:=uu.next;have lkk:=uu.lock;have imm:=uu.imp))
  try conv=>whnf
  refine .inl ?_
  repeat ((conv=>whnf);first|((with_reducible refine Exists.intro ?_ (Exists.intro ?_ (And.intro (a:=_=some (Blk.cells _ _)) ?_ ?_)));rotate_left 2;· (try dsimp only [List.getLast_singleton, List.getLast_cons_cons, List.cons_append, List.append_eq, List.nil_append]);(repeat first|with_reducible assumption|with_reducible exact uA (by assumption)|with_reducible exact nA (by assumption)|((with_reducible refine uN (by assumption) ?_ ?_);· omega)|((with_reducible refine nN (by assumption) ?_ ?_);· omega)))|((with_reducible refine Exists.intro ?_ (And.intro ?_ ?_));rotate_left;· first|with_reducible assumption|((conv=>lhs;arg 2;whnf);with_reducible assumption)|exact rfl)|((with_reducible refine And.intro (a:=AH.may _ _=true) ?_ ?_);· (try dsimp only);(repeat first|with_reducible assumption|((with_reducible refine New.mayNew (by assumption) (by assumption) ?_ ?_ ?_)<;>omega)|refine Upd.mayOf (by assumption) ?_|refine New.mayOf (by assumption) ?_|refine Ke.mayOf (by assumption) ?_))|((with_reducible refine And.intro (a:=szOf _ _=_) ?_ ?_);· refine Eq.trans (by assumption) ?_;kernel_rfl)|((with_reducible refine And.intro (a:=List.all _ _=true) ?_ ?_);· kernel_rfl)|((with_reducible refine And.intro (a:=_=_) ?_ ?_);· first|with_reducible assumption|rfl|exact sameL_int)|((with_reducible refine And.intro (a:=_≤_) ?_ ?_);· first|omega|exact sz_ok|exact Nat.le_of_ble_eq_true (by kernel_rfl))|((with_reducible refine And.intro (a:=_<_) ?_ ?_);· omega)|((with_reducible refine And.intro (a:=_∧_) ?_ ?_);· constructor<;>first|omega|(simp<;>omega))|(refine brk_true ?_ ?_;· first|rfl|(simp only [q1,q2,q3,q4,q7,q8,ne_eq,q5,q6];omega))|(refine brk_false ?_ ?_;· first|rfl|(simp only [q1,q2,q3,q4,q7,q8,ne_eq,q5,q6];omega))|(intro aa uu;(try dsimp only at uu);have okk:=uu.ok;have nxx:=uu.next;have lkk:=uu.lock;have imm:=uu.imp))
  try conv=>whnf
  rw [z1, z2, Int.zero_add, Int.zero_add]
  rfl

/-- A sequence that is valid, or is not. -/
theorem check_ok (E : Alike P Tryz.prog base walkG) {e n b d D m : Nat} {v : Value} {h0 h : AH} {K : Nat} {r : Int → Bool} (ha : AddAt P G ext base K h0 e v n b) (hs : SeqAt P G ext base K h0 D m v r) (hag : Ag K h0 h) (hK : K ≤ h.next) (hn : n ≤ 262144) (hb : b ≤ 4194304) (hok : HOK h) (hfl : h.fl = true) (hi : h.imp ≤ h.next) (hx : h.next + m ≤ 13000000) (he : e ≤ 900) (hd : 2 * e + 5 ≤ d) (hd2 : D + 1 ≤ d) :
    deepF P G ext 2199023255552 base mtG d 8 [.slice none 0 0, v] h = some (.int .i64 (if r 200 then 0 else 1), none) := by
  cases hr : r 200 with
  | true =>
    have u3:=U3 E;have s3:=S3 E
    have u4:=U4 E;have s4:=S4 E
    have u22:=U22 E;have s22:=S22 E
    have u24:=U24 E;have s24:=S24 E
    have u25:=U25 E;have s25:=S25 E
    have u26:=U26 E;have s26:=S26 E
    have u27:=U27 E;have s27:=S27 E
    have u29:=U29 E;have s29:=S29 E
    have u33:=U33 E;have s33:=S33 E
    have u61:=U61 E;have s61:=S61 E
    have u67:=U67 E;have s67:=S67 E
    have u68:=U68 E;have s68:=S68 E
    have u69:=U69 E;have s69:=S69 E
    have u71:=U71 E;have s71:=S71 E;have e71:=Z71 E
    refine over_eq (by omega) rfl (E.no 8 _ _ rfl) rfl ((E.fn 8).trans Tryz.func8) rfl hok rfl ?_
    have hokl := hok.locked
    have hnl : h.locked.next = h.next := rfl
    have hll : h.locked.lock = h.next := rfl
    have hil : h.locked.imp = h.imp := rfl
    have hfll : h.locked.fl = h.fl := rfl
    conv => whnf
    refine ⟨by simp [Tryz.f8], ?_⟩
    repeat ((conv=>whnf);first|((with_reducible refine Exists.intro ?_ (Exists.intro ?_ (And.intro (a:=_=some (Blk.cells _ _)) ?_ ?_)));rotate_left 2;· (try dsimp only);(repeat first|with_reducible assumption|with_reducible exact uA (by assumption)|with_reducible exact nA (by assumption)|((with_reducible refine uN (by assumption) ?_ ?_);· omega)|((with_reducible refine nN (by assumption) ?_ ?_);· omega)))|((with_reducible refine Exists.intro ?_ (And.intro ?_ ?_));rotate_left;· first|with_reducible assumption|((conv=>lhs;arg 2;whnf);with_reducible assumption)|exact rfl)|((with_reducible refine And.intro (a:=AH.may _ _=true) ?_ ?_);· (try dsimp only);(repeat first|with_reducible assumption|((with_reducible refine New.mayNew (by assumption) (by assumption) ?_ ?_ ?_)<;>omega)|refine Upd.mayOf (by assumption) ?_|refine New.mayOf (by assumption) ?_|refine Ke.mayOf (by assumption) ?_))|((with_reducible refine And.intro (a:=szOf _ _=_) ?_ ?_);· refine Eq.trans (by assumption) ?_;kernel_rfl)|((with_reducible refine And.intro (a:=List.all _ _=true) ?_ ?_);· kernel_rfl)|((with_reducible refine And.intro (a:=_=_) ?_ ?_);· first|with_reducible assumption|rfl)|((with_reducible refine And.intro (a:=_≤_) ?_ ?_);· first|omega|exact sz_ok|exact Nat.le_of_ble_eq_true (by kernel_rfl))|((with_reducible refine And.intro (a:=_<_) ?_ ?_);· omega)|((with_reducible refine And.intro (a:=_∧_) ?_ ?_);· constructor<;>first|omega|(simp<;>omega))|(refine brk_true ?_ ?_;· first|rfl|(simp only [q1,q2,q3,q4,q7,q8,ne_eq,q5,q6];omega))|(refine brk_false ?_ ?_;· first|rfl|(simp only [q1,q2,q3,q4,q7,q8,ne_eq,q5,q6];omega))|(intro aa uu;(try dsimp only at uu);have okk:=uu.ok;have nxx:=uu.next;have lkk:=uu.lock;have imm:=uu.imp))
    try conv=>whnf
    have hk : ∀ j, j < h.next → aa.get j = h.get j := (fun j hj => by repeat first|((with_reducible refine uN (by assumption) ?_ ?_);· omega)|((with_reducible refine nN (by assumption) ?_ ?_);· omega)|exact rfl)
    have hag2 : Ag K h0 aa := fun j hj => (hk j (by omega)).trans (hag j hj)
    refine callB_pure ((E.fn 11).trans Tryz.func11) rfl ?_
    refine ⟨by assumption, _, (size_fits E ha hag2 (by omega) hn hb (by assumption) (by omega) (by omega) he (by omega)), ?_⟩
    repeat ((conv=>whnf);first|((with_reducible refine Exists.intro ?_ (Exists.intro ?_ (And.intro (a:=_=some (Blk.cells _ _)) ?_ ?_)));rotate_left 2;· (try dsimp only);(repeat first|with_reducible assumption|with_reducible exact uA (by assumption)|with_reducible exact nA (by assumption)|((with_reducible refine uN (by assumption) ?_ ?_);· omega)|((with_reducible refine nN (by assumption) ?_ ?_);· omega)))|((with_reducible refine Exists.intro ?_ (And.intro ?_ ?_));rotate_left;· first|with_reducible assumption|((conv=>lhs;arg 2;whnf);with_reducible assumption)|exact rfl)|((with_reducible refine And.intro (a:=AH.may _ _=true) ?_ ?_);· (try dsimp only);(repeat first|with_reducible assumption|((with_reducible refine New.mayNew (by assumption) (by assumption) ?_ ?_ ?_)<;>omega)|refine Upd.mayOf (by assumption) ?_|refine New.mayOf (by assumption) ?_|refine Ke.mayOf (by assumption) ?_))|((with_reducible refine And.intro (a:=szOf _ _=_) ?_ ?_);· refine Eq.trans (by assumption) ?_;kernel_rfl)|((with_reducible refine And.intro (a:=List.all _ _=true) ?_ ?_);· kernel_rfl)|((with_reducible refine And.intro (a:=_=_) ?_ ?_);· first|with_reducible assumption|rfl)|((with_reducible refine And.intro (a:=_≤_) ?_ ?_);· first|omega|exact sz_ok|exact Nat.le_of_ble_eq_true (by kernel_rfl))|((with_reducible refine And.intro (a:=_<_) ?_ ?_);· omega)|((with_reducible refine And.intro (a:=_∧_) ?_ ?_);· constructor<;>first|omega|(simp<;>omega))|(refine brk_true ?_ ?_;· first|rfl|(simp only [q1,q2,q3,q4,q7,q8,ne_eq,q5,q6];omega))|(refine brk_false ?_ ?_;· first|rfl|(simp only [q1,q2,q3,q4,q7,q8,ne_eq,q5,q6];omega))|(intro aa uu;(try dsimp only at uu);have okk:=uu.ok;have nxx:=uu.next;have lkk:=uu.lock;have imm:=uu.imp))
    try conv=>whnf
    refine callB_pure ((E.fn 17).trans Tryz.func17) rfl ?_
    refine ⟨by assumption, _, (hs (d - 1) _ 200 _ (by assumption) (by repeat first|with_reducible assumption|refine Upd.flOf (by assumption) ?_|refine New.flOf (by assumption) ?_|refine Ke.flOf (by assumption) ?_|exact hfl|exact rfl) (by omega) (by omega) (by omega) hag2 (by omega) (by omega) (by omega)), ?_⟩
    rw [hr]
    repeat ((conv=>whnf);first|((with_reducible refine Exists.intro ?_ (Exists.intro ?_ (And.intro (a:=_=some (Blk.cells _ _)) ?_ ?_)));rotate_left 2;· (try dsimp only);(repeat first|with_reducible assumption|with_reducible exact uA (by assumption)|with_reducible exact nA (by assumption)|((with_reducible refine uN (by assumption) ?_ ?_);· omega)|((with_reducible refine nN (by assumption) ?_ ?_);· omega)))|((with_reducible refine Exists.intro ?_ (And.intro ?_ ?_));rotate_left;· first|with_reducible assumption|((conv=>lhs;arg 2;whnf);with_reducible assumption)|exact rfl)|((with_reducible refine And.intro (a:=AH.may _ _=true) ?_ ?_);· (try dsimp only);(repeat first|with_reducible assumption|((with_reducible refine New.mayNew (by assumption) (by assumption) ?_ ?_ ?_)<;>omega)|refine Upd.mayOf (by assumption) ?_|refine New.mayOf (by assumption) ?_|refine Ke.mayOf (by assumption) ?_))|((with_reducible refine And.intro (a:=szOf _ _=_) ?_ ?_);· refine Eq.trans (by assumption) ?_;kernel_rfl)|((with_reducible refine And.intro (a:=List.all _ _=true) ?_ ?_);· kernel_rfl)|((with_reducible refine And.intro (a:=_=_) ?_ ?_);· first|with_reducible assumption|rfl)|((with_reducible refine And.intro (a:=_≤_) ?_ ?_);· first|omega|exact sz_ok|exact Nat.le_of_ble_eq_true (by kernel_rfl))|((with_reducible refine And.intro (a:=_<_) ?_ ?_);· omega)|((with_reducible refine And.intro (a:=_∧_) ?_ ?_);· constructor<;>first|omega|(simp<;>omega))|(refine brk_true ?_ ?_;· first|rfl|(simp only [q1,q2,q3,q4,q7,q8,ne_eq,q5,q6];omega))|(refine brk_false ?_ ?_;· first|rfl|(simp only [q1,q2,q3,q4,q7,q8,ne_eq,q5,q6];omega))|(intro aa uu;(try dsimp only at uu);have okk:=uu.ok;have nxx:=uu.next;have lkk:=uu.lock;have imm:=uu.imp))
    try conv=>whnf
    rfl
  | false =>
    have u3:=U3 E;have s3:=S3 E
    have u4:=U4 E;have s4:=S4 E
    have u22:=U22 E;have s22:=S22 E
    have u24:=U24 E;have s24:=S24 E
    have u25:=U25 E;have s25:=S25 E
    have u26:=U26 E;have s26:=S26 E
    have u27:=U27 E;have s27:=S27 E
    have u29:=U29 E;have s29:=S29 E
    have u33:=U33 E;have s33:=S33 E
    have u61:=U61 E;have s61:=S61 E
    have u67:=U67 E;have s67:=S67 E
    have u68:=U68 E;have s68:=S68 E
    have u69:=U69 E;have s69:=S69 E
    have u71:=U71 E;have s71:=S71 E;have e71:=Z71 E
    refine over_eq (by omega) rfl (E.no 8 _ _ rfl) rfl ((E.fn 8).trans Tryz.func8) rfl hok rfl ?_
    have hokl := hok.locked
    have hnl : h.locked.next = h.next := rfl
    have hll : h.locked.lock = h.next := rfl
    have hil : h.locked.imp = h.imp := rfl
    have hfll : h.locked.fl = h.fl := rfl
    conv => whnf
    refine ⟨by simp [Tryz.f8], ?_⟩
    repeat ((conv=>whnf);first|((with_reducible refine Exists.intro ?_ (Exists.intro ?_ (And.intro (a:=_=some (Blk.cells _ _)) ?_ ?_)));rotate_left 2;· (try dsimp only);(repeat first|with_reducible assumption|with_reducible exact uA (by assumption)|with_reducible exact nA (by assumption)|((with_reducible refine uN (by assumption) ?_ ?_);· omega)|((with_reducible refine nN (by assumption) ?_ ?_);· omega)))|((with_reducible refine Exists.intro ?_ (And.intro ?_ ?_));rotate_left;· first|with_reducible assumption|((conv=>lhs;arg 2;whnf);with_reducible assumption)|exact rfl)|((with_reducible refine And.intro (a:=AH.may _ _=true) ?_ ?_);· (try dsimp only);(repeat first|with_reducible assumption|((with_reducible refine New.mayNew (by assumption) (by assumption) ?_ ?_ ?_)<;>omega)|refine Upd.mayOf (by assumption) ?_|refine New.mayOf (by assumption) ?_|refine Ke.mayOf (by assumption) ?_))|((with_reducible refine And.intro (a:=szOf _ _=_) ?_ ?_);· refine Eq.trans (by assumption) ?_;kernel_rfl)|((with_reducible refine And.intro (a:=List.all _ _=true) ?_ ?_);· kernel_rfl)|((with_reducible refine And.intro (a:=_=_) ?_ ?_);· first|with_reducible assumption|rfl)|((with_reducible refine And.intro (a:=_≤_) ?_ ?_);· first|omega|exact sz_ok|exact Nat.le_of_ble_eq_true (by kernel_rfl))|((with_reducible refine And.intro (a:=_<_) ?_ ?_);· omega)|((with_reducible refine And.intro (a:=_∧_) ?_ ?_);· constructor<;>first|omega|(simp<;>omega))|(refine brk_true ?_ ?_;· first|rfl|(simp only [q1,q2,q3,q4,q7,q8,ne_eq,q5,q6];omega))|(refine brk_false ?_ ?_;· first|rfl|(simp only [q1,q2,q3,q4,q7,q8,ne_eq,q5,q6];omega))|(intro aa uu;(try dsimp only at uu);have okk:=uu.ok;have nxx:=uu.next;have lkk:=uu.lock;have imm:=uu.imp))
    try conv=>whnf
    have hk : ∀ j, j < h.next → aa.get j = h.get j := (fun j hj => by repeat first|((with_reducible refine uN (by assumption) ?_ ?_);· omega)|((with_reducible refine nN (by assumption) ?_ ?_);· omega)|exact rfl)
    have hag2 : Ag K h0 aa := fun j hj => (hk j (by omega)).trans (hag j hj)
    refine callB_pure ((E.fn 11).trans Tryz.func11) rfl ?_
    refine ⟨by assumption, _, (size_fits E ha hag2 (by omega) hn hb (by assumption) (by omega) (by omega) he (by omega)), ?_⟩
    repeat ((conv=>whnf);first|((with_reducible refine Exists.intro ?_ (Exists.intro ?_ (And.intro (a:=_=some (Blk.cells _ _)) ?_ ?_)));rotate_left 2;· (try dsimp only);(repeat first|with_reducible assumption|with_reducible exact uA (by assumption)|with_reducible exact nA (by assumption)|((with_reducible refine uN (by assumption) ?_ ?_);· omega)|((with_reducible refine nN (by assumption) ?_ ?_);· omega)))|((with_reducible refine Exists.intro ?_ (And.intro ?_ ?_));rotate_left;· first|with_reducible assumption|((conv=>lhs;arg 2;whnf);with_reducible assumption)|exact rfl)|((with_reducible refine And.intro (a:=AH.may _ _=true) ?_ ?_);· (try dsimp only);(repeat first|with_reducible assumption|((with_reducible refine New.mayNew (by assumption) (by assumption) ?_ ?_ ?_)<;>omega)|refine Upd.mayOf (by assumption) ?_|refine New.mayOf (by assumption) ?_|refine Ke.mayOf (by assumption) ?_))|((with_reducible refine And.intro (a:=szOf _ _=_) ?_ ?_);· refine Eq.trans (by assumption) ?_;kernel_rfl)|((with_reducible refine And.intro (a:=List.all _ _=true) ?_ ?_);· kernel_rfl)|((with_reducible refine And.intro (a:=_=_) ?_ ?_);· first|with_reducible assumption|rfl)|((with_reducible refine And.intro (a:=_≤_) ?_ ?_);· first|omega|exact sz_ok|exact Nat.le_of_ble_eq_true (by kernel_rfl))|((with_reducible refine And.intro (a:=_<_) ?_ ?_);· omega)|((with_reducible refine And.intro (a:=_∧_) ?_ ?_);· constructor<;>first|omega|(simp<;>omega))|(refine brk_true ?_ ?_;· first|rfl|(simp only [q1,q2,q3,q4,q7,q8,ne_eq,q5,q6];omega))|(refine brk_false ?_ ?_;· first|rfl|(simp only [q1,q2,q3,q4,q7,q8,ne_eq,q5,q6];omega))|(intro aa uu;(try dsimp only at uu);have okk:=uu.ok;have nxx:=uu.next;have lkk:=uu.lock;have imm:=uu.imp))
    try conv=>whnf
    refine callB_pure ((E.fn 17).trans Tryz.func17) rfl ?_
    refine ⟨by assumption, _, (hs (d - 1) _ 200 _ (by assumption) (by repeat first|with_reducible assumption|refine Upd.flOf (by assumption) ?_|refine New.flOf (by assumption) ?_|refine Ke.flOf (by assumption) ?_|exact hfl|exact rfl) (by omega) (by omega) (by omega) hag2 (by omega) (by omega) (by omega)), ?_⟩
    rw [hr]
    repeat ((conv=>whnf);first|((with_reducible refine Exists.intro ?_ (Exists.intro ?_ (And.intro (a:=_=some (Blk.cells _ _)) ?_ ?_)));rotate_left 2;· (try dsimp only);(repeat first|with_reducible assumption|with_reducible exact uA (by assumption)|with_reducible exact nA (by assumption)|((with_reducible refine uN (by assumption) ?_ ?_);· omega)|((with_reducible refine nN (by assumption) ?_ ?_);· omega)))|((with_reducible refine Exists.intro ?_ (And.intro ?_ ?_));rotate_left;· first|with_reducible assumption|((conv=>lhs;arg 2;whnf);with_reducible assumption)|exact rfl)|((with_reducible refine And.intro (a:=AH.may _ _=true) ?_ ?_);· (try dsimp only);(repeat first|with_reducible assumption|((with_reducible refine New.mayNew (by assumption) (by assumption) ?_ ?_ ?_)<;>omega)|refine Upd.mayOf (by assumption) ?_|refine New.mayOf (by assumption) ?_|refine Ke.mayOf (by assumption) ?_))|((with_reducible refine And.intro (a:=szOf _ _=_) ?_ ?_);· refine Eq.trans (by assumption) ?_;kernel_rfl)|((with_reducible refine And.intro (a:=List.all _ _=true) ?_ ?_);· kernel_rfl)|((with_reducible refine And.intro (a:=_=_) ?_ ?_);· first|with_reducible assumption|rfl)|((with_reducible refine And.intro (a:=_≤_) ?_ ?_);· first|omega|exact sz_ok|exact Nat.le_of_ble_eq_true (by kernel_rfl))|((with_reducible refine And.intro (a:=_<_) ?_ ?_);· omega)|((with_reducible refine And.intro (a:=_∧_) ?_ ?_);· constructor<;>first|omega|(simp<;>omega))|(refine brk_true ?_ ?_;· first|rfl|(simp only [q1,q2,q3,q4,q7,q8,ne_eq,q5,q6];omega))|(refine brk_false ?_ ?_;· first|rfl|(simp only [q1,q2,q3,q4,q7,q8,ne_eq,q5,q6];omega))|(intro aa uu;(try dsimp only at uu);have okk:=uu.ok;have nxx:=uu.next;have lkk:=uu.lock;have imm:=uu.imp))
    try conv=>whnf
    rfl

/-- What is not valid has no atoms. -/
theorem atoms_bad (E : Alike P Tryz.prog base walkG) {e n b d D m : Nat} {v : Value} {h0 h : AH} {K : Nat} {r : Int → Bool} (hr : r 200 = false) (ha : AddAt P G ext base K h0 e v n b) (hs : SeqAt P G ext base K h0 D m v r) (hag : Ag K h0 h) (hK : K ≤ h.next) (hn : n ≤ 262144) (hb : b ≤ 4194304) (hok : HOK h) (hfl : h.fl = true) (hi : h.imp ≤ h.next) (hx : h.next + m ≤ 12000000) (he : e ≤ 900) (hd : 2 * e + 6 ≤ d) (hd2 : D + 2 ≤ d) :
    deepF P G ext 2199023255552 base mtG d 7 [.slice none 0 0, v] h = some (.tuple #[.slice none 0 0, .int .i64 1], none) := by
  have u3:=U3 E;have s3:=S3 E;have e3:=Z3 E
  have u9:=U9 E;have s9:=S9 E
  have u22:=U22 E;have s22:=S22 E
  have u24:=U24 E;have s24:=S24 E
  have u25:=U25 E;have s25:=S25 E
  have u26:=U26 E;have s26:=S26 E
  have u27:=U27 E;have s27:=S27 E
  have u29:=U29 E;have s29:=S29 E
  have u32:=U32 E;have s32:=S32 E;have a32:=A32 E;have e32:=Z32 E
  have u33:=U33 E;have s33:=S33 E
  have u61:=U61 E;have s61:=S61 E;have a61:=A61 E
  have u63:=U63 E;have s63:=S63 E
  have u65:=U65 E;have s65:=S65 E
  have u67:=U67 E;have s67:=S67 E
  refine over_eq (by omega) rfl (E.no 7 _ _ rfl) rfl ((E.fn 7).trans Tryz.func7) rfl hok rfl ?_
  have hokl := hok.locked
  have hnl : h.locked.next = h.next := rfl
  have hll : h.locked.lock = h.next := rfl
  have hil : h.locked.imp = h.imp := rfl
  have hfll : h.locked.fl = h.fl := rfl
  conv => whnf
  refine ⟨by simp [Tryz.f7], ?_⟩
  repeat ((conv=>whnf);first|((with_reducible refine Exists.intro ?_ (Exists.intro ?_ (And.intro (a:=_=some (Blk.cells _ _)) ?_ ?_)));rotate_left 2;· (try dsimp only);(repeat first|with_reducible assumption|with_reducible exact uA (by assumption)|with_reducible exact nA (by assumption)|((with_reducible refine uN (by assumption) ?_ ?_);· omega)|((with_reducible refine nN (by assumption) ?_ ?_);· omega)))|((with_reducible refine Exists.intro ?_ (And.intro ?_ ?_));rotate_left;· first|with_reducible assumption|((conv=>lhs;arg 2;whnf);with_reducible assumption)|exact rfl)|((with_reducible refine And.intro (a:=AH.may _ _=true) ?_ ?_);· (try dsimp only);(repeat first|with_reducible assumption|((with_reducible refine New.mayNew (by assumption) (by assumption) ?_ ?_ ?_)<;>omega)|refine Upd.mayOf (by assumption) ?_|refine New.mayOf (by assumption) ?_|refine Ke.mayOf (by assumption) ?_))|((with_reducible refine And.intro (a:=szOf _ _=_) ?_ ?_);· refine Eq.trans (by assumption) ?_;kernel_rfl)|((with_reducible refine And.intro (a:=List.all _ _=true) ?_ ?_);· kernel_rfl)|((with_reducible refine And.intro (a:=_=_) ?_ ?_);· first|with_reducible assumption|rfl)|((with_reducible refine And.intro (a:=_≤_) ?_ ?_);· first|omega|exact sz_ok|exact Nat.le_of_ble_eq_true (by kernel_rfl))|((with_reducible refine And.intro (a:=_<_) ?_ ?_);· omega)|((with_reducible refine And.intro (a:=_∧_) ?_ ?_);· constructor<;>first|omega|(simp<;>omega))|(refine brk_true ?_ ?_;· first|rfl|(simp only [q1,q2,q3,q4,q7,q8,ne_eq,q5,q6];omega))|(refine brk_false ?_ ?_;· first|rfl|(simp only [q1,q2,q3,q4,q7,q8,ne_eq,q5,q6];omega))|(intro aa uu;(try dsimp only at uu);have okk:=uu.ok;have nxx:=uu.next;have lkk:=uu.lock;have imm:=uu.imp))
  try conv=>whnf
  have hk : ∀ j, j < h.next → aa.get j = h.get j := (fun j hj => by repeat first|((with_reducible refine uN (by assumption) ?_ ?_);· omega)|((with_reducible refine nN (by assumption) ?_ ?_);· omega)|exact rfl)
  have hag2 : Ag K h0 aa := fun j hj => (hk j (by omega)).trans (hag j hj)
  refine callB_pure ((E.fn 8).trans Tryz.func8) rfl ?_
  refine ⟨by assumption, _, ((check_ok E ha hs hag2 (by omega) hn hb (by assumption) (by repeat first|with_reducible assumption|refine Upd.flOf (by assumption) ?_|refine New.flOf (by assumption) ?_|refine Ke.flOf (by assumption) ?_|exact hfl|exact rfl) (by omega) (by omega) he (by omega) (by omega)).trans (by rw [hr])), ?_⟩
  repeat ((conv=>whnf);first|((with_reducible refine Exists.intro ?_ (Exists.intro ?_ (And.intro (a:=_=some (Blk.cells _ _)) ?_ ?_)));rotate_left 2;· (try dsimp only);(repeat first|with_reducible assumption|with_reducible exact uA (by assumption)|with_reducible exact nA (by assumption)|((with_reducible refine uN (by assumption) ?_ ?_);· omega)|((with_reducible refine nN (by assumption) ?_ ?_);· omega)))|((with_reducible refine Exists.intro ?_ (And.intro ?_ ?_));rotate_left;· first|with_reducible assumption|((conv=>lhs;arg 2;whnf);with_reducible assumption)|exact rfl)|((with_reducible refine And.intro (a:=AH.may _ _=true) ?_ ?_);· (try dsimp only);(repeat first|with_reducible assumption|((with_reducible refine New.mayNew (by assumption) (by assumption) ?_ ?_ ?_)<;>omega)|refine Upd.mayOf (by assumption) ?_|refine New.mayOf (by assumption) ?_|refine Ke.mayOf (by assumption) ?_))|((with_reducible refine And.intro (a:=szOf _ _=_) ?_ ?_);· refine Eq.trans (by assumption) ?_;kernel_rfl)|((with_reducible refine And.intro (a:=List.all _ _=true) ?_ ?_);· kernel_rfl)|((with_reducible refine And.intro (a:=_=_) ?_ ?_);· first|with_reducible assumption|rfl)|((with_reducible refine And.intro (a:=_≤_) ?_ ?_);· first|omega|exact sz_ok|exact Nat.le_of_ble_eq_true (by kernel_rfl))|((with_reducible refine And.intro (a:=_<_) ?_ ?_);· omega)|((with_reducible refine And.intro (a:=_∧_) ?_ ?_);· constructor<;>first|omega|(simp<;>omega))|(refine brk_true ?_ ?_;· first|rfl|(simp only [q1,q2,q3,q4,q7,q8,ne_eq,q5,q6];omega))|(refine brk_false ?_ ?_;· first|rfl|(simp only [q1,q2,q3,q4,q7,q8,ne_eq,q5,q6];omega))|(intro aa uu;(try dsimp only at uu);have okk:=uu.ok;have nxx:=uu.next;have lkk:=uu.lock;have imm:=uu.imp))
  try conv=>whnf
  rfl

abbrev f1V : Value := .func (.func 14) #[] #[]
abbrev f2V (bo bt y : Nat) : Value := .func (.func 15) #[] #[pt bo, pt bt, pt y]


set_option maxHeartbeats 4000000 in
/-- Too many atoms. -/
theorem atoms_full (E : Alike P Tryz.prog base walkG) {e n b d D m D1 w1 D2 w2 : Nat} {v : Value} {h0 h : AH} {K : Nat} {r : Int → Bool} {g1 : Unit → Option Unit} {g2 : List (Int × ByteArray) → Option (List (Int × ByteArray))} (hr : r 200 = true) (ha : AddAt P G ext base K h0 e v n b) (hs : SeqAt P G ext base K h0 D m v r)
    (h1 : ∀ L, K ≤ L → HasAt P G ext base K h0 L D1 w1 f1V (fun _ _ => True) v g1) (hg1 : g1 () = some ()) (h2 : ∀ L bo bt y, bo ≠ y → K ≤ bo → K ≤ y → bo < L → y < L → HasAt P G ext base K h0 L D2 w2 (f2V bo bt y) (StA P L bo y) v g2) (hg2 : g2 [] = none)
    (hag : Ag K h0 h) (hK : K = h.next) (hn : n ≤ 262144) (hb : b ≤ 4194304) (hok : HOK h) (hfl : h.fl = true) (hi : h.imp ≤ h.next) (hx : h.next + m ≤ 12000000) (hw : h.next + w1 + w2 ≤ 12000000) (he : e ≤ 900) (hd : 2 * e + 6 ≤ d) (hd2 : D + 2 ≤ d) (hd3 : D1 + 2 ≤ d) (hd4 : D2 + 2 ≤ d) :
    deepF P G ext 2199023255552 base mtG d 7 [.slice none 0 0, v] h = some (.tuple #[.slice none 0 0, .int .i64 7], none) := by
  have u3:=U3 E;have s3:=S3 E;have e3:=Z3 E
  have u9:=U9 E;have s9:=S9 E
  have u22:=U22 E;have s22:=S22 E
  have u24:=U24 E;have s24:=S24 E
  have u25:=U25 E;have s25:=S25 E
  have u26:=U26 E;have s26:=S26 E
  have u27:=U27 E;have s27:=S27 E
  have u29:=U29 E;have s29:=S29 E
  have u32:=U32 E;have s32:=S32 E;have a32:=A32 E;have e32:=Z32 E
  have u33:=U33 E;have s33:=S33 E
  have u61:=U61 E;have s61:=S61 E;have a61:=A61 E
  have u63:=U63 E;have s63:=S63 E
  have u65:=U65 E;have s65:=S65 E
  have u67:=U67 E;have s67:=S67 E
  refine over_eq (by omega) rfl (E.no 7 _ _ rfl) rfl ((E.fn 7).trans Tryz.func7) rfl hok rfl ?_
  have hokl := hok.locked
  have hnl : h.locked.next = h.next := rfl
  have hll : h.locked.lock = h.next := rfl
  have hil : h.locked.imp = h.imp := rfl
  have hfll : h.locked.fl = h.fl := rfl
  conv => whnf
  refine ⟨by simp [Tryz.f7], ?_⟩
  repeat ((conv=>whnf);first|((with_reducible refine Exists.intro ?_ (Exists.intro ?_ (And.intro (a:=_=some (Blk.cells _ _)) ?_ ?_)));rotate_left 2;· (try dsimp only);(repeat first|with_reducible assumption|with_reducible exact uA (by assumption)|with_reducible exact nA (by assumption)|((with_reducible refine uN (by assumption) ?_ ?_);· omega)|((with_reducible refine nN (by assumption) ?_ ?_);· omega)))|((with_reducible refine Exists.intro ?_ (And.intro ?_ ?_));rotate_left;· first|with_reducible assumption|((conv=>lhs;arg 2;whnf);with_reducible assumption)|exact rfl)|((with_reducible refine And.intro (a:=AH.may _ _=true) ?_ ?_);· (try dsimp only);(repeat first|with_reducible assumption|((with_reducible refine New.mayNew (by assumption) (by assumption) ?_ ?_ ?_)<;>omega)|refine Upd.mayOf (by assumption) ?_|refine New.mayOf (by assumption) ?_|refine Ke.mayOf (by assumption) ?_))|((with_reducible refine And.intro (a:=szOf _ _=_) ?_ ?_);· refine Eq.trans (by assumption) ?_;kernel_rfl)|((with_reducible refine And.intro (a:=List.all _ _=true) ?_ ?_);· kernel_rfl)|((with_reducible refine And.intro (a:=_=_) ?_ ?_);· first|with_reducible assumption|rfl)|((with_reducible refine And.intro (a:=_≤_) ?_ ?_);· first|omega|exact sz_ok|exact Nat.le_of_ble_eq_true (by kernel_rfl))|((with_reducible refine And.intro (a:=_<_) ?_ ?_);· omega)|((with_reducible refine And.intro (a:=_∧_) ?_ ?_);· constructor<;>first|omega|(simp<;>omega))|(refine brk_true ?_ ?_;· first|rfl|(simp only [q1,q2,q3,q4,q7,q8,ne_eq,q5,q6];omega))|(refine brk_false ?_ ?_;· first|rfl|(simp only [q1,q2,q3,q4,q7,q8,ne_eq,q5,q6];omega))|(intro aa uu;(try dsimp only at uu);have okk:=uu.ok;have nxx:=uu.next;have lkk:=uu.lock;have imm:=uu.imp))
  try conv=>whnf
  have hk : ∀ j, j < h.next → aa.get j = h.get j := (fun j hj => by repeat first|((with_reducible refine uN (by assumption) ?_ ?_);· omega)|((with_reducible refine nN (by assumption) ?_ ?_);· omega)|exact rfl)
  have hag2 : Ag K h0 aa := fun j hj => (hk j (by omega)).trans (hag j hj)
  refine callB_pure ((E.fn 8).trans Tryz.func8) rfl ?_
  refine ⟨by assumption, _, ((check_ok E ha hs hag2 (by omega) hn hb (by assumption) (by repeat first|with_reducible assumption|refine Upd.flOf (by assumption) ?_|refine New.flOf (by assumption) ?_|refine Ke.flOf (by assumption) ?_|exact hfl|exact rfl) (by omega) (by omega) he (by omega) (by omega)).trans (by rw [hr])), ?_⟩
  repeat ((conv=>whnf);first|((with_reducible refine Exists.intro ?_ (Exists.intro ?_ (And.intro (a:=_=some (Blk.cells _ _)) ?_ ?_)));rotate_left 2;· (try dsimp only);(repeat first|with_reducible assumption|with_reducible exact uA (by assumption)|with_reducible exact nA (by assumption)|((with_reducible refine uN (by assumption) ?_ ?_);· omega)|((with_reducible refine nN (by assumption) ?_ ?_);· omega)))|((with_reducible refine Exists.intro ?_ (And.intro ?_ ?_));rotate_left;· first|with_reducible assumption|((conv=>lhs;arg 2;whnf);with_reducible assumption)|exact rfl)|((with_reducible refine And.intro (a:=AH.may _ _=true) ?_ ?_);· (try dsimp only);(repeat first|with_reducible assumption|((with_reducible refine New.mayNew (by assumption) (by assumption) ?_ ?_ ?_)<;>omega)|refine Upd.mayOf (by assumption) ?_|refine New.mayOf (by assumption) ?_|refine Ke.mayOf (by assumption) ?_))|((with_reducible refine And.intro (a:=szOf _ _=_) ?_ ?_);· refine Eq.trans (by assumption) ?_;kernel_rfl)|((with_reducible refine And.intro (a:=List.all _ _=true) ?_ ?_);· kernel_rfl)|((with_reducible refine And.intro (a:=_=_) ?_ ?_);· first|with_reducible assumption|rfl)|((with_reducible refine And.intro (a:=_≤_) ?_ ?_);· first|omega|exact sz_ok|exact Nat.le_of_ble_eq_true (by kernel_rfl))|((with_reducible refine And.intro (a:=_<_) ?_ ?_);· omega)|((with_reducible refine And.intro (a:=_∧_) ?_ ?_);· constructor<;>first|omega|(simp<;>omega))|(refine brk_true ?_ ?_;· first|rfl|(simp only [q1,q2,q3,q4,q7,q8,ne_eq,q5,q6];omega))|(refine brk_false ?_ ?_;· first|rfl|(simp only [q1,q2,q3,q4,q7,q8,ne_eq,q5,q6];omega))|(intro aa uu;(try dsimp only at uu);have okk:=uu.ok;have nxx:=uu.next;have lkk:=uu.lock;have imm:=uu.imp))
  try conv=>whnf
  have hfa : aa.fl = true := (show aa.fl = h.fl from (by repeat first|with_reducible assumption|refine Upd.flOf (by assumption) ?_|refine New.flOf (by assumption) ?_|refine Ke.flOf (by assumption) ?_|exact hfl|exact rfl)).trans hfl
  have q1 := h1 (h.next + 1) (by omega) (d - 1) aa () (by omega) ⟨by assumption, by omega, by omega, by omega, hfa, hag2⟩ (by omega) trivial
  obtain ⟨u1, k1, e1, o1, rfl, ⟨m1, m2, m3, m4, m5, m6⟩, _⟩ := q1
  rw [hg1] at e1
  have hk2 : ∀ j, j < h.next → k1.get j = h.get j := fun j hj => by
    rcases Nat.lt_or_ge j K with hz | hz
    · exact (m6 j (by omega) (.inl hz)).trans (hk j hj)
    · exact (m6 j (by omega) (.inl (by omega))).trans (hk j hj)
  refine callB_heap ((E.fn 13).trans Tryz.func13) rfl ?_
  refine ⟨fun v h' => v = .bool false ∧ h' = k1, ⟨_, _, e1, o1, rfl, rfl⟩, ?_⟩
  rintro v3 k2 hok3 ⟨rfl, rfl⟩
  repeat ((conv=>whnf);first|((with_reducible refine Exists.intro ?_ (Exists.intro ?_ (And.intro (a:=_=some (Blk.cells _ _)) ?_ ?_)));rotate_left 2;· (try dsimp only);(repeat first|with_reducible assumption|with_reducible exact uA (by assumption)|with_reducible exact nA (by assumption)|((with_reducible refine uN (by assumption) ?_ ?_);· omega)|((with_reducible refine nN (by assumption) ?_ ?_);· omega)))|((with_reducible refine Exists.intro ?_ (And.intro ?_ ?_));rotate_left;· first|with_reducible assumption|((conv=>lhs;arg 2;whnf);with_reducible assumption)|exact rfl)|((with_reducible refine And.intro (a:=AH.may _ _=true) ?_ ?_);· (try dsimp only);(repeat first|with_reducible assumption|((with_reducible refine New.mayNew (by assumption) (by assumption) ?_ ?_ ?_)<;>omega)|refine Upd.mayOf (by assumption) ?_|refine New.mayOf (by assumption) ?_|refine Ke.mayOf (by assumption) ?_))|((with_reducible refine And.intro (a:=szOf _ _=_) ?_ ?_);· refine Eq.trans (by assumption) ?_;kernel_rfl)|((with_reducible refine And.intro (a:=List.all _ _=true) ?_ ?_);· kernel_rfl)|((with_reducible refine And.intro (a:=_=_) ?_ ?_);· first|with_reducible assumption|rfl)|((with_reducible refine And.intro (a:=_≤_) ?_ ?_);· first|omega|exact sz_ok|exact Nat.le_of_ble_eq_true (by kernel_rfl))|((with_reducible refine And.intro (a:=_<_) ?_ ?_);· omega)|((with_reducible refine And.intro (a:=_∧_) ?_ ?_);· constructor<;>first|omega|(simp<;>omega))|(refine brk_true ?_ ?_;· first|rfl|(simp only [q1,q2,q3,q4,q7,q8,ne_eq,q5,q6];omega))|(refine brk_false ?_ ?_;· first|rfl|(simp only [q1,q2,q3,q4,q7,q8,ne_eq,q5,q6];omega))|(intro aa uu;(try dsimp only at uu);have okk:=uu.ok;have nxx:=uu.next;have lkk:=uu.lock;have imm:=uu.imp))
  try conv=>whnf
  rename_i b1 u1 o1 n1 l1 i1 c1 u2 o2 n2 l2 i2
  have hy1 : aa.get b1.next = some (.cells #[.int .i64 ((byA [] : Nat) : Int)] (tyOf P 3)) := uu.at
  have hy2 : aa.get k2.next = some (.cells #[.slice none 0 0] (tyOf P 32)) := by
    rw [uu.get, if_neg (by omega), u2.get, if_neg (by omega)]
    exact u1.at
  have hk3 : ∀ j, j < h.next → aa.get j = h.get j := fun j hj => by
    rw [uu.get, if_neg (by omega), u2.get, if_neg (by omega), u1.get, if_neg (by omega)]
    exact hk2 j hj
  have hfb : aa.fl = true := by rw [uu.fl, u2.fl, u1.fl, m5]; exact hfa
  have hSt : StA P aa.next k2.next b1.next [] aa := ⟨.slice none 0 0, 33554432, hy1, may_ge (by omega) (by omega) (by omega), may_ge (by omega) (by omega) (by omega), by omega, by omega, by simp, Nat.zero_le _, hy2, .inl ⟨rfl, rfl, rfl, rfl⟩, by omega⟩
  have q2 := h2 aa.next k2.next h.locked.next b1.next (by omega) (by omega) (by omega) (by omega) (by omega) (d - 1) aa [] (by omega) ⟨by assumption, by omega, by omega, by omega, hfb, fun j hj => (hk3 j (by omega)).trans (hag j hj)⟩ (by omega) hSt
  obtain ⟨u5, k4, e4, o4, rfl, lim4, st4⟩ := q2
  rw [hg2] at e4
  refine callB_heap ((E.fn 13).trans Tryz.func13) rfl ?_
  refine ⟨fun v h' => v = .bool true ∧ h' = k4, ⟨_, _, e4, o4, rfl, rfl⟩, ?_⟩
  rintro v3 k5 hok5 ⟨rfl, rfl⟩
  repeat ((conv=>whnf);first|((with_reducible refine Exists.intro ?_ (Exists.intro ?_ (And.intro (a:=_=some (Blk.cells _ _)) ?_ ?_)));rotate_left 2;· (try dsimp only);(repeat first|with_reducible assumption|with_reducible exact uA (by assumption)|with_reducible exact nA (by assumption)|((with_reducible refine uN (by assumption) ?_ ?_);· omega)|((with_reducible refine nN (by assumption) ?_ ?_);· omega)))|((with_reducible refine Exists.intro ?_ (And.intro ?_ ?_));rotate_left;· first|with_reducible assumption|((conv=>lhs;arg 2;whnf);with_reducible assumption)|exact rfl)|((with_reducible refine And.intro (a:=AH.may _ _=true) ?_ ?_);· (try dsimp only);(repeat first|with_reducible assumption|((with_reducible refine New.mayNew (by assumption) (by assumption) ?_ ?_ ?_)<;>omega)|refine Upd.mayOf (by assumption) ?_|refine New.mayOf (by assumption) ?_|refine Ke.mayOf (by assumption) ?_))|((with_reducible refine And.intro (a:=szOf _ _=_) ?_ ?_);· refine Eq.trans (by assumption) ?_;kernel_rfl)|((with_reducible refine And.intro (a:=List.all _ _=true) ?_ ?_);· kernel_rfl)|((with_reducible refine And.intro (a:=_=_) ?_ ?_);· first|with_reducible assumption|rfl)|((with_reducible refine And.intro (a:=_≤_) ?_ ?_);· first|omega|exact sz_ok|exact Nat.le_of_ble_eq_true (by kernel_rfl))|((with_reducible refine And.intro (a:=_<_) ?_ ?_);· omega)|((with_reducible refine And.intro (a:=_∧_) ?_ ?_);· constructor<;>first|omega|(simp<;>omega))|(refine brk_true ?_ ?_;· first|rfl|(simp only [q1,q2,q3,q4,q7,q8,ne_eq,q5,q6];omega))|(refine brk_false ?_ ?_;· first|rfl|(simp only [q1,q2,q3,q4,q7,q8,ne_eq,q5,q6];omega))|(intro aa uu;(try dsimp only at uu);have okk:=uu.ok;have nxx:=uu.next;have lkk:=uu.lock;have imm:=uu.imp))
  try conv=>whnf
  rfl

set_option maxHeartbeats 4000000 in
/-- The atoms. -/
theorem atoms_ok (E : Alike P Tryz.prog base walkG) {e n b d D m D1 w1 D2 w2 : Nat} {v : Value} {h0 h : AH} {K : Nat} {r : Int → Bool} {g1 : Unit → Option Unit} {g2 : List (Int × ByteArray) → Option (List (Int × ByteArray))} {A : List (Int × ByteArray)} (hr : r 200 = true) (ha : AddAt P G ext base K h0 e v n b) (hs : SeqAt P G ext base K h0 D m v r)
    (h1 : ∀ L, K ≤ L → HasAt P G ext base K h0 L D1 w1 f1V (fun _ _ => True) v g1) (hg1 : g1 () = some ()) (h2 : ∀ L bo bt y, bo ≠ y → K ≤ bo → K ≤ y → bo < L → y < L → HasAt P G ext base K h0 L D2 w2 (f2V bo bt y) (StA P L bo y) v g2) (hg2 : g2 [] = some A) (hA : 0 < A.length)
    (hag : Ag K h0 h) (hK : K = h.next) (hn : n ≤ 262144) (hb : b ≤ 4194304) (hok : HOK h) (hfl : h.fl = true) (hi : h.imp ≤ h.next) (hx : h.next + m ≤ 12000000) (hw : h.next + w1 + w2 ≤ 12000000) (he : e ≤ 900) (hd : 2 * e + 6 ≤ d) (hd2 : D + 2 ≤ d) (hd3 : D1 + 2 ≤ d) (hd4 : D2 + 2 ≤ d) :
    ∃ v' h', deepF P G ext 2199023255552 base mtG d 7 [.slice none 0 0, v] h = some (v', some h') ∧ HOK h' ∧ ((∃ c, v' = .tuple #[sl c A.length, .int .i64 0]) ∧ h.next ≤ h'.next ∧ h'.next ≤ h.next + w1 + w2 + 20 ∧ h'.lock = h.lock ∧ h'.imp = h.imp ∧ h'.fl = true ∧ ∀ j, j < h.next → h'.get j = h.get j) := by
  have u3:=U3 E;have s3:=S3 E;have e3:=Z3 E
  have u9:=U9 E;have s9:=S9 E
  have u22:=U22 E;have s22:=S22 E
  have u24:=U24 E;have s24:=S24 E
  have u25:=U25 E;have s25:=S25 E
  have u26:=U26 E;have s26:=S26 E
  have u27:=U27 E;have s27:=S27 E
  have u29:=U29 E;have s29:=S29 E
  have u32:=U32 E;have s32:=S32 E;have a32:=A32 E;have e32:=Z32 E
  have u33:=U33 E;have s33:=S33 E
  have u61:=U61 E;have s61:=S61 E;have a61:=A61 E
  have u63:=U63 E;have s63:=S63 E
  have u65:=U65 E;have s65:=S65 E
  have u67:=U67 E;have s67:=S67 E
  refine over_to (by omega) rfl (E.no 7 _ _ rfl) rfl ((E.fn 7).trans Tryz.func7) rfl hok ?_
  have hokl := hok.locked
  have hnl : h.locked.next = h.next := rfl
  have hll : h.locked.lock = h.next := rfl
  have hil : h.locked.imp = h.imp := rfl
  have hfll : h.locked.fl = h.fl := rfl
  conv => whnf
  refine ⟨by simp [Tryz.f7], ?_⟩
  repeat ((conv=>whnf);first|((with_reducible refine Exists.intro ?_ (Exists.intro ?_ (And.intro (a:=_=some (Blk.cells _ _)) ?_ ?_)));rotate_left 2;· (try dsimp only);(repeat first|with_reducible assumption|with_reducible exact uA (by assumption)|with_reducible exact nA (by assumption)|((with_reducible refine uN (by assumption) ?_ ?_);· omega)|((with_reducible refine nN (by assumption) ?_ ?_);· omega)))|((with_reducible refine Exists.intro ?_ (And.intro ?_ ?_));rotate_left;· first|with_reducible assumption|((conv=>lhs;arg 2;whnf);with_reducible assumption)|exact rfl)|((with_reducible refine And.intro (a:=AH.may _ _=true) ?_ ?_);· (try dsimp only);(repeat first|with_reducible assumption|((with_reducible refine New.mayNew (by assumption) (by assumption) ?_ ?_ ?_)<;>omega)|refine Upd.mayOf (by assumption) ?_|refine New.mayOf (by assumption) ?_|refine Ke.mayOf (by assumption) ?_))|((with_reducible refine And.intro (a:=szOf _ _=_) ?_ ?_);· refine Eq.trans (by assumption) ?_;kernel_rfl)|((with_reducible refine And.intro (a:=List.all _ _=true) ?_ ?_);· kernel_rfl)|((with_reducible refine And.intro (a:=_=_) ?_ ?_);· first|with_reducible assumption|rfl)|((with_reducible refine And.intro (a:=_≤_) ?_ ?_);· first|omega|exact sz_ok|exact Nat.le_of_ble_eq_true (by kernel_rfl))|((with_reducible refine And.intro (a:=_<_) ?_ ?_);· omega)|((with_reducible refine And.intro (a:=_∧_) ?_ ?_);· constructor<;>first|omega|(simp<;>omega))|(refine brk_true ?_ ?_;· first|rfl|(simp only [q1,q2,q3,q4,q7,q8,ne_eq,q5,q6];omega))|(refine brk_false ?_ ?_;· first|rfl|(simp only [q1,q2,q3,q4,q7,q8,ne_eq,q5,q6];omega))|(intro aa uu;(try dsimp only at uu);have okk:=uu.ok;have nxx:=uu.next;have lkk:=uu.lock;have imm:=uu.imp))
  try conv=>whnf
  have hk : ∀ j, j < h.next → aa.get j = h.get j := (fun j hj => by repeat first|((with_reducible refine uN (by assumption) ?_ ?_);· omega)|((with_reducible refine nN (by assumption) ?_ ?_);· omega)|exact rfl)
  have hag2 : Ag K h0 aa := fun j hj => (hk j (by omega)).trans (hag j hj)
  refine callB_pure ((E.fn 8).trans Tryz.func8) rfl ?_
  refine ⟨by assumption, _, ((check_ok E ha hs hag2 (by omega) hn hb (by assumption) (by repeat first|with_reducible assumption|refine Upd.flOf (by assumption) ?_|refine New.flOf (by assumption) ?_|refine Ke.flOf (by assumption) ?_|exact hfl|exact rfl) (by omega) (by omega) he (by omega) (by omega)).trans (by rw [hr])), ?_⟩
  repeat ((conv=>whnf);first|((with_reducible refine Exists.intro ?_ (Exists.intro ?_ (And.intro (a:=_=some (Blk.cells _ _)) ?_ ?_)));rotate_left 2;· (try dsimp only);(repeat first|with_reducible assumption|with_reducible exact uA (by assumption)|with_reducible exact nA (by assumption)|((with_reducible refine uN (by assumption) ?_ ?_);· omega)|((with_reducible refine nN (by assumption) ?_ ?_);· omega)))|((with_reducible refine Exists.intro ?_ (And.intro ?_ ?_));rotate_left;· first|with_reducible assumption|((conv=>lhs;arg 2;whnf);with_reducible assumption)|exact rfl)|((with_reducible refine And.intro (a:=AH.may _ _=true) ?_ ?_);· (try dsimp only);(repeat first|with_reducible assumption|((with_reducible refine New.mayNew (by assumption) (by assumption) ?_ ?_ ?_)<;>omega)|refine Upd.mayOf (by assumption) ?_|refine New.mayOf (by assumption) ?_|refine Ke.mayOf (by assumption) ?_))|((with_reducible refine And.intro (a:=szOf _ _=_) ?_ ?_);· refine Eq.trans (by assumption) ?_;kernel_rfl)|((with_reducible refine And.intro (a:=List.all _ _=true) ?_ ?_);· kernel_rfl)|((with_reducible refine And.intro (a:=_=_) ?_ ?_);· first|with_reducible assumption|rfl)|((with_reducible refine And.intro (a:=_≤_) ?_ ?_);· first|omega|exact sz_ok|exact Nat.le_of_ble_eq_true (by kernel_rfl))|((with_reducible refine And.intro (a:=_<_) ?_ ?_);· omega)|((with_reducible refine And.intro (a:=_∧_) ?_ ?_);· constructor<;>first|omega|(simp<;>omega))|(refine brk_true ?_ ?_;· first|rfl|(simp only [q1,q2,q3,q4,q7,q8,ne_eq,q5,q6];omega))|(refine brk_false ?_ ?_;· first|rfl|(simp only [q1,q2,q3,q4,q7,q8,ne_eq,q5,q6];omega))|(intro aa uu;(try dsimp only at uu);have okk:=uu.ok;have nxx:=uu.next;have lkk:=uu.lock;have imm:=uu.imp))
  try conv=>whnf
  have hfa : aa.fl = true := (show aa.fl = h.fl from (by repeat first|with_reducible assumption|refine Upd.flOf (by assumption) ?_|refine New.flOf (by assumption) ?_|refine Ke.flOf (by assumption) ?_|exact hfl|exact rfl)).trans hfl
  have q1 := h1 (h.next + 1) (by omega) (d - 1) aa () (by omega) ⟨by assumption, by omega, by omega, by omega, hfa, hag2⟩ (by omega) trivial
  obtain ⟨u1, k1, e1, o1, rfl, ⟨m1, m2, m3, m4, m5, m6⟩, _⟩ := q1
  rw [hg1] at e1
  have hk2 : ∀ j, j < h.next → k1.get j = h.get j := fun j hj => by
    rcases Nat.lt_or_ge j K with hz | hz
    · exact (m6 j (by omega) (.inl hz)).trans (hk j hj)
    · exact (m6 j (by omega) (.inl (by omega))).trans (hk j hj)
  refine callB_heap ((E.fn 13).trans Tryz.func13) rfl ?_
  refine ⟨fun v h' => v = .bool false ∧ h' = k1, ⟨_, _, e1, o1, rfl, rfl⟩, ?_⟩
  rintro v3 k2 hok3 ⟨rfl, rfl⟩
  repeat ((conv=>whnf);first|((with_reducible refine Exists.intro ?_ (Exists.intro ?_ (And.intro (a:=_=some (Blk.cells _ _)) ?_ ?_)));rotate_left 2;· (try dsimp only);(repeat first|with_reducible assumption|with_reducible exact uA (by assumption)|with_reducible exact nA (by assumption)|((with_reducible refine uN (by assumption) ?_ ?_);· omega)|((with_reducible refine nN (by assumption) ?_ ?_);· omega)))|((with_reducible refine Exists.intro ?_ (And.intro ?_ ?_));rotate_left;· first|with_reducible assumption|((conv=>lhs;arg 2;whnf);with_reducible assumption)|exact rfl)|((with_reducible refine And.intro (a:=AH.may _ _=true) ?_ ?_);· (try dsimp only);(repeat first|with_reducible assumption|((with_reducible refine New.mayNew (by assumption) (by assumption) ?_ ?_ ?_)<;>omega)|refine Upd.mayOf (by assumption) ?_|refine New.mayOf (by assumption) ?_|refine Ke.mayOf (by assumption) ?_))|((with_reducible refine And.intro (a:=szOf _ _=_) ?_ ?_);· refine Eq.trans (by assumption) ?_;kernel_rfl)|((with_reducible refine And.intro (a:=List.all _ _=true) ?_ ?_);· kernel_rfl)|((with_reducible refine And.intro (a:=_=_) ?_ ?_);· first|with_reducible assumption|rfl)|((with_reducible refine And.intro (a:=_≤_) ?_ ?_);· first|omega|exact sz_ok|exact Nat.le_of_ble_eq_true (by kernel_rfl))|((with_reducible refine And.intro (a:=_<_) ?_ ?_);· omega)|((with_reducible refine And.intro (a:=_∧_) ?_ ?_);· constructor<;>first|omega|(simp<;>omega))|(refine brk_true ?_ ?_;· first|rfl|(simp only [q1,q2,q3,q4,q7,q8,ne_eq,q5,q6];omega))|(refine brk_false ?_ ?_;· first|rfl|(simp only [q1,q2,q3,q4,q7,q8,ne_eq,q5,q6];omega))|(intro aa uu;(try dsimp only at uu);have okk:=uu.ok;have nxx:=uu.next;have lkk:=uu.lock;have imm:=uu.imp))
  try conv=>whnf
  rename_i b1 u1 o1 n1 l1 i1 c1 u2 o2 n2 l2 i2
  have hy1 : aa.get b1.next = some (.cells #[.int .i64 ((byA [] : Nat) : Int)] (tyOf P 3)) := uu.at
  have hy2 : aa.get k2.next = some (.cells #[.slice none 0 0] (tyOf P 32)) := by
    rw [uu.get, if_neg (by omega), u2.get, if_neg (by omega)]
    exact u1.at
  have hk3 : ∀ j, j < h.next → aa.get j = h.get j := fun j hj => by
    rw [uu.get, if_neg (by omega), u2.get, if_neg (by omega), u1.get, if_neg (by omega)]
    exact hk2 j hj
  have hfb : aa.fl = true := by rw [uu.fl, u2.fl, u1.fl, m5]; exact hfa
  have hSt : StA P aa.next k2.next b1.next [] aa := ⟨.slice none 0 0, 33554432, hy1, may_ge (by omega) (by omega) (by omega), may_ge (by omega) (by omega) (by omega), by omega, by omega, by simp, Nat.zero_le _, hy2, .inl ⟨rfl, rfl, rfl, rfl⟩, by omega⟩
  have q2 := h2 aa.next k2.next h.locked.next b1.next (by omega) (by omega) (by omega) (by omega) (by omega) (d - 1) aa [] (by omega) ⟨by assumption, by omega, by omega, by omega, hfb, fun j hj => (hk3 j (by omega)).trans (hag j hj)⟩ (by omega) hSt
  obtain ⟨u5, k4, e4, o4, rfl, lim4, st4⟩ := q2
  rw [hg2] at e4
  refine callB_heap ((E.fn 13).trans Tryz.func13) rfl ?_
  refine ⟨fun v h' => v = .bool false ∧ h' = k4, ⟨_, _, e4, o4, rfl, rfl⟩, ?_⟩
  rintro v3 k5 hok5 ⟨rfl, rfl⟩
  obtain ⟨vv, c, s1, s2, s3, s4, s5, s6, s7, s8, s9, s10⟩ := st4 A hg2
  have lim5 := lim4
  obtain ⟨r1, r2, r3, r4, r5, r6⟩ := lim5
  rcases s9 with ⟨z, _⟩ | ⟨_, rfl, s11, s12, s13⟩
  · omega
  repeat ((conv=>whnf);first|((with_reducible refine Exists.intro ?_ (Exists.intro ?_ (And.intro (a:=_=some (Blk.cells _ _)) ?_ ?_)));rotate_left 2;· (try dsimp only);(repeat first|with_reducible assumption|with_reducible exact uA (by assumption)|with_reducible exact nA (by assumption)|((with_reducible refine uN (by assumption) ?_ ?_);· omega)|((with_reducible refine nN (by assumption) ?_ ?_);· omega)))|((with_reducible refine Exists.intro ?_ (And.intro ?_ ?_));rotate_left;· first|with_reducible assumption|((conv=>lhs;arg 2;whnf);with_reducible assumption)|exact rfl)|((with_reducible refine And.intro (a:=AH.may _ _=true) ?_ ?_);· (try dsimp only);(repeat first|with_reducible assumption|((with_reducible refine New.mayNew (by assumption) (by assumption) ?_ ?_ ?_)<;>omega)|refine Upd.mayOf (by assumption) ?_|refine New.mayOf (by assumption) ?_|refine Ke.mayOf (by assumption) ?_))|((with_reducible refine And.intro (a:=szOf _ _=_) ?_ ?_);· refine Eq.trans (by assumption) ?_;kernel_rfl)|((with_reducible refine And.intro (a:=List.all _ _=true) ?_ ?_);· kernel_rfl)|((with_reducible refine And.intro (a:=_=_) ?_ ?_);· first|with_reducible assumption|rfl)|((with_reducible refine And.intro (a:=_≤_) ?_ ?_);· first|omega|exact sz_ok|exact Nat.le_of_ble_eq_true (by kernel_rfl))|((with_reducible refine And.intro (a:=_<_) ?_ ?_);· omega)|((with_reducible refine And.intro (a:=_∧_) ?_ ?_);· constructor<;>first|omega|(simp<;>omega))|(refine brk_true ?_ ?_;· first|rfl|(simp only [q1,q2,q3,q4,q7,q8,ne_eq,q5,q6];omega))|(refine brk_false ?_ ?_;· first|rfl|(simp only [q1,q2,q3,q4,q7,q8,ne_eq,q5,q6];omega))|(intro aa uu;(try dsimp only at uu);have okk:=uu.ok;have nxx:=uu.next;have lkk:=uu.lock;have imm:=uu.imp))
  try conv=>whnf
  exact ⟨⟨c, rfl⟩, by show h.next ≤ k5.next; omega, by show k5.next ≤ _; omega, rfl, by show k5.imp = _; omega, (show k5.fl = true from r5.trans hfb), fun j hj => (r6 j (by omega) (.inl (by omega))).trans (hk3 j hj)⟩
end

end
end Go.Proofs.YtibffohcmegooaaGreatDoor.V
