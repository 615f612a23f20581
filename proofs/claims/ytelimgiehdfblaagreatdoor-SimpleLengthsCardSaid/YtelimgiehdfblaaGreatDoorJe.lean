/- Values of texts, one by one. Conditions: none. -/
import Derived.Test.YtelimgiehdfblaaGreatDoorJc
namespace Go.Proofs.YtelimgiehdfblaaGreatDoor.V
set_option linter.all false
open Go
noncomputable section

section
variable {P : Program} {G : Nat} {ext : FuncId → Option Ext} {base : Orc}

theorem f42_ok (E : Alike P Tryz.prog base walkJ) {d : Nat} {h : AH} {sh lg : Int} (hd : 1 ≤ d) (hok : HOK h) (hn : h.next < 65000) : deepF P G ext 2199023255552 base mtJ d 42 [.agg (tyJ sh lg)] h = some (.bool true, none) := by
  have u3:=U3 E;have s3:=S3 E;have a3:=A3 E;have e3:=Z3 E
  have u4:=U4 E;have s4:=S4 E;have a4:=A4 E;have e4:=Z4 E
  have u9:=U9 E;have s9:=S9 E;have a9:=A9 E;have e9:=Z9 E
  have u22:=U22 E;have s22:=S22 E;have a22:=A22 E;have e22:=Z22 E
  have u24:=U24 E;have s24:=S24 E;have a24:=A24 E;have e24:=Z24 E
  refine over_eq (by omega) rfl (E.no 42 _ _ rfl) rfl ((E.fn 42).trans Tryz.func42) rfl hok rfl ?_
  have hokl := hok.locked
  have hnl : h.locked.next = h.next := rfl
  have hll : h.locked.lock = h.next := rfl
  have hil : h.locked.imp = h.imp := rfl
  have hfll : h.locked.fl = h.fl := rfl
  conv => whnf
  refine ⟨by simp [Tryz.f42], ?_⟩
  repeat ((conv=>whnf);first|((with_reducible refine Exists.intro ?_ (Exists.intro ?_ (And.intro (a:=_=some (Blk.cells _ _)) ?_ ?_)));rotate_left 2;· (try dsimp only);(repeat first|with_reducible assumption|with_reducible exact uA (by assumption)|with_reducible exact nA (by assumption)|((with_reducible refine uN (by assumption) ?_ ?_);· omega)|((with_reducible refine nN (by assumption) ?_ ?_);· omega)))|((with_reducible refine Exists.intro ?_ (And.intro ?_ ?_));rotate_left;· first|with_reducible assumption|((conv=>lhs;arg 2;whnf);with_reducible assumption)|exact rfl)|((with_reducible refine And.intro (a:=AH.may _ _=true) ?_ ?_);· (try dsimp only);(repeat first|with_reducible assumption|((with_reducible refine New.mayNew (by assumption) (by assumption) ?_ ?_ ?_)<;>omega)|refine Upd.mayOf (by assumption) ?_|refine New.mayOf (by assumption) ?_|refine Ke.mayOf (by assumption) ?_))|((with_reducible refine And.intro (a:=szOf _ _=_) ?_ ?_);· refine Eq.trans (by assumption) ?_;kernel_rfl)|((with_reducible refine And.intro (a:=List.all _ _=true) ?_ ?_);· kernel_rfl)|((with_reducible refine And.intro (a:=_=_) ?_ ?_);· first|with_reducible assumption|rfl)|((with_reducible refine And.intro (a:=_≤_) ?_ ?_);· first|omega|exact Nat.le_of_ble_eq_true (by kernel_rfl))|((with_reducible refine And.intro (a:=_<_) ?_ ?_);· omega)|((with_reducible refine And.intro (a:=_∧_) ?_ ?_);· constructor<;>first|omega|(simp<;>omega))|(refine brk_true ?_ ?_;· first|rfl|(simp only [q1,q2,q3,q4,q7,q8,ne_eq,q5,q6];omega))|(refine brk_false ?_ ?_;· first|rfl|(simp only [q1,q2,q3,q4,q7,q8,ne_eq,q5,q6];omega))|(intro aa uu;(try dsimp only at uu);have okk:=uu.ok;have nxx:=uu.next;have lkk:=uu.lock;have imm:=uu.imp))
  try conv=>whnf
  rfl

theorem f71_ok (E : Alike P Tryz.prog base walkJ) {d : Nat} {h : AH} {s : ByteArray} (hs : s.data.toList.length ≤ 1000) (hd : 5 ≤ d) (hok : HOK h) (hn : h.next < 64000) (hi : h.imp ≤ h.next) : deepF P G ext 2199023255552 base mtJ d 71 [atJ s] h = some (.bool (isT s), none) := by
  have u3:=U3 E;have s3:=S3 E;have a3:=A3 E;have e3:=Z3 E
  have u9:=U9 E;have s9:=S9 E;have a9:=A9 E;have e9:=Z9 E
  have u39:=U39 E;have s39:=S39 E;have a39:=A39 E;have e39:=Z39 E
  have u148:=U148 E;have s148:=S148 E;have a148:=A148 E;have e148:=Z148 E
  refine over_eq (by omega) rfl (E.no 71 _ _ rfl) rfl ((E.fn 71).trans Tryz.func71) rfl hok rfl ?_
  have hokl := hok.locked
  have hnl : h.locked.next = h.next := rfl
  have hll : h.locked.lock = h.next := rfl
  have hil : h.locked.imp = h.imp := rfl
  have hfll : h.locked.fl = h.fl := rfl
  conv => whnf
  refine ⟨by simp [Tryz.f71], ?_⟩
  repeat ((conv=>whnf);first|((with_reducible refine Exists.intro ?_ (Exists.intro ?_ (And.intro (a:=_=some (Blk.cells _ _)) ?_ ?_)));rotate_left 2;· (try dsimp only);(repeat first|with_reducible assumption|with_reducible exact uA (by assumption)|with_reducible exact nA (by assumption)|((with_reducible refine uN (by assumption) ?_ ?_);· omega)|((with_reducible refine nN (by assumption) ?_ ?_);· omega)))|((with_reducible refine Exists.intro ?_ (And.intro ?_ ?_));rotate_left;· first|with_reducible assumption|((conv=>lhs;arg 2;whnf);with_reducible assumption)|exact rfl)|((with_reducible refine And.intro (a:=AH.may _ _=true) ?_ ?_);· (try dsimp only);(repeat first|with_reducible assumption|((with_reducible refine New.mayNew (by assumption) (by assumption) ?_ ?_ ?_)<;>omega)|refine Upd.mayOf (by assumption) ?_|refine New.mayOf (by assumption) ?_|refine Ke.mayOf (by assumption) ?_))|((with_reducible refine And.intro (a:=szOf _ _=_) ?_ ?_);· refine Eq.trans (by assumption) ?_;kernel_rfl)|((with_reducible refine And.intro (a:=List.all _ _=true) ?_ ?_);· kernel_rfl)|((with_reducible refine And.intro (a:=_=_) ?_ ?_);· first|with_reducible assumption|rfl)|((with_reducible refine And.intro (a:=_≤_) ?_ ?_);· first|omega|exact Nat.le_of_ble_eq_true (by kernel_rfl))|((with_reducible refine And.intro (a:=_<_) ?_ ?_);· omega)|((with_reducible refine And.intro (a:=_∧_) ?_ ?_);· constructor<;>first|omega|(simp<;>omega))|(refine brk_true ?_ ?_;· first|rfl|(simp only [q1,q2,q3,q4,q7,q8,ne_eq,q5,q6];omega))|(refine brk_false ?_ ?_;· first|rfl|(simp only [q1,q2,q3,q4,q7,q8,ne_eq,q5,q6];omega))|(intro aa uu;(try dsimp only at uu);have okk:=uu.ok;have nxx:=uu.next;have lkk:=uu.lock;have imm:=uu.imp))
  try conv=>whnf
  refine callB_pure ((E.fn 97).trans Tryz.func97) rfl ?_
  refine ⟨by assumption, _, (f97_ok E (by omega) (by assumption)), ?_⟩
  repeat ((conv=>whnf);first|((with_reducible refine Exists.intro ?_ (Exists.intro ?_ (And.intro (a:=_=some (Blk.cells _ _)) ?_ ?_)));rotate_left 2;· (try dsimp only);(repeat first|with_reducible assumption|with_reducible exact uA (by assumption)|with_reducible exact nA (by assumption)|((with_reducible refine uN (by assumption) ?_ ?_);· omega)|((with_reducible refine nN (by assumption) ?_ ?_);· omega)))|((with_reducible refine Exists.intro ?_ (And.intro ?_ ?_));rotate_left;· first|with_reducible assumption|((conv=>lhs;arg 2;whnf);with_reducible assumption)|exact rfl)|((with_reducible refine And.intro (a:=AH.may _ _=true) ?_ ?_);· (try dsimp only);(repeat first|with_reducible assumption|((with_reducible refine New.mayNew (by assumption) (by assumption) ?_ ?_ ?_)<;>omega)|refine Upd.mayOf (by assumption) ?_|refine New.mayOf (by assumption) ?_|refine Ke.mayOf (by assumption) ?_))|((with_reducible refine And.intro (a:=szOf _ _=_) ?_ ?_);· refine Eq.trans (by assumption) ?_;kernel_rfl)|((with_reducible refine And.intro (a:=List.all _ _=true) ?_ ?_);· kernel_rfl)|((with_reducible refine And.intro (a:=_=_) ?_ ?_);· first|with_reducible assumption|rfl)|((with_reducible refine And.intro (a:=_≤_) ?_ ?_);· first|omega|exact Nat.le_of_ble_eq_true (by kernel_rfl))|((with_reducible refine And.intro (a:=_<_) ?_ ?_);· omega)|((with_reducible refine And.intro (a:=_∧_) ?_ ?_);· constructor<;>first|omega|(simp<;>omega))|(refine brk_true ?_ ?_;· first|rfl|(simp only [q1,q2,q3,q4,q7,q8,ne_eq,q5,q6];omega))|(refine brk_false ?_ ?_;· first|rfl|(simp only [q1,q2,q3,q4,q7,q8,ne_eq,q5,q6];omega))|(intro aa uu;(try dsimp only at uu);have okk:=uu.ok;have nxx:=uu.next;have lkk:=uu.lock;have imm:=uu.imp))
  try conv=>whnf
  refine callB_pure ((E.fn 15).trans Tryz.func15) rfl ?_
  refine ⟨by assumption, _, (f15_ok E hs (by omega) (by assumption) (by omega) (by omega)), ?_⟩
  repeat ((conv=>whnf);first|((with_reducible refine Exists.intro ?_ (Exists.intro ?_ (And.intro (a:=_=some (Blk.cells _ _)) ?_ ?_)));rotate_left 2;· (try dsimp only);(repeat first|with_reducible assumption|with_reducible exact uA (by assumption)|with_reducible exact nA (by assumption)|((with_reducible refine uN (by assumption) ?_ ?_);· omega)|((with_reducible refine nN (by assumption) ?_ ?_);· omega)))|((with_reducible refine Exists.intro ?_ (And.intro ?_ ?_));rotate_left;· first|with_reducible assumption|((conv=>lhs;arg 2;whnf);with_reducible assumption)|exact rfl)|((with_reducible refine And.intro (a:=AH.may _ _=true) ?_ ?_);· (try dsimp only);(repeat first|with_reducible assumption|((with_reducible refine New.mayNew (by assumption) (by assumption) ?_ ?_ ?_)<;>omega)|refine Upd.mayOf (by assumption) ?_|refine New.mayOf (by assumption) ?_|refine Ke.mayOf (by assumption) ?_))|((with_reducible refine And.intro (a:=szOf _ _=_) ?_ ?_);· refine Eq.trans (by assumption) ?_;kernel_rfl)|((with_reducible refine And.intro (a:=List.all _ _=true) ?_ ?_);· kernel_rfl)|((with_reducible refine And.intro (a:=_=_) ?_ ?_);· first|with_reducible assumption|rfl)|((with_reducible refine And.intro (a:=_≤_) ?_ ?_);· first|omega|exact Nat.le_of_ble_eq_true (by kernel_rfl))|((with_reducible refine And.intro (a:=_<_) ?_ ?_);· omega)|((with_reducible refine And.intro (a:=_∧_) ?_ ?_);· constructor<;>first|omega|(simp<;>omega))|(refine brk_true ?_ ?_;· first|rfl|(simp only [q1,q2,q3,q4,q7,q8,ne_eq,q5,q6];omega))|(refine brk_false ?_ ?_;· first|rfl|(simp only [q1,q2,q3,q4,q7,q8,ne_eq,q5,q6];omega))|(intro aa uu;(try dsimp only at uu);have okk:=uu.ok;have nxx:=uu.next;have lkk:=uu.lock;have imm:=uu.imp))
  try conv=>whnf
  rfl

theorem f72_ok (E : Alike P Tryz.prog base walkJ) {d : Nat} {h : AH} {s : ByteArray} (hd : 1 ≤ d) (hok : HOK h) (hn : h.next < 64000) : deepF P G ext 2199023255552 base mtJ d 72 [atJ s, .int .i64 1] h = some (.tuple #[.string s, .bool true], none) := by
  have u3:=U3 E;have s3:=S3 E;have a3:=A3 E;have e3:=Z3 E
  have u9:=U9 E;have s9:=S9 E;have a9:=A9 E;have e9:=Z9 E
  have u39:=U39 E;have s39:=S39 E;have a39:=A39 E;have e39:=Z39 E
  have u151:=U151 E;have s151:=S151 E;have a151:=A151 E;have e151:=Z151 E
  have u152:=U152 E;have s152:=S152 E;have a152:=A152 E;have e152:=Z152 E
  have u154:=U154 E;have s154:=S154 E;have a154:=A154 E;have e154:=Z154 E
  refine over_eq (by omega) rfl (E.no 72 _ _ rfl) rfl ((E.fn 72).trans Tryz.func72) rfl hok rfl ?_
  have hokl := hok.locked
  have hnl : h.locked.next = h.next := rfl
  have hll : h.locked.lock = h.next := rfl
  have hil : h.locked.imp = h.imp := rfl
  have hfll : h.locked.fl = h.fl := rfl
  conv => whnf
  refine ⟨by simp [Tryz.f72], ?_⟩
  repeat ((conv=>whnf);first|((with_reducible refine Exists.intro ?_ (Exists.intro ?_ (And.intro (a:=_=some (Blk.cells _ _)) ?_ ?_)));rotate_left 2;· (try dsimp only);(repeat first|with_reducible assumption|with_reducible exact uA (by assumption)|with_reducible exact nA (by assumption)|((with_reducible refine uN (by assumption) ?_ ?_);· omega)|((with_reducible refine nN (by assumption) ?_ ?_);· omega)))|((with_reducible refine Exists.intro ?_ (And.intro ?_ ?_));rotate_left;· first|with_reducible assumption|((conv=>lhs;arg 2;whnf);with_reducible assumption)|exact rfl)|((with_reducible refine And.intro (a:=AH.may _ _=true) ?_ ?_);· (try dsimp only);(repeat first|with_reducible assumption|((with_reducible refine New.mayNew (by assumption) (by assumption) ?_ ?_ ?_)<;>omega)|refine Upd.mayOf (by assumption) ?_|refine New.mayOf (by assumption) ?_|refine Ke.mayOf (by assumption) ?_))|((with_reducible refine And.intro (a:=szOf _ _=_) ?_ ?_);· refine Eq.trans (by assumption) ?_;kernel_rfl)|((with_reducible refine And.intro (a:=List.all _ _=true) ?_ ?_);· kernel_rfl)|((with_reducible refine And.intro (a:=_=_) ?_ ?_);· first|with_reducible assumption|rfl)|((with_reducible refine And.intro (a:=_≤_) ?_ ?_);· first|omega|exact Nat.le_of_ble_eq_true (by kernel_rfl))|((with_reducible refine And.intro (a:=_<_) ?_ ?_);· omega)|((with_reducible refine And.intro (a:=_∧_) ?_ ?_);· constructor<;>first|omega|(simp<;>omega))|(refine brk_true ?_ ?_;· first|rfl|(simp only [q1,q2,q3,q4,q7,q8,ne_eq,q5,q6];omega))|(refine brk_false ?_ ?_;· first|rfl|(simp only [q1,q2,q3,q4,q7,q8,ne_eq,q5,q6];omega))|(intro aa uu;(try dsimp only at uu);have okk:=uu.ok;have nxx:=uu.next;have lkk:=uu.lock;have imm:=uu.imp))
  try conv=>whnf
  rfl

theorem f49_ok (E : Alike P Tryz.prog base walkJ) {d : Nat} {h : AH} {s : ByteArray} (hs : s.data.toList.length ≤ 1000) (ht : isT s = true) (hd : 6 ≤ d) (hok : HOK h) (hn : h.next < 63000) (hi : h.imp ≤ h.next) : deepF P G ext 2199023255552 base mtJ d 49 [atJ s, .int .i64 1] h = some (.tuple #[atJ s, .int .i64 0], none) := by
  have u3:=U3 E;have s3:=S3 E;have a3:=A3 E;have e3:=Z3 E
  have u4:=U4 E;have s4:=S4 E;have a4:=A4 E;have e4:=Z4 E
  have u9:=U9 E;have s9:=S9 E;have a9:=A9 E;have e9:=Z9 E
  have u39:=U39 E;have s39:=S39 E;have a39:=A39 E;have e39:=Z39 E
  refine over_eq (by omega) rfl (E.no 49 _ _ rfl) rfl ((E.fn 49).trans Tryz.func49) rfl hok rfl ?_
  have hokl := hok.locked
  have hnl : h.locked.next = h.next := rfl
  have hll : h.locked.lock = h.next := rfl
  have hil : h.locked.imp = h.imp := rfl
  have hfll : h.locked.fl = h.fl := rfl
  conv => whnf
  refine ⟨by simp [Tryz.f49], ?_⟩
  repeat ((conv=>whnf);first|((with_reducible refine Exists.intro ?_ (Exists.intro ?_ (And.intro (a:=_=some (Blk.cells _ _)) ?_ ?_)));rotate_left 2;· (try dsimp only);(repeat first|with_reducible assumption|with_reducible exact uA (by assumption)|with_reducible exact nA (by assumption)|((with_reducible refine uN (by assumption) ?_ ?_);· omega)|((with_reducible refine nN (by assumption) ?_ ?_);· omega)))|((with_reducible refine Exists.intro ?_ (And.intro ?_ ?_));rotate_left;· first|with_reducible assumption|((conv=>lhs;arg 2;whnf);with_reducible assumption)|exact rfl)|((with_reducible refine And.intro (a:=AH.may _ _=true) ?_ ?_);· (try dsimp only);(repeat first|with_reducible assumption|((with_reducible refine New.mayNew (by assumption) (by assumption) ?_ ?_ ?_)<;>omega)|refine Upd.mayOf (by assumption) ?_|refine New.mayOf (by assumption) ?_|refine Ke.mayOf (by assumption) ?_))|((with_reducible refine And.intro (a:=szOf _ _=_) ?_ ?_);· refine Eq.trans (by assumption) ?_;kernel_rfl)|((with_reducible refine And.intro (a:=List.all _ _=true) ?_ ?_);· kernel_rfl)|((with_reducible refine And.intro (a:=_=_) ?_ ?_);· first|with_reducible assumption|rfl)|((with_reducible refine And.intro (a:=_≤_) ?_ ?_);· first|omega|exact Nat.le_of_ble_eq_true (by kernel_rfl))|((with_reducible refine And.intro (a:=_<_) ?_ ?_);· omega)|((with_reducible refine And.intro (a:=_∧_) ?_ ?_);· constructor<;>first|omega|(simp<;>omega))|(refine brk_true ?_ ?_;· first|rfl|(simp only [q1,q2,q3,q4,q7,q8,ne_eq,q5,q6];omega))|(refine brk_false ?_ ?_;· first|rfl|(simp only [q1,q2,q3,q4,q7,q8,ne_eq,q5,q6];omega))|(intro aa uu;(try dsimp only at uu);have okk:=uu.ok;have nxx:=uu.next;have lkk:=uu.lock;have imm:=uu.imp))
  try conv=>whnf
  refine callB_pure ((E.fn 71).trans Tryz.func71) rfl ?_
  refine ⟨by assumption, _, ((f71_ok E hs (by omega) (by assumption) (by omega) (by omega)).trans (by rw [ht])), ?_⟩
  repeat ((conv=>whnf);first|((with_reducible refine Exists.intro ?_ (Exists.intro ?_ (And.intro (a:=_=some (Blk.cells _ _)) ?_ ?_)));rotate_left 2;· (try dsimp only);(repeat first|with_reducible assumption|with_reducible exact uA (by assumption)|with_reducible exact nA (by assumption)|((with_reducible refine uN (by assumption) ?_ ?_);· omega)|((with_reducible refine nN (by assumption) ?_ ?_);· omega)))|((with_reducible refine Exists.intro ?_ (And.intro ?_ ?_));rotate_left;· first|with_reducible assumption|((conv=>lhs;arg 2;whnf);with_reducible assumption)|exact rfl)|((with_reducible refine And.intro (a:=AH.may _ _=true) ?_ ?_);· (try dsimp only);(repeat first|with_reducible assumption|((with_reducible refine New.mayNew (by assumption) (by assumption) ?_ ?_ ?_)<;>omega)|refine Upd.mayOf (by assumption) ?_|refine New.mayOf (by assumption) ?_|refine Ke.mayOf (by assumption) ?_))|((with_reducible refine And.intro (a:=szOf _ _=_) ?_ ?_);· refine Eq.trans (by assumption) ?_;kernel_rfl)|((with_reducible refine And.intro (a:=List.all _ _=true) ?_ ?_);· kernel_rfl)|((with_reducible refine And.intro (a:=_=_) ?_ ?_);· first|with_reducible assumption|rfl)|((with_reducible refine And.intro (a:=_≤_) ?_ ?_);· first|omega|exact Nat.le_of_ble_eq_true (by kernel_rfl))|((with_reducible refine And.intro (a:=_<_) ?_ ?_);· omega)|((with_reducible refine And.intro (a:=_∧_) ?_ ?_);· constructor<;>first|omega|(simp<;>omega))|(refine brk_true ?_ ?_;· first|rfl|(simp only [q1,q2,q3,q4,q7,q8,ne_eq,q5,q6];omega))|(refine brk_false ?_ ?_;· first|rfl|(simp only [q1,q2,q3,q4,q7,q8,ne_eq,q5,q6];omega))|(intro aa uu;(try dsimp only at uu);have okk:=uu.ok;have nxx:=uu.next;have lkk:=uu.lock;have imm:=uu.imp))
  try conv=>whnf
  refine callB_pure ((E.fn 72).trans Tryz.func72) rfl ?_
  refine ⟨by assumption, _, (f72_ok E (by omega) (by assumption) (by omega)), ?_⟩
  repeat ((conv=>whnf);first|((with_reducible refine Exists.intro ?_ (Exists.intro ?_ (And.intro (a:=_=some (Blk.cells _ _)) ?_ ?_)));rotate_left 2;· (try dsimp only);(repeat first|with_reducible assumption|with_reducible exact uA (by assumption)|with_reducible exact nA (by assumption)|((with_reducible refine uN (by assumption) ?_ ?_);· omega)|((with_reducible refine nN (by assumption) ?_ ?_);· omega)))|((with_reducible refine Exists.intro ?_ (And.intro ?_ ?_));rotate_left;· first|with_reducible assumption|((conv=>lhs;arg 2;whnf);with_reducible assumption)|exact rfl)|((with_reducible refine And.intro (a:=AH.may _ _=true) ?_ ?_);· (try dsimp only);(repeat first|with_reducible assumption|((with_reducible refine New.mayNew (by assumption) (by assumption) ?_ ?_ ?_)<;>omega)|refine Upd.mayOf (by assumption) ?_|refine New.mayOf (by assumption) ?_|refine Ke.mayOf (by assumption) ?_))|((with_reducible refine And.intro (a:=szOf _ _=_) ?_ ?_);· refine Eq.trans (by assumption) ?_;kernel_rfl)|((with_reducible refine And.intro (a:=List.all _ _=true) ?_ ?_);· kernel_rfl)|((with_reducible refine And.intro (a:=_=_) ?_ ?_);· first|with_reducible assumption|rfl)|((with_reducible refine And.intro (a:=_≤_) ?_ ?_);· first|omega|exact Nat.le_of_ble_eq_true (by kernel_rfl))|((with_reducible refine And.intro (a:=_<_) ?_ ?_);· omega)|((with_reducible refine And.intro (a:=_∧_) ?_ ?_);· constructor<;>first|omega|(simp<;>omega))|(refine brk_true ?_ ?_;· first|rfl|(simp only [q1,q2,q3,q4,q7,q8,ne_eq,q5,q6];omega))|(refine brk_false ?_ ?_;· first|rfl|(simp only [q1,q2,q3,q4,q7,q8,ne_eq,q5,q6];omega))|(intro aa uu;(try dsimp only at uu);have okk:=uu.ok;have nxx:=uu.next;have lkk:=uu.lock;have imm:=uu.imp))
  try conv=>whnf
  rfl

theorem f24_ok (E : Alike P Tryz.prog base walkJ) {d : Nat} {h : AH} {sh lg : Int} {s : ByteArray} (hs : s.data.toList.length ≤ 1000) (ht : isT s = true) (hd : 7 ≤ d) (hok : HOK h) (hn : h.next < 62000) (hi : h.imp ≤ h.next) : deepF P G ext 2199023255552 base mtJ d 24 [.agg (tyJ sh lg), .string s] h = some (.tuple #[atJ s, .int .i64 0], none) := by
  have u3:=U3 E;have s3:=S3 E;have a3:=A3 E;have e3:=Z3 E
  have u4:=U4 E;have s4:=S4 E;have a4:=A4 E;have e4:=Z4 E
  have u9:=U9 E;have s9:=S9 E;have a9:=A9 E;have e9:=Z9 E
  have u22:=U22 E;have s22:=S22 E;have a22:=A22 E;have e22:=Z22 E
  have u24:=U24 E;have s24:=S24 E;have a24:=A24 E;have e24:=Z24 E
  have u39:=U39 E;have s39:=S39 E;have a39:=A39 E;have e39:=Z39 E
  refine over_eq (by omega) rfl (E.no 24 _ _ rfl) rfl ((E.fn 24).trans Tryz.func24) rfl hok rfl ?_
  have hokl := hok.locked
  have hnl : h.locked.next = h.next := rfl
  have hll : h.locked.lock = h.next := rfl
  have hil : h.locked.imp = h.imp := rfl
  have hfll : h.locked.fl = h.fl := rfl
  conv => whnf
  refine ⟨by simp [Tryz.f24], ?_⟩
  repeat ((conv=>whnf);first|((with_reducible refine Exists.intro ?_ (Exists.intro ?_ (And.intro (a:=_=some (Blk.cells _ _)) ?_ ?_)));rotate_left 2;· (try dsimp only);(repeat first|with_reducible assumption|with_reducible exact uA (by assumption)|with_reducible exact nA (by assumption)|((with_reducible refine uN (by assumption) ?_ ?_);· omega)|((with_reducible refine nN (by assumption) ?_ ?_);· omega)))|((with_reducible refine Exists.intro ?_ (And.intro ?_ ?_));rotate_left;· first|with_reducible assumption|((conv=>lhs;arg 2;whnf);with_reducible assumption)|exact rfl)|((with_reducible refine And.intro (a:=AH.may _ _=true) ?_ ?_);· (try dsimp only);(repeat first|with_reducible assumption|((with_reducible refine New.mayNew (by assumption) (by assumption) ?_ ?_ ?_)<;>omega)|refine Upd.mayOf (by assumption) ?_|refine New.mayOf (by assumption) ?_|refine Ke.mayOf (by assumption) ?_))|((with_reducible refine And.intro (a:=szOf _ _=_) ?_ ?_);· refine Eq.trans (by assumption) ?_;kernel_rfl)|((with_reducible refine And.intro (a:=List.all _ _=true) ?_ ?_);· kernel_rfl)|((with_reducible refine And.intro (a:=_=_) ?_ ?_);· first|with_reducible assumption|rfl)|((with_reducible refine And.intro (a:=_≤_) ?_ ?_);· first|omega|exact Nat.le_of_ble_eq_true (by kernel_rfl))|((with_reducible refine And.intro (a:=_<_) ?_ ?_);· omega)|((with_reducible refine And.intro (a:=_∧_) ?_ ?_);· constructor<;>first|omega|(simp<;>omega))|(refine brk_true ?_ ?_;· first|rfl|(simp only [q1,q2,q3,q4,q7,q8,ne_eq,q5,q6];omega))|(refine brk_false ?_ ?_;· first|rfl|(simp only [q1,q2,q3,q4,q7,q8,ne_eq,q5,q6];omega))|(intro aa uu;(try dsimp only at uu);have okk:=uu.ok;have nxx:=uu.next;have lkk:=uu.lock;have imm:=uu.imp))
  try conv=>whnf
  refine callB_pure ((E.fn 49).trans Tryz.func49) rfl ?_
  refine ⟨by assumption, _, (f49_ok E hs ht (by omega) (by assumption) (by omega) (by omega)), ?_⟩
  repeat ((conv=>whnf);first|((with_reducible refine Exists.intro ?_ (Exists.intro ?_ (And.intro (a:=_=some (Blk.cells _ _)) ?_ ?_)));rotate_left 2;· (try dsimp only);(repeat first|with_reducible assumption|with_reducible exact uA (by assumption)|with_reducible exact nA (by assumption)|((with_reducible refine uN (by assumption) ?_ ?_);· omega)|((with_reducible refine nN (by assumption) ?_ ?_);· omega)))|((with_reducible refine Exists.intro ?_ (And.intro ?_ ?_));rotate_left;· first|with_reducible assumption|((conv=>lhs;arg 2;whnf);with_reducible assumption)|exact rfl)|((with_reducible refine And.intro (a:=AH.may _ _=true) ?_ ?_);· (try dsimp only);(repeat first|with_reducible assumption|((with_reducible refine New.mayNew (by assumption) (by assumption) ?_ ?_ ?_)<;>omega)|refine Upd.mayOf (by assumption) ?_|refine New.mayOf (by assumption) ?_|refine Ke.mayOf (by assumption) ?_))|((with_reducible refine And.intro (a:=szOf _ _=_) ?_ ?_);· refine Eq.trans (by assumption) ?_;kernel_rfl)|((with_reducible refine And.intro (a:=List.all _ _=true) ?_ ?_);· kernel_rfl)|((with_reducible refine And.intro (a:=_=_) ?_ ?_);· first|with_reducible assumption|rfl)|((with_reducible refine And.intro (a:=_≤_) ?_ ?_);· first|omega|exact Nat.le_of_ble_eq_true (by kernel_rfl))|((with_reducible refine And.intro (a:=_<_) ?_ ?_);· omega)|((with_reducible refine And.intro (a:=_∧_) ?_ ?_);· constructor<;>first|omega|(simp<;>omega))|(refine brk_true ?_ ?_;· first|rfl|(simp only [q1,q2,q3,q4,q7,q8,ne_eq,q5,q6];omega))|(refine brk_false ?_ ?_;· first|rfl|(simp only [q1,q2,q3,q4,q7,q8,ne_eq,q5,q6];omega))|(intro aa uu;(try dsimp only at uu);have okk:=uu.ok;have nxx:=uu.next;have lkk:=uu.lock;have imm:=uu.imp))
  try conv=>whnf
  rfl

theorem f33_ok (E : Alike P Tryz.prog base walkJ) {d : Nat} {h : AH} {s : ByteArray} (hd : 1 ≤ d) (hok : HOK h) : deepF P G ext 2199023255552 base mtJ d 33 [.string s] h = some (.bool true, none) := by
  refine over_eq (by omega) rfl (E.no 33 _ _ rfl) rfl ((E.fn 33).trans Tryz.func33) rfl hok rfl ?_
  have hokl := hok.locked
  have hnl : h.locked.next = h.next := rfl
  have hll : h.locked.lock = h.next := rfl
  have hil : h.locked.imp = h.imp := rfl
  have hfll : h.locked.fl = h.fl := rfl
  conv => whnf
  refine ⟨by simp [Tryz.f33], ?_⟩
  repeat ((conv=>whnf);first|((with_reducible refine Exists.intro ?_ (Exists.intro ?_ (And.intro (a:=_=some (Blk.cells _ _)) ?_ ?_)));rotate_left 2;· (try dsimp only);(repeat first|with_reducible assumption|with_reducible exact uA (by assumption)|with_reducible exact nA (by assumption)|((with_reducible refine uN (by assumption) ?_ ?_);· omega)|((with_reducible refine nN (by assumption) ?_ ?_);· omega)))|((with_reducible refine Exists.intro ?_ (And.intro ?_ ?_));rotate_left;· first|with_reducible assumption|((conv=>lhs;arg 2;whnf);with_reducible assumption)|exact rfl)|((with_reducible refine And.intro (a:=AH.may _ _=true) ?_ ?_);· (try dsimp only);(repeat first|with_reducible assumption|((with_reducible refine New.mayNew (by assumption) (by assumption) ?_ ?_ ?_)<;>omega)|refine Upd.mayOf (by assumption) ?_|refine New.mayOf (by assumption) ?_|refine Ke.mayOf (by assumption) ?_))|((with_reducible refine And.intro (a:=szOf _ _=_) ?_ ?_);· refine Eq.trans (by assumption) ?_;kernel_rfl)|((with_reducible refine And.intro (a:=List.all _ _=true) ?_ ?_);· kernel_rfl)|((with_reducible refine And.intro (a:=_=_) ?_ ?_);· first|with_reducible assumption|rfl)|((with_reducible refine And.intro (a:=_≤_) ?_ ?_);· first|omega|exact Nat.le_of_ble_eq_true (by kernel_rfl))|((with_reducible refine And.intro (a:=_<_) ?_ ?_);· omega)|((with_reducible refine And.intro (a:=_∧_) ?_ ?_);· constructor<;>first|omega|(simp<;>omega))|(refine brk_true ?_ ?_;· first|rfl|(simp only [q1,q2,q3,q4,q7,q8,ne_eq,q5,q6];omega))|(refine brk_false ?_ ?_;· first|rfl|(simp only [q1,q2,q3,q4,q7,q8,ne_eq,q5,q6];omega))|(intro aa uu;(try dsimp only at uu);have okk:=uu.ok;have nxx:=uu.next;have lkk:=uu.lock;have imm:=uu.imp))
  try conv=>whnf
  rfl
end

end
end Go.Proofs.YtelimgiehdfblaaGreatDoor.V

namespace Go.Proofs.YtelimgiehdfblaaGreatDoor.V
set_option linter.all false
open Go
noncomputable section

section
variable {P : Program} {G : Nat} {ext : FuncId → Option Ext} {base : Orc}

theorem f20_bad (E : Alike P Tryz.prog base walkJ) {d : Nat} {h : AH} {sh lg : Int} (hb : sh < 0 ∨ (lg ≠ -1 ∧ lg < sh)) (hd : 1 ≤ d) (hok : HOK h) (hn : h.next < 60000) (hi : h.imp ≤ h.next) :
    deepF P G ext 2199023255552 base mtJ d 20 [.agg (tyJ sh lg)] h = some (.tuple #[.agg #[.nilFunc, .slice none 0 0], .bool false], none) := by
  rcases (show sh < 0 ∨ (0 ≤ sh ∧ lg ≠ -1 ∧ lg < sh) by omega) with h1 | h1
  · have u3:=U3 E;have s3:=S3 E;have a3:=A3 E;have e3:=Z3 E
    have u4:=U4 E;have s4:=S4 E;have a4:=A4 E;have e4:=Z4 E
    have u9:=U9 E;have s9:=S9 E;have a9:=A9 E;have e9:=Z9 E
    have u22:=U22 E;have s22:=S22 E;have a22:=A22 E;have e22:=Z22 E
    have u24:=U24 E;have s24:=S24 E;have a24:=A24 E;have e24:=Z24 E
    have u27:=U27 E;have s27:=S27 E;have a27:=A27 E;have e27:=Z27 E
    have u28:=U28 E;have s28:=S28 E;have a28:=A28 E;have e28:=Z28 E
    have u36:=U36 E;have s36:=S36 E;have a36:=A36 E;have e36:=Z36 E
    have u39:=U39 E;have s39:=S39 E;have a39:=A39 E;have e39:=Z39 E
    have u47:=U47 E;have s47:=S47 E;have a47:=A47 E;have e47:=Z47 E
    have u49:=U49 E;have s49:=S49 E;have a49:=A49 E;have e49:=Z49 E
    have u59:=U59 E;have s59:=S59 E;have a59:=A59 E;have e59:=Z59 E
    have u66:=U66 E;have s66:=S66 E;have a66:=A66 E;have e66:=Z66 E
    have u72:=U72 E;have s72:=S72 E;have a72:=A72 E;have e72:=Z72 E
    have u73:=U73 E;have s73:=S73 E;have a73:=A73 E;have e73:=Z73 E
    have u112:=U112 E;have s112:=S112 E;have a112:=A112 E;have e112:=Z112 E
    have u114:=U114 E;have s114:=S114 E;have a114:=A114 E;have e114:=Z114 E
    refine over_eq (by omega) rfl (E.no 20 _ _ rfl) rfl ((E.fn 20).trans Tryz.func20) rfl hok rfl ?_
    have hokl := hok.locked
    have hnl : h.locked.next = h.next := rfl
    have hll : h.locked.lock = h.next := rfl
    have hil : h.locked.imp = h.imp := rfl
    have hfll : h.locked.fl = h.fl := rfl
    conv => whnf
    refine ⟨by simp [Tryz.f20], ?_⟩
    repeat ((conv=>whnf);first|((with_reducible refine Exists.intro ?_ (Exists.intro ?_ (And.intro (a:=_=some (Blk.cells _ _)) ?_ ?_)));rotate_left 2;· (try dsimp only);(repeat first|with_reducible assumption|with_reducible exact uA (by assumption)|with_reducible exact nA (by assumption)|((with_reducible refine uN (by assumption) ?_ ?_);· omega)|((with_reducible refine nN (by assumption) ?_ ?_);· omega)))|((with_reducible refine Exists.intro ?_ (And.intro ?_ ?_));rotate_left;· first|with_reducible assumption|((conv=>lhs;arg 2;whnf);with_reducible assumption)|exact rfl)|((with_reducible refine And.intro (a:=AH.may _ _=true) ?_ ?_);· (try dsimp only);(repeat first|with_reducible assumption|((with_reducible refine New.mayNew (by assumption) (by assumption) ?_ ?_ ?_)<;>omega)|refine Upd.mayOf (by assumption) ?_|refine New.mayOf (by assumption) ?_|refine Ke.mayOf (by assumption) ?_))|((with_reducible refine And.intro (a:=szOf _ _=_) ?_ ?_);· refine Eq.trans (by assumption) ?_;kernel_rfl)|((with_reducible refine And.intro (a:=List.all _ _=true) ?_ ?_);· kernel_rfl)|((with_reducible refine And.intro (a:=_=_) ?_ ?_);· first|with_reducible assumption|rfl)|((with_reducible refine And.intro (a:=_≤_) ?_ ?_);· first|omega|exact Nat.le_of_ble_eq_true (by kernel_rfl))|((with_reducible refine And.intro (a:=_<_) ?_ ?_);· omega)|((with_reducible refine And.intro (a:=_∧_) ?_ ?_);· constructor<;>first|omega|(simp<;>omega))|(refine brk_true ?_ ?_;· first|rfl|(simp only [q1,q2,q3,q4,q7,q8,ne_eq,q5,q6];omega))|(refine brk_false ?_ ?_;· first|rfl|(simp only [q1,q2,q3,q4,q7,q8,ne_eq,q5,q6];omega))|(intro aa uu;(try dsimp only at uu);have okk:=uu.ok;have nxx:=uu.next;have lkk:=uu.lock;have imm:=uu.imp))
    try conv=>whnf
    rfl
  · have u3:=U3 E;have s3:=S3 E;have a3:=A3 E;have e3:=Z3 E
    have u4:=U4 E;have s4:=S4 E;have a4:=A4 E;have e4:=Z4 E
    have u9:=U9 E;have s9:=S9 E;have a9:=A9 E;have e9:=Z9 E
    have u22:=U22 E;have s22:=S22 E;have a22:=A22 E;have e22:=Z22 E
    have u24:=U24 E;have s24:=S24 E;have a24:=A24 E;have e24:=Z24 E
    have u27:=U27 E;have s27:=S27 E;have a27:=A27 E;have e27:=Z27 E
    have u28:=U28 E;have s28:=S28 E;have a28:=A28 E;have e28:=Z28 E
    have u36:=U36 E;have s36:=S36 E;have a36:=A36 E;have e36:=Z36 E
    have u39:=U39 E;have s39:=S39 E;have a39:=A39 E;have e39:=Z39 E
    have u47:=U47 E;have s47:=S47 E;have a47:=A47 E;have e47:=Z47 E
    have u49:=U49 E;have s49:=S49 E;have a49:=A49 E;have e49:=Z49 E
    have u59:=U59 E;have s59:=S59 E;have a59:=A59 E;have e59:=Z59 E
    have u66:=U66 E;have s66:=S66 E;have a66:=A66 E;have e66:=Z66 E
    have u72:=U72 E;have s72:=S72 E;have a72:=A72 E;have e72:=Z72 E
    have u73:=U73 E;have s73:=S73 E;have a73:=A73 E;have e73:=Z73 E
    have u112:=U112 E;have s112:=S112 E;have a112:=A112 E;have e112:=Z112 E
    have u114:=U114 E;have s114:=S114 E;have a114:=A114 E;have e114:=Z114 E
    refine over_eq (by omega) rfl (E.no 20 _ _ rfl) rfl ((E.fn 20).trans Tryz.func20) rfl hok rfl ?_
    have hokl := hok.locked
    have hnl : h.locked.next = h.next := rfl
    have hll : h.locked.lock = h.next := rfl
    have hil : h.locked.imp = h.imp := rfl
    have hfll : h.locked.fl = h.fl := rfl
    conv => whnf
    refine ⟨by simp [Tryz.f20], ?_⟩
    repeat ((conv=>whnf);first|((with_reducible refine Exists.intro ?_ (Exists.intro ?_ (And.intro (a:=_=some (Blk.cells _ _)) ?_ ?_)));rotate_left 2;· (try dsimp only);(repeat first|with_reducible assumption|with_reducible exact uA (by assumption)|with_reducible exact nA (by assumption)|((with_reducible refine uN (by assumption) ?_ ?_);· omega)|((with_reducible refine nN (by assumption) ?_ ?_);· omega)))|((with_reducible refine Exists.intro ?_ (And.intro ?_ ?_));rotate_left;· first|with_reducible assumption|((conv=>lhs;arg 2;whnf);with_reducible assumption)|exact rfl)|((with_reducible refine And.intro (a:=AH.may _ _=true) ?_ ?_);· (try dsimp only);(repeat first|with_reducible assumption|((with_reducible refine New.mayNew (by assumption) (by assumption) ?_ ?_ ?_)<;>omega)|refine Upd.mayOf (by assumption) ?_|refine New.mayOf (by assumption) ?_|refine Ke.mayOf (by assumption) ?_))|((with_reducible refine And.intro (a:=szOf _ _=_) ?_ ?_);· refine Eq.trans (by assumption) ?_;kernel_rfl)|((with_reducible refine And.intro (a:=List.all _ _=true) ?_ ?_);· kernel_rfl)|((with_reducible refine And.intro (a:=_=_) ?_ ?_);· first|with_reducible assumption|rfl)|((with_reducible refine And.intro (a:=_≤_) ?_ ?_);· first|omega|exact Nat.le_of_ble_eq_true (by kernel_rfl))|((with_reducible refine And.intro (a:=_<_) ?_ ?_);· omega)|((with_reducible refine And.intro (a:=_∧_) ?_ ?_);· constructor<;>first|omega|(simp<;>omega))|(refine brk_true ?_ ?_;· first|rfl|(simp only [q1,q2,q3,q4,q7,q8,ne_eq,q5,q6];omega))|(refine brk_false ?_ ?_;· first|rfl|(simp only [q1,q2,q3,q4,q7,q8,ne_eq,q5,q6];omega))|(intro aa uu;(try dsimp only at uu);have okk:=uu.ok;have nxx:=uu.next;have lkk:=uu.lock;have imm:=uu.imp))
    try conv=>whnf
    rfl

theorem f20_good (E : Alike P Tryz.prog base walkJ) {d : Nat} {h : AH} {sh lg : Int} (hs : 0 ≤ sh) (hl : lg = -1 ∨ sh ≤ lg) (hd : 1 ≤ d) (hok : HOK h) (hn : h.next < 60000) (hi : h.imp ≤ h.next) :
    deepF P G ext 2199023255552 base mtJ d 20 [.agg (tyJ sh lg)] h = some (.tuple #[.agg #[.func (.func 33) #[] #[], .slice none 0 0], .bool true], none) := by
  rcases (show lg = -1 ∨ (lg ≠ -1 ∧ sh ≤ lg) by omega) with h1 | h1
  · have u3:=U3 E;have s3:=S3 E;have a3:=A3 E;have e3:=Z3 E
    have u4:=U4 E;have s4:=S4 E;have a4:=A4 E;have e4:=Z4 E
    have u9:=U9 E;have s9:=S9 E;have a9:=A9 E;have e9:=Z9 E
    have u22:=U22 E;have s22:=S22 E;have a22:=A22 E;have e22:=Z22 E
    have u24:=U24 E;have s24:=S24 E;have a24:=A24 E;have e24:=Z24 E
    have u27:=U27 E;have s27:=S27 E;have a27:=A27 E;have e27:=Z27 E
    have u28:=U28 E;have s28:=S28 E;have a28:=A28 E;have e28:=Z28 E
    have u36:=U36 E;have s36:=S36 E;have a36:=A36 E;have e36:=Z36 E
    have u39:=U39 E;have s39:=S39 E;have a39:=A39 E;have e39:=Z39 E
    have u47:=U47 E;have s47:=S47 E;have a47:=A47 E;have e47:=Z47 E
    have u49:=U49 E;have s49:=S49 E;have a49:=A49 E;have e49:=Z49 E
    have u59:=U59 E;have s59:=S59 E;have a59:=A59 E;have e59:=Z59 E
    have u66:=U66 E;have s66:=S66 E;have a66:=A66 E;have e66:=Z66 E
    have u72:=U72 E;have s72:=S72 E;have a72:=A72 E;have e72:=Z72 E
    have u73:=U73 E;have s73:=S73 E;have a73:=A73 E;have e73:=Z73 E
    have u112:=U112 E;have s112:=S112 E;have a112:=A112 E;have e112:=Z112 E
    have u114:=U114 E;have s114:=S114 E;have a114:=A114 E;have e114:=Z114 E
    refine over_eq (by omega) rfl (E.no 20 _ _ rfl) rfl ((E.fn 20).trans Tryz.func20) rfl hok rfl ?_
    have hokl := hok.locked
    have hnl : h.locked.next = h.next := rfl
    have hll : h.locked.lock = h.next := rfl
    have hil : h.locked.imp = h.imp := rfl
    have hfll : h.locked.fl = h.fl := rfl
    conv => whnf
    refine ⟨by simp [Tryz.f20], ?_⟩
    repeat ((conv=>whnf);first|((with_reducible refine Exists.intro ?_ (Exists.intro ?_ (And.intro (a:=_=some (Blk.cells _ _)) ?_ ?_)));rotate_left 2;· (try dsimp only);(repeat first|with_reducible assumption|with_reducible exact uA (by assumption)|with_reducible exact nA (by assumption)|((with_reducible refine uN (by assumption) ?_ ?_);· omega)|((with_reducible refine nN (by assumption) ?_ ?_);· omega)))|((with_reducible refine Exists.intro ?_ (And.intro ?_ ?_));rotate_left;· first|with_reducible assumption|((conv=>lhs;arg 2;whnf);with_reducible assumption)|exact rfl)|((with_reducible refine And.intro (a:=AH.may _ _=true) ?_ ?_);· (try dsimp only);(repeat first|with_reducible assumption|((with_reducible refine New.mayNew (by assumption) (by assumption) ?_ ?_ ?_)<;>omega)|refine Upd.mayOf (by assumption) ?_|refine New.mayOf (by assumption) ?_|refine Ke.mayOf (by assumption) ?_))|((with_reducible refine And.intro (a:=szOf _ _=_) ?_ ?_);· refine Eq.trans (by assumption) ?_;kernel_rfl)|((with_reducible refine And.intro (a:=List.all _ _=true) ?_ ?_);· kernel_rfl)|((with_reducible refine And.intro (a:=_=_) ?_ ?_);· first|with_reducible assumption|rfl)|((with_reducible refine And.intro (a:=_≤_) ?_ ?_);· first|omega|exact Nat.le_of_ble_eq_true (by kernel_rfl))|((with_reducible refine And.intro (a:=_<_) ?_ ?_);· omega)|((with_reducible refine And.intro (a:=_∧_) ?_ ?_);· constructor<;>first|omega|(simp<;>omega))|(refine brk_true ?_ ?_;· first|rfl|(simp only [q1,q2,q3,q4,q7,q8,ne_eq,q5,q6];omega))|(refine brk_false ?_ ?_;· first|rfl|(simp only [q1,q2,q3,q4,q7,q8,ne_eq,q5,q6];omega))|(intro aa uu;(try dsimp only at uu);have okk:=uu.ok;have nxx:=uu.next;have lkk:=uu.lock;have imm:=uu.imp))
    try conv=>whnf
    refine .inr ⟨2, by omega, ?_⟩
    repeat ((conv=>whnf);first|((with_reducible refine Exists.intro ?_ (Exists.intro ?_ (And.intro (a:=_=some (Blk.cells _ _)) ?_ ?_)));rotate_left 2;· (try dsimp only);(repeat first|with_reducible assumption|with_reducible exact uA (by assumption)|with_reducible exact nA (by assumption)|((with_reducible refine uN (by assumption) ?_ ?_);· omega)|((with_reducible refine nN (by assumption) ?_ ?_);· omega)))|((with_reducible refine Exists.intro ?_ (And.intro ?_ ?_));rotate_left;· first|with_reducible assumption|((conv=>lhs;arg 2;whnf);with_reducible assumption)|exact rfl)|((with_reducible refine And.intro (a:=AH.may _ _=true) ?_ ?_);· (try dsimp only);(repeat first|with_reducible assumption|((with_reducible refine New.mayNew (by assumption) (by assumption) ?_ ?_ ?_)<;>omega)|refine Upd.mayOf (by assumption) ?_|refine New.mayOf (by assumption) ?_|refine Ke.mayOf (by assumption) ?_))|((with_reducible refine And.intro (a:=szOf _ _=_) ?_ ?_);· refine Eq.trans (by assumption) ?_;kernel_rfl)|((with_reducible refine And.intro (a:=List.all _ _=true) ?_ ?_);· kernel_rfl)|((with_reducible refine And.intro (a:=_=_) ?_ ?_);· first|with_reducible assumption|rfl)|((with_reducible refine And.intro (a:=_≤_) ?_ ?_);· first|omega|exact Nat.le_of_ble_eq_true (by kernel_rfl))|((with_reducible refine And.intro (a:=_<_) ?_ ?_);· omega)|((with_reducible refine And.intro (a:=_∧_) ?_ ?_);· constructor<;>first|omega|(simp<;>omega))|(refine brk_true ?_ ?_;· first|rfl|(simp only [q1,q2,q3,q4,q7,q8,ne_eq,q5,q6];omega))|(refine brk_false ?_ ?_;· first|rfl|(simp only [q1,q2,q3,q4,q7,q8,ne_eq,q5,q6];omega))|(intro aa uu;(try dsimp only at uu);have okk:=uu.ok;have nxx:=uu.next;have lkk:=uu.lock;have imm:=uu.imp))
    try conv=>whnf
    refine .inr ⟨4, by omega, ?_⟩
    repeat ((conv=>whnf);first|((with_reducible refine Exists.intro ?_ (Exists.intro ?_ (And.intro (a:=_=some (Blk.cells _ _)) ?_ ?_)));rotate_left 2;· (try dsimp only);(repeat first|with_reducible assumption|with_reducible exact uA (by assumption)|with_reducible exact nA (by assumption)|((with_reducible refine uN (by assumption) ?_ ?_);· omega)|((with_reducible refine nN (by assumption) ?_ ?_);· omega)))|((with_reducible refine Exists.intro ?_ (And.intro ?_ ?_));rotate_left;· first|with_reducible assumption|((conv=>lhs;arg 2;whnf);with_reducible assumption)|exact rfl)|((with_reducible refine And.intro (a:=AH.may _ _=true) ?_ ?_);· (try dsimp only);(repeat first|with_reducible assumption|((with_reducible refine New.mayNew (by assumption) (by assumption) ?_ ?_ ?_)<;>omega)|refine Upd.mayOf (by assumption) ?_|refine New.mayOf (by assumption) ?_|refine Ke.mayOf (by assumption) ?_))|((with_reducible refine And.intro (a:=szOf _ _=_) ?_ ?_);· refine Eq.trans (by assumption) ?_;kernel_rfl)|((with_reducible refine And.intro (a:=List.all _ _=true) ?_ ?_);· kernel_rfl)|((with_reducible refine And.intro (a:=_=_) ?_ ?_);· first|with_reducible assumption|rfl)|((with_reducible refine And.intro (a:=_≤_) ?_ ?_);· first|omega|exact Nat.le_of_ble_eq_true (by kernel_rfl))|((with_reducible refine And.intro (a:=_<_) ?_ ?_);· omega)|((with_reducible refine And.intro (a:=_∧_) ?_ ?_);· constructor<;>first|omega|(simp<;>omega))|(refine brk_true ?_ ?_;· first|rfl|(simp only [q1,q2,q3,q4,q7,q8,ne_eq,q5,q6];omega))|(refine brk_false ?_ ?_;· first|rfl|(simp only [q1,q2,q3,q4,q7,q8,ne_eq,q5,q6];omega))|(intro aa uu;(try dsimp only at uu);have okk:=uu.ok;have nxx:=uu.next;have lkk:=uu.lock;have imm:=uu.imp))
    try conv=>whnf
    rfl
  · have u3:=U3 E;have s3:=S3 E;have a3:=A3 E;have e3:=Z3 E
    have u4:=U4 E;have s4:=S4 E;have a4:=A4 E;have e4:=Z4 E
    have u9:=U9 E;have s9:=S9 E;have a9:=A9 E;have e9:=Z9 E
    have u22:=U22 E;have s22:=S22 E;have a22:=A22 E;have e22:=Z22 E
    have u24:=U24 E;have s24:=S24 E;have a24:=A24 E;have e24:=Z24 E
    have u27:=U27 E;have s27:=S27 E;have a27:=A27 E;have e27:=Z27 E
    have u28:=U28 E;have s28:=S28 E;have a28:=A28 E;have e28:=Z28 E
    have u36:=U36 E;have s36:=S36 E;have a36:=A36 E;have e36:=Z36 E
    have u39:=U39 E;have s39:=S39 E;have a39:=A39 E;have e39:=Z39 E
    have u47:=U47 E;have s47:=S47 E;have a47:=A47 E;have e47:=Z47 E
    have u49:=U49 E;have s49:=S49 E;have a49:=A49 E;have e49:=Z49 E
    have u59:=U59 E;have s59:=S59 E;have a59:=A59 E;have e59:=Z59 E
    have u66:=U66 E;have s66:=S66 E;have a66:=A66 E;have e66:=Z66 E
    have u72:=U72 E;have s72:=S72 E;have a72:=A72 E;have e72:=Z72 E
    have u73:=U73 E;have s73:=S73 E;have a73:=A73 E;have e73:=Z73 E
    have u112:=U112 E;have s112:=S112 E;have a112:=A112 E;have e112:=Z112 E
    have u114:=U114 E;have s114:=S114 E;have a114:=A114 E;have e114:=Z114 E
    refine over_eq (by omega) rfl (E.no 20 _ _ rfl) rfl ((E.fn 20).trans Tryz.func20) rfl hok rfl ?_
    have hokl := hok.locked
    have hnl : h.locked.next = h.next := rfl
    have hll : h.locked.lock = h.next := rfl
    have hil : h.locked.imp = h.imp := rfl
    have hfll : h.locked.fl = h.fl := rfl
    conv => whnf
    refine ⟨by simp [Tryz.f20], ?_⟩
    repeat ((conv=>whnf);first|((with_reducible refine Exists.intro ?_ (Exists.intro ?_ (And.intro (a:=_=some (Blk.cells _ _)) ?_ ?_)));rotate_left 2;· (try dsimp only);(repeat first|with_reducible assumption|with_reducible exact uA (by assumption)|with_reducible exact nA (by assumption)|((with_reducible refine uN (by assumption) ?_ ?_);· omega)|((with_reducible refine nN (by assumption) ?_ ?_);· omega)))|((with_reducible refine Exists.intro ?_ (And.intro ?_ ?_));rotate_left;· first|with_reducible assumption|((conv=>lhs;arg 2;whnf);with_reducible assumption)|exact rfl)|((with_reducible refine And.intro (a:=AH.may _ _=true) ?_ ?_);· (try dsimp only);(repeat first|with_reducible assumption|((with_reducible refine New.mayNew (by assumption) (by assumption) ?_ ?_ ?_)<;>omega)|refine Upd.mayOf (by assumption) ?_|refine New.mayOf (by assumption) ?_|refine Ke.mayOf (by assumption) ?_))|((with_reducible refine And.intro (a:=szOf _ _=_) ?_ ?_);· refine Eq.trans (by assumption) ?_;kernel_rfl)|((with_reducible refine And.intro (a:=List.all _ _=true) ?_ ?_);· kernel_rfl)|((with_reducible refine And.intro (a:=_=_) ?_ ?_);· first|with_reducible assumption|rfl)|((with_reducible refine And.intro (a:=_≤_) ?_ ?_);· first|omega|exact Nat.le_of_ble_eq_true (by kernel_rfl))|((with_reducible refine And.intro (a:=_<_) ?_ ?_);· omega)|((with_reducible refine And.intro (a:=_∧_) ?_ ?_);· constructor<;>first|omega|(simp<;>omega))|(refine brk_true ?_ ?_;· first|rfl|(simp only [q1,q2,q3,q4,q7,q8,ne_eq,q5,q6];omega))|(refine brk_false ?_ ?_;· first|rfl|(simp only [q1,q2,q3,q4,q7,q8,ne_eq,q5,q6];omega))|(intro aa uu;(try dsimp only at uu);have okk:=uu.ok;have nxx:=uu.next;have lkk:=uu.lock;have imm:=uu.imp))
    try conv=>whnf
    refine .inr ⟨2, by omega, ?_⟩
    repeat ((conv=>whnf);first|((with_reducible refine Exists.intro ?_ (Exists.intro ?_ (And.intro (a:=_=some (Blk.cells _ _)) ?_ ?_)));rotate_left 2;· (try dsimp only);(repeat first|with_reducible assumption|with_reducible exact uA (by assumption)|with_reducible exact nA (by assumption)|((with_reducible refine uN (by assumption) ?_ ?_);· omega)|((with_reducible refine nN (by assumption) ?_ ?_);· omega)))|((with_reducible refine Exists.intro ?_ (And.intro ?_ ?_));rotate_left;· first|with_reducible assumption|((conv=>lhs;arg 2;whnf);with_reducible assumption)|exact rfl)|((with_reducible refine And.intro (a:=AH.may _ _=true) ?_ ?_);· (try dsimp only);(repeat first|with_reducible assumption|((with_reducible refine New.mayNew (by assumption) (by assumption) ?_ ?_ ?_)<;>omega)|refine Upd.mayOf (by assumption) ?_|refine New.mayOf (by assumption) ?_|refine Ke.mayOf (by assumption) ?_))|((with_reducible refine And.intro (a:=szOf _ _=_) ?_ ?_);· refine Eq.trans (by assumption) ?_;kernel_rfl)|((with_reducible refine And.intro (a:=List.all _ _=true) ?_ ?_);· kernel_rfl)|((with_reducible refine And.intro (a:=_=_) ?_ ?_);· first|with_reducible assumption|rfl)|((with_reducible refine And.intro (a:=_≤_) ?_ ?_);· first|omega|exact Nat.le_of_ble_eq_true (by kernel_rfl))|((with_reducible refine And.intro (a:=_<_) ?_ ?_);· omega)|((with_reducible refine And.intro (a:=_∧_) ?_ ?_);· constructor<;>first|omega|(simp<;>omega))|(refine brk_true ?_ ?_;· first|rfl|(simp only [q1,q2,q3,q4,q7,q8,ne_eq,q5,q6];omega))|(refine brk_false ?_ ?_;· first|rfl|(simp only [q1,q2,q3,q4,q7,q8,ne_eq,q5,q6];omega))|(intro aa uu;(try dsimp only at uu);have okk:=uu.ok;have nxx:=uu.next;have lkk:=uu.lock;have imm:=uu.imp))
    try conv=>whnf
    refine .inr ⟨4, by omega, ?_⟩
    repeat ((conv=>whnf);first|((with_reducible refine Exists.intro ?_ (Exists.intro ?_ (And.intro (a:=_=some (Blk.cells _ _)) ?_ ?_)));rotate_left 2;· (try dsimp only);(repeat first|with_reducible assumption|with_reducible exact uA (by assumption)|with_reducible exact nA (by assumption)|((with_reducible refine uN (by assumption) ?_ ?_);· omega)|((with_reducible refine nN (by assumption) ?_ ?_);· omega)))|((with_reducible refine Exists.intro ?_ (And.intro ?_ ?_));rotate_left;· first|with_reducible assumption|((conv=>lhs;arg 2;whnf);with_reducible assumption)|exact rfl)|((with_reducible refine And.intro (a:=AH.may _ _=true) ?_ ?_);· (try dsimp only);(repeat first|with_reducible assumption|((with_reducible refine New.mayNew (by assumption) (by assumption) ?_ ?_ ?_)<;>omega)|refine Upd.mayOf (by assumption) ?_|refine New.mayOf (by assumption) ?_|refine Ke.mayOf (by assumption) ?_))|((with_reducible refine And.intro (a:=szOf _ _=_) ?_ ?_);· refine Eq.trans (by assumption) ?_;kernel_rfl)|((with_reducible refine And.intro (a:=List.all _ _=true) ?_ ?_);· kernel_rfl)|((with_reducible refine And.intro (a:=_=_) ?_ ?_);· first|with_reducible assumption|rfl)|((with_reducible refine And.intro (a:=_≤_) ?_ ?_);· first|omega|exact Nat.le_of_ble_eq_true (by kernel_rfl))|((with_reducible refine And.intro (a:=_<_) ?_ ?_);· omega)|((with_reducible refine And.intro (a:=_∧_) ?_ ?_);· constructor<;>first|omega|(simp<;>omega))|(refine brk_true ?_ ?_;· first|rfl|(simp only [q1,q2,q3,q4,q7,q8,ne_eq,q5,q6];omega))|(refine brk_false ?_ ?_;· first|rfl|(simp only [q1,q2,q3,q4,q7,q8,ne_eq,q5,q6];omega))|(intro aa uu;(try dsimp only at uu);have okk:=uu.ok;have nxx:=uu.next;have lkk:=uu.lock;have imm:=uu.imp))
    try conv=>whnf
    rfl

theorem f13_bad (E : Alike P Tryz.prog base walkJ) {d : Nat} {h : AH} {sh lg : Int} (hb : sh < 0 ∨ (lg ≠ -1 ∧ lg < sh)) (hd : 2 ≤ d) (hok : HOK h) (hn : h.next < 59000) (hi : h.imp ≤ h.next) :
    deepF P G ext 2199023255552 base mtJ d 13 [.agg (tyJ sh lg)] h = some (.int .i64 1, none) := by
  have u3:=U3 E;have s3:=S3 E;have a3:=A3 E;have e3:=Z3 E
  have u4:=U4 E;have s4:=S4 E;have a4:=A4 E;have e4:=Z4 E
  have u9:=U9 E;have s9:=S9 E;have a9:=A9 E;have e9:=Z9 E
  have u22:=U22 E;have s22:=S22 E;have a22:=A22 E;have e22:=Z22 E
  have u24:=U24 E;have s24:=S24 E;have a24:=A24 E;have e24:=Z24 E
  have u36:=U36 E;have s36:=S36 E;have a36:=A36 E;have e36:=Z36 E
  have u47:=U47 E;have s47:=S47 E;have a47:=A47 E;have e47:=Z47 E
  have u49:=U49 E;have s49:=S49 E;have a49:=A49 E;have e49:=Z49 E
  have u59:=U59 E;have s59:=S59 E;have a59:=A59 E;have e59:=Z59 E
  refine over_eq (by omega) rfl (E.no 13 _ _ rfl) rfl ((E.fn 13).trans Tryz.func13) rfl hok rfl ?_
  have hokl := hok.locked
  have hnl : h.locked.next = h.next := rfl
  have hll : h.locked.lock = h.next := rfl
  have hil : h.locked.imp = h.imp := rfl
  have hfll : h.locked.fl = h.fl := rfl
  conv => whnf
  refine ⟨by simp [Tryz.f13], ?_⟩
  repeat ((conv=>whnf);first|((with_reducible refine Exists.intro ?_ (Exists.intro ?_ (And.intro (a:=_=some (Blk.cells _ _)) ?_ ?_)));rotate_left 2;· (try dsimp only);(repeat first|with_reducible assumption|with_reducible exact uA (by assumption)|with_reducible exact nA (by assumption)|((with_reducible refine uN (by assumption) ?_ ?_);· omega)|((with_reducible refine nN (by assumption) ?_ ?_);· omega)))|((with_reducible refine Exists.intro ?_ (And.intro ?_ ?_));rotate_left;· first|with_reducible assumption|((conv=>lhs;arg 2;whnf);with_reducible assumption)|exact rfl)|((with_reducible refine And.intro (a:=AH.may _ _=true) ?_ ?_);· (try dsimp only);(repeat first|with_reducible assumption|((with_reducible refine New.mayNew (by assumption) (by assumption) ?_ ?_ ?_)<;>omega)|refine Upd.mayOf (by assumption) ?_|refine New.mayOf (by assumption) ?_|refine Ke.mayOf (by assumption) ?_))|((with_reducible refine And.intro (a:=szOf _ _=_) ?_ ?_);· refine Eq.trans (by assumption) ?_;kernel_rfl)|((with_reducible refine And.intro (a:=List.all _ _=true) ?_ ?_);· kernel_rfl)|((with_reducible refine And.intro (a:=_=_) ?_ ?_);· first|with_reducible assumption|rfl)|((with_reducible refine And.intro (a:=_≤_) ?_ ?_);· first|omega|exact Nat.le_of_ble_eq_true (by kernel_rfl))|((with_reducible refine And.intro (a:=_<_) ?_ ?_);· omega)|((with_reducible refine And.intro (a:=_∧_) ?_ ?_);· constructor<;>first|omega|(simp<;>omega))|(refine brk_true ?_ ?_;· first|rfl|(simp only [q1,q2,q3,q4,q7,q8,ne_eq,q5,q6];omega))|(refine brk_false ?_ ?_;· first|rfl|(simp only [q1,q2,q3,q4,q7,q8,ne_eq,q5,q6];omega))|(intro aa uu;(try dsimp only at uu);have okk:=uu.ok;have nxx:=uu.next;have lkk:=uu.lock;have imm:=uu.imp))
  try conv=>whnf
  refine callB_pure ((E.fn 20).trans Tryz.func20) rfl ?_
  refine ⟨by assumption, _, (f20_bad E hb (by omega) (by assumption) (by omega) (by omega)), ?_⟩
  repeat ((conv=>whnf);first|((with_reducible refine Exists.intro ?_ (Exists.intro ?_ (And.intro (a:=_=some (Blk.cells _ _)) ?_ ?_)));rotate_left 2;· (try dsimp only);(repeat first|with_reducible assumption|with_reducible exact uA (by assumption)|with_reducible exact nA (by assumption)|((with_reducible refine uN (by assumption) ?_ ?_);· omega)|((with_reducible refine nN (by assumption) ?_ ?_);· omega)))|((with_reducible refine Exists.intro ?_ (And.intro ?_ ?_));rotate_left;· first|with_reducible assumption|((conv=>lhs;arg 2;whnf);with_reducible assumption)|exact rfl)|((with_reducible refine And.intro (a:=AH.may _ _=true) ?_ ?_);· (try dsimp only);(repeat first|with_reducible assumption|((with_reducible refine New.mayNew (by assumption) (by assumption) ?_ ?_ ?_)<;>omega)|refine Upd.mayOf (by assumption) ?_|refine New.mayOf (by assumption) ?_|refine Ke.mayOf (by assumption) ?_))|((with_reducible refine And.intro (a:=szOf _ _=_) ?_ ?_);· refine Eq.trans (by assumption) ?_;kernel_rfl)|((with_reducible refine And.intro (a:=List.all _ _=true) ?_ ?_);· kernel_rfl)|((with_reducible refine And.intro (a:=_=_) ?_ ?_);· first|with_reducible assumption|rfl)|((with_reducible refine And.intro (a:=_≤_) ?_ ?_);· first|omega|exact Nat.le_of_ble_eq_true (by kernel_rfl))|((with_reducible refine And.intro (a:=_<_) ?_ ?_);· omega)|((with_reducible refine And.intro (a:=_∧_) ?_ ?_);· constructor<;>first|omega|(simp<;>omega))|(refine brk_true ?_ ?_;· first|rfl|(simp only [q1,q2,q3,q4,q7,q8,ne_eq,q5,q6];omega))|(refine brk_false ?_ ?_;· first|rfl|(simp only [q1,q2,q3,q4,q7,q8,ne_eq,q5,q6];omega))|(intro aa uu;(try dsimp only at uu);have okk:=uu.ok;have nxx:=uu.next;have lkk:=uu.lock;have imm:=uu.imp))
  try conv=>whnf
  rfl

theorem f22_ok (E : Alike P Tryz.prog base walkJ) {d : Nat} {h : AH} {sh lg : Int} {s : ByteArray} (hd : 1 ≤ d) (hok : HOK h) (hn : h.next < 60000) (hi : h.imp ≤ h.next) :
    ∃ v h', deepF P G ext 2199023255552 base mtJ d 22 [.agg (tyJ sh lg), .string s] h = some (v, some h') ∧ HOK h' ∧ (v = .func (.func 45) #[] #[ptJ h.next, ptJ (h.next + 1)] ∧ h'.get h.next = some (.cells (tyJ sh lg) (tyOf P 24)) ∧ h'.get (h.next + 1) = some (.cells #[.string s] (tyOf P 9)) ∧
      h'.next = h.next + 2 ∧ h'.lock = h.lock ∧ h'.imp = h.imp ∧ h'.fl = h.fl ∧ ∀ j, j < h.next → h'.get j = h.get j) := by
  have u3:=U3 E;have s3:=S3 E;have a3:=A3 E;have e3:=Z3 E
  have u4:=U4 E;have s4:=S4 E;have a4:=A4 E;have e4:=Z4 E
  have u9:=U9 E;have s9:=S9 E;have a9:=A9 E;have e9:=Z9 E
  have u22:=U22 E;have s22:=S22 E;have a22:=A22 E;have e22:=Z22 E
  have u24:=U24 E;have s24:=S24 E;have a24:=A24 E;have e24:=Z24 E
  refine over_to (by omega) rfl (E.no 22 _ _ rfl) rfl ((E.fn 22).trans Tryz.func22) rfl hok ?_
  have hokl := hok.locked
  have hnl : h.locked.next = h.next := rfl
  have hll : h.locked.lock = h.next := rfl
  have hil : h.locked.imp = h.imp := rfl
  have hfll : h.locked.fl = h.fl := rfl
  conv => whnf
  refine ⟨by simp [Tryz.f22], ?_⟩
  repeat ((conv=>whnf);first|((with_reducible refine Exists.intro ?_ (Exists.intro ?_ (And.intro (a:=_=some (Blk.cells _ _)) ?_ ?_)));rotate_left 2;· (try dsimp only);(repeat first|with_reducible assumption|with_reducible exact uA (by assumption)|with_reducible exact nA (by assumption)|((with_reducible refine uN (by assumption) ?_ ?_);· omega)|((with_reducible refine nN (by assumption) ?_ ?_);· omega)))|((with_reducible refine Exists.intro ?_ (And.intro ?_ ?_));rotate_left;· first|with_reducible assumption|((conv=>lhs;arg 2;whnf);with_reducible assumption)|exact rfl)|((with_reducible refine And.intro (a:=AH.may _ _=true) ?_ ?_);· (try dsimp only);(repeat first|with_reducible assumption|((with_reducible refine New.mayNew (by assumption) (by assumption) ?_ ?_ ?_)<;>omega)|refine Upd.mayOf (by assumption) ?_|refine New.mayOf (by assumption) ?_|refine Ke.mayOf (by assumption) ?_))|((with_reducible refine And.intro (a:=szOf _ _=_) ?_ ?_);· refine Eq.trans (by assumption) ?_;kernel_rfl)|((with_reducible refine And.intro (a:=List.all _ _=true) ?_ ?_);· kernel_rfl)|((with_reducible refine And.intro (a:=_=_) ?_ ?_);· first|with_reducible assumption|rfl)|((with_reducible refine And.intro (a:=_≤_) ?_ ?_);· first|omega|exact Nat.le_of_ble_eq_true (by kernel_rfl))|((with_reducible refine And.intro (a:=_<_) ?_ ?_);· omega)|((with_reducible refine And.intro (a:=_∧_) ?_ ?_);· constructor<;>first|omega|(simp<;>omega))|(refine brk_true ?_ ?_;· first|rfl|(simp only [q1,q2,q3,q4,q7,q8,ne_eq,q5,q6];omega))|(refine brk_false ?_ ?_;· first|rfl|(simp only [q1,q2,q3,q4,q7,q8,ne_eq,q5,q6];omega))|(intro aa uu;(try dsimp only at uu);have okk:=uu.ok;have nxx:=uu.next;have lkk:=uu.lock;have imm:=uu.imp))
  try conv=>whnf
  rename_i x1 u1x o1x n1x l1x i1x
  have e1 : x1.next = h.next + 1 := by omega
  have w1 : ∀ j, j < h.next → aa.get j = h.get j := (fun j hj => by repeat first|((with_reducible refine uN (by assumption) ?_ ?_);· omega)|((with_reducible refine nN (by assumption) ?_ ?_);· omega)|exact rfl)
  have w2 : aa.fl = h.fl := (by repeat first|with_reducible assumption|refine Upd.flOf (by assumption) ?_|refine New.flOf (by assumption) ?_|refine Ke.flOf (by assumption) ?_|exact hfl|exact rfl)
  have w3 : aa.get h.locked.next = some (.cells (tyJ sh lg) (tyOf P 24)) := by (repeat first|with_reducible assumption|with_reducible exact uA (by assumption)|with_reducible exact nA (by assumption)|((with_reducible refine Eq.trans (uA (by assumption)) ?_);kernel_rfl)|((with_reducible refine Eq.trans (nA (by assumption)) ?_);kernel_rfl)|((with_reducible refine uN (by assumption) ?_ ?_);· omega)|((with_reducible refine nN (by assumption) ?_ ?_);· omega))
  have w4 : aa.get x1.next = some (.cells #[.string s] (tyOf P 9)) := by (repeat first|with_reducible assumption|with_reducible exact uA (by assumption)|with_reducible exact nA (by assumption)|((with_reducible refine Eq.trans (uA (by assumption)) ?_);kernel_rfl)|((with_reducible refine Eq.trans (nA (by assumption)) ?_);kernel_rfl)|((with_reducible refine uN (by assumption) ?_ ?_);· omega)|((with_reducible refine nN (by assumption) ?_ ?_);· omega))
  rw [e1] at w4 ⊢
  refine ⟨rfl, w3, w4, ?_, rfl, ?_, w2, w1⟩
  · show aa.next = _
    omega
  · show aa.imp = _
    omega

theorem f45_ok (E : Alike P Tryz.prog base walkJ) {d i a b : Nat} {h : AH} {sh lg : Int} {s : ByteArray} {g1 g2 : Gw} {Q : AH → Prop} (hd : 2 ≤ d) (hok : HOK h) (hlk : h.lock < h.next) (hn : h.next < 62000) (ga : h.get a = some (.cells (tyJ sh lg) g1)) (gb : h.get b = some (.cells #[.string s] g2))
    (hq : ∃ v h2, deepF P G ext 2199023255552 base mtJ (d - 1) yid (.func (.yield i) ⟨[]⟩ ⟨[]⟩ :: [.string s]) h = some (v, some h2) ∧ HOK h2 ∧ Q h2) :
    ∃ v h', deepF P G ext 2199023255552 base mtJ d 45 [.func (.yield i) ⟨[]⟩ ⟨[]⟩, ptJ a, ptJ b] h = some (v, some h') ∧ HOK h' ∧ Q h' := by
  have u3:=U3 E;have s3:=S3 E;have a3:=A3 E;have e3:=Z3 E
  have u4:=U4 E;have s4:=S4 E;have a4:=A4 E;have e4:=Z4 E
  have u9:=U9 E;have s9:=S9 E;have a9:=A9 E;have e9:=Z9 E
  have u22:=U22 E;have s22:=S22 E;have a22:=A22 E;have e22:=Z22 E
  have u24:=U24 E;have s24:=S24 E;have a24:=A24 E;have e24:=Z24 E
  have hl := beq_less hlk
  refine mut_to (by omega) rfl (E.no 45 _ _ rfl) (by first | exact .inl rfl | exact .inr rfl) hl ((E.fn 45).trans Tryz.func45) rfl hok ?_
  conv => whnf
  refine ⟨by simp [Tryz.f45], ?_⟩
  repeat ((conv=>whnf);first|((with_reducible refine Exists.intro ?_ (Exists.intro ?_ (And.intro (a:=_=some (Blk.cells _ _)) ?_ ?_)));rotate_left 2;· (try dsimp only);(repeat first|with_reducible assumption|with_reducible exact uA (by assumption)|with_reducible exact nA (by assumption)|((with_reducible refine uN (by assumption) ?_ ?_);· omega)|((with_reducible refine nN (by assumption) ?_ ?_);· omega)))|((with_reducible refine Exists.intro ?_ (And.intro ?_ ?_));rotate_left;· first|with_reducible assumption|((conv=>lhs;arg 2;whnf);with_reducible assumption)|exact rfl)|((with_reducible refine And.intro (a:=AH.may _ _=true) ?_ ?_);· (try dsimp only);(repeat first|with_reducible assumption|((with_reducible refine New.mayNew (by assumption) (by assumption) ?_ ?_ ?_)<;>omega)|refine Upd.mayOf (by assumption) ?_|refine New.mayOf (by assumption) ?_|refine Ke.mayOf (by assumption) ?_))|((with_reducible refine And.intro (a:=szOf _ _=_) ?_ ?_);· refine Eq.trans (by assumption) ?_;kernel_rfl)|((with_reducible refine And.intro (a:=List.all _ _=true) ?_ ?_);· kernel_rfl)|((with_reducible refine And.intro (a:=_=_) ?_ ?_);· first|with_reducible assumption|rfl)|((with_reducible refine And.intro (a:=_≤_) ?_ ?_);· first|omega|exact Nat.le_of_ble_eq_true (by kernel_rfl))|((with_reducible refine And.intro (a:=_<_) ?_ ?_);· omega)|((with_reducible refine And.intro (a:=_∧_) ?_ ?_);· constructor<;>first|omega|(simp<;>omega))|(refine brk_true ?_ ?_;· first|rfl|(simp only [q1,q2,q3,q4,q7,q8,ne_eq,q5,q6];omega))|(refine brk_false ?_ ?_;· first|rfl|(simp only [q1,q2,q3,q4,q7,q8,ne_eq,q5,q6];omega))|(intro aa uu;(try dsimp only at uu);have okk:=uu.ok;have nxx:=uu.next;have lkk:=uu.lock;have imm:=uu.imp))
  try conv=>whnf
  refine callB_pure ((E.fn 42).trans Tryz.func42) rfl ?_
  refine ⟨by assumption, _, (f42_ok E (by omega) (by assumption) (by omega)), ?_⟩
  repeat ((conv=>whnf);first|((with_reducible refine Exists.intro ?_ (Exists.intro ?_ (And.intro (a:=_=some (Blk.cells _ _)) ?_ ?_)));rotate_left 2;· (try dsimp only);(repeat first|with_reducible assumption|with_reducible exact uA (by assumption)|with_reducible exact nA (by assumption)|((with_reducible refine uN (by assumption) ?_ ?_);· omega)|((with_reducible refine nN (by assumption) ?_ ?_);· omega)))|((with_reducible refine Exists.intro ?_ (And.intro ?_ ?_));rotate_left;· first|with_reducible assumption|((conv=>lhs;arg 2;whnf);with_reducible assumption)|exact rfl)|((with_reducible refine And.intro (a:=AH.may _ _=true) ?_ ?_);· (try dsimp only);(repeat first|with_reducible assumption|((with_reducible refine New.mayNew (by assumption) (by assumption) ?_ ?_ ?_)<;>omega)|refine Upd.mayOf (by assumption) ?_|refine New.mayOf (by assumption) ?_|refine Ke.mayOf (by assumption) ?_))|((with_reducible refine And.intro (a:=szOf _ _=_) ?_ ?_);· refine Eq.trans (by assumption) ?_;kernel_rfl)|((with_reducible refine And.intro (a:=List.all _ _=true) ?_ ?_);· kernel_rfl)|((with_reducible refine And.intro (a:=_=_) ?_ ?_);· first|with_reducible assumption|rfl)|((with_reducible refine And.intro (a:=_≤_) ?_ ?_);· first|omega|exact Nat.le_of_ble_eq_true (by kernel_rfl))|((with_reducible refine And.intro (a:=_<_) ?_ ?_);· omega)|((with_reducible refine And.intro (a:=_∧_) ?_ ?_);· constructor<;>first|omega|(simp<;>omega))|(refine brk_true ?_ ?_;· first|rfl|(simp only [q1,q2,q3,q4,q7,q8,ne_eq,q5,q6];omega))|(refine brk_false ?_ ?_;· first|rfl|(simp only [q1,q2,q3,q4,q7,q8,ne_eq,q5,q6];omega))|(intro aa uu;(try dsimp only at uu);have okk:=uu.ok;have nxx:=uu.next;have lkk:=uu.lock;have imm:=uu.imp))
  try conv=>whnf
  refine callB_yield (yid_none E) ⟨fun _ h2 => Q h2, hq, ?_⟩
  rintro v h2 hok2 hQ
  repeat ((conv=>whnf);first|((with_reducible refine Exists.intro ?_ (Exists.intro ?_ (And.intro (a:=_=some (Blk.cells _ _)) ?_ ?_)));rotate_left 2;· (try dsimp only);(repeat first|with_reducible assumption|with_reducible exact uA (by assumption)|with_reducible exact nA (by assumption)|((with_reducible refine uN (by assumption) ?_ ?_);· omega)|((with_reducible refine nN (by assumption) ?_ ?_);· omega)))|((with_reducible refine Exists.intro ?_ (And.intro ?_ ?_));rotate_left;· first|with_reducible assumption|((conv=>lhs;arg 2;whnf);with_reducible assumption)|exact rfl)|((with_reducible refine And.intro (a:=AH.may _ _=true) ?_ ?_);· (try dsimp only);(repeat first|with_reducible assumption|((with_reducible refine New.mayNew (by assumption) (by assumption) ?_ ?_ ?_)<;>omega)|refine Upd.mayOf (by assumption) ?_|refine New.mayOf (by assumption) ?_|refine Ke.mayOf (by assumption) ?_))|((with_reducible refine And.intro (a:=szOf _ _=_) ?_ ?_);· refine Eq.trans (by assumption) ?_;kernel_rfl)|((with_reducible refine And.intro (a:=List.all _ _=true) ?_ ?_);· kernel_rfl)|((with_reducible refine And.intro (a:=_=_) ?_ ?_);· first|with_reducible assumption|rfl)|((with_reducible refine And.intro (a:=_≤_) ?_ ?_);· first|omega|exact Nat.le_of_ble_eq_true (by kernel_rfl))|((with_reducible refine And.intro (a:=_<_) ?_ ?_);· omega)|((with_reducible refine And.intro (a:=_∧_) ?_ ?_);· constructor<;>first|omega|(simp<;>omega))|(refine brk_true ?_ ?_;· first|rfl|(simp only [q1,q2,q3,q4,q7,q8,ne_eq,q5,q6];omega))|(refine brk_false ?_ ?_;· first|rfl|(simp only [q1,q2,q3,q4,q7,q8,ne_eq,q5,q6];omega))|(intro aa uu;(try dsimp only at uu);have okk:=uu.ok;have nxx:=uu.next;have lkk:=uu.lock;have imm:=uu.imp))
  try conv=>whnf
  assumption

theorem Grown.toNew {h h' : AH} {b : Blk} (x : Grown h h' none b) : New h h' b :=
  ⟨fun j => by rw [x.get]; simp, x.next, x.lock, x.imp, x.fl, x.ok⟩
theorem inf9_ok : (match Tryz.prog.info? 9 with | some i => Nat.beq i.size 1 && Nat.ble i.bytes 1000 | none => false) = true := by kernel_rfl
theorem inf9 : ∃ i, Tryz.prog.info? 9 = some i ∧ i.size = 1 ∧ i.bytes ≤ 1000 := by
  have h := inf9_ok
  split at h
  · rename_i i hi
    rw [Bool.and_eq_true] at h
    exact ⟨i, hi, beq_iff.1 h.1, ble_iff.1 h.2⟩
  · cases h
theorem inf39_ok : (match Tryz.prog.info? 39 with | some i => Nat.beq i.size 2 && Nat.ble i.bytes 1000 | none => false) = true := by kernel_rfl
theorem inf39 : ∃ i, Tryz.prog.info? 39 = some i ∧ i.size = 2 ∧ i.bytes ≤ 1000 := by
  have h := inf39_ok
  split at h
  · rename_i i hi
    rw [Bool.and_eq_true] at h
    exact ⟨i, hi, beq_iff.1 h.1, ble_iff.1 h.2⟩
  · cases h
end

end
end Go.Proofs.YtelimgiehdfblaaGreatDoor.V
