/- Whether chains have functions; chains are equal to themselves. Conditions: none. -/
import Derived.Test.YtiecjjcemnafaaaGreatDoorHh
namespace Go.Proofs.YtiecjjcemnafaaaGreatDoor.V
set_option linter.all false
open Go
noncomputable section

section
variable {P : Program} {G : Nat} {ext : FuncId → Option Ext} {base : Orc}

/-! Whether there is a function. -/

theorem f67_A (E : Alike P Tryz.prog base walkI) {d : Nat} {h : AH} (hok : HOK h) (hfl : h.fl = true) (hi : h.imp ≤ h.next) (hn : h.next + 30 < 65000) (hd : 1 ≤ d) : deepF P G ext 2199023255552 base mtI d 67 [.agg (itA 3 ⟨#[55]⟩)] h = some (.bool false, none) := by
  have u3:=U3 E;have s3:=S3 E;have a3:=A3 E
  have u9:=U9 E;have s9:=S9 E
  have u24:=U24 E;have s24:=S24 E
  have u28:=U28 E;have s28:=S28 E
  have u29:=U29 E;have s29:=S29 E;have a29:=A29 E
  have u30:=U30 E;have s30:=S30 E;have a30:=A30 E
  have u31:=U31 E;have s31:=S31 E
  have u33:=U33 E;have s33:=S33 E
  have u53:=U53 E;have s53:=S53 E
  have u66:=U66 E;have s66:=S66 E
  have u100:=U100 E;have s100:=S100 E
  have u144:=U144 E;have s144:=S144 E
  refine over_eq (by omega) rfl (E.no 67 _ _ rfl) rfl ((E.fn 67).trans Tryz.func67) rfl hok rfl ?_
  have hokl := hok.locked
  have hnl : h.locked.next = h.next := rfl
  have hll : h.locked.lock = h.next := rfl
  have hil : h.locked.imp = h.imp := rfl
  have hfll : h.locked.fl = h.fl := rfl
  conv => whnf
  refine ⟨by simp [Tryz.f67], ?_⟩
  repeat ((conv=>whnf);first|((with_reducible refine Exists.intro ?_ (Exists.intro ?_ (And.intro (a:=_=some (Blk.cells _ _)) ?_ ?_)));rotate_left 2;· (try dsimp only);(repeat first|with_reducible assumption|with_reducible exact uA (by assumption)|with_reducible exact nA (by assumption)|((with_reducible refine uN (by assumption) ?_ ?_);· omega)|((with_reducible refine nN (by assumption) ?_ ?_);· omega)))|((with_reducible refine Exists.intro ?_ (And.intro ?_ ?_));rotate_left;· first|with_reducible assumption|((conv=>lhs;arg 2;whnf);with_reducible assumption)|exact rfl)|((with_reducible refine And.intro (a:=AH.may _ _=true) ?_ ?_);· (try dsimp only);(repeat first|with_reducible assumption|((with_reducible refine New.mayNew (by assumption) (by assumption) ?_ ?_ ?_)<;>omega)|refine Upd.mayOf (by assumption) ?_|refine New.mayOf (by assumption) ?_|refine Ke.mayOf (by assumption) ?_))|((with_reducible refine And.intro (a:=szOf _ _=_) ?_ ?_);· refine Eq.trans (by assumption) ?_;kernel_rfl)|((with_reducible refine And.intro (a:=List.all _ _=true) ?_ ?_);· kernel_rfl)|((with_reducible refine And.intro (a:=_=_) ?_ ?_);· first|with_reducible assumption|rfl)|((with_reducible refine And.intro (a:=_≤_) ?_ ?_);· first|omega|exact Nat.le_of_ble_eq_true (by kernel_rfl))|((with_reducible refine And.intro (a:=_<_) ?_ ?_);· omega)|((with_reducible refine And.intro (a:=_∧_) ?_ ?_);· constructor<;>first|omega|(simp<;>omega))|(refine brk_true ?_ ?_;· first|rfl|(simp only [q1,q2,q3,q4,ne_eq,q5,q6];omega))|(refine brk_false ?_ ?_;· first|rfl|(simp only [q1,q2,q3,q4,ne_eq,q5,q6];omega))|(intro aa uu;(try dsimp only at uu);have okk:=uu.ok;have nxx:=uu.next;have lkk:=uu.lock;have imm:=uu.imp))
  try conv=>whnf
  rfl
theorem f67_F (E : Alike P Tryz.prog base walkI) {d f : Nat} {h : AH} (hok : HOK h) (hfl : h.fl = true) (hi : h.imp ≤ h.next) (hn : h.next + 30 < 65000) (hd : 1 ≤ d) : deepF P G ext 2199023255552 base mtI d 67 [.agg (itF f)] h = some (.bool true, none) := by
  have u3:=U3 E;have s3:=S3 E;have a3:=A3 E
  have u9:=U9 E;have s9:=S9 E
  have u24:=U24 E;have s24:=S24 E
  have u28:=U28 E;have s28:=S28 E
  have u29:=U29 E;have s29:=S29 E;have a29:=A29 E
  have u30:=U30 E;have s30:=S30 E;have a30:=A30 E
  have u31:=U31 E;have s31:=S31 E
  have u33:=U33 E;have s33:=S33 E
  have u53:=U53 E;have s53:=S53 E
  have u66:=U66 E;have s66:=S66 E
  have u100:=U100 E;have s100:=S100 E
  have u144:=U144 E;have s144:=S144 E
  refine over_eq (by omega) rfl (E.no 67 _ _ rfl) rfl ((E.fn 67).trans Tryz.func67) rfl hok rfl ?_
  have hokl := hok.locked
  have hnl : h.locked.next = h.next := rfl
  have hll : h.locked.lock = h.next := rfl
  have hil : h.locked.imp = h.imp := rfl
  have hfll : h.locked.fl = h.fl := rfl
  conv => whnf
  refine ⟨by simp [Tryz.f67], ?_⟩
  repeat ((conv=>whnf);first|((with_reducible refine Exists.intro ?_ (Exists.intro ?_ (And.intro (a:=_=some (Blk.cells _ _)) ?_ ?_)));rotate_left 2;· (try dsimp only);(repeat first|with_reducible assumption|with_reducible exact uA (by assumption)|with_reducible exact nA (by assumption)|((with_reducible refine uN (by assumption) ?_ ?_);· omega)|((with_reducible refine nN (by assumption) ?_ ?_);· omega)))|((with_reducible refine Exists.intro ?_ (And.intro ?_ ?_));rotate_left;· first|with_reducible assumption|((conv=>lhs;arg 2;whnf);with_reducible assumption)|exact rfl)|((with_reducible refine And.intro (a:=AH.may _ _=true) ?_ ?_);· (try dsimp only);(repeat first|with_reducible assumption|((with_reducible refine New.mayNew (by assumption) (by assumption) ?_ ?_ ?_)<;>omega)|refine Upd.mayOf (by assumption) ?_|refine New.mayOf (by assumption) ?_|refine Ke.mayOf (by assumption) ?_))|((with_reducible refine And.intro (a:=szOf _ _=_) ?_ ?_);· refine Eq.trans (by assumption) ?_;kernel_rfl)|((with_reducible refine And.intro (a:=List.all _ _=true) ?_ ?_);· kernel_rfl)|((with_reducible refine And.intro (a:=_=_) ?_ ?_);· first|with_reducible assumption|rfl)|((with_reducible refine And.intro (a:=_≤_) ?_ ?_);· first|omega|exact Nat.le_of_ble_eq_true (by kernel_rfl))|((with_reducible refine And.intro (a:=_<_) ?_ ?_);· omega)|((with_reducible refine And.intro (a:=_∧_) ?_ ?_);· constructor<;>first|omega|(simp<;>omega))|(refine brk_true ?_ ?_;· first|rfl|(simp only [q1,q2,q3,q4,ne_eq,q5,q6];omega))|(refine brk_false ?_ ?_;· first|rfl|(simp only [q1,q2,q3,q4,ne_eq,q5,q6];omega))|(intro aa uu;(try dsimp only at uu);have okk:=uu.ok;have nxx:=uu.next;have lkk:=uu.lock;have imm:=uu.imp))
  try conv=>whnf
  rfl
theorem f67_M (E : Alike P Tryz.prog base walkI) {d m x : Nat} {r : Bool} {h : AH} (hok : HOK h) (hfl : h.fl = true) (hi : h.imp ≤ h.next) (hn : h.next + 30 < 65000) (hm : m < h.next) (h1 : h.get m = some (.cells #[sl x 1] .no)) (hd : 4 ≤ d)
    (hx : ∀ h' : AH, HOK h' → h'.fl = true → h'.imp ≤ h'.next → h.next ≤ h'.next → h'.next ≤ h.next + 5 → (∀ j, j < h.next → h'.get j = h.get j) → deepF P G ext 2199023255552 base mtI (d - 3) 39 [sl x 1] h' = some (.bool r, none)) : deepF P G ext 2199023255552 base mtI d 67 [.agg (itM m 1)] h = some (.bool r, none) := by
  have h1' : h.locked.get m = some (.cells #[sl x 1] .no) := h1
  have u3:=U3 E;have s3:=S3 E;have a3:=A3 E
  have u9:=U9 E;have s9:=S9 E
  have u24:=U24 E;have s24:=S24 E
  have u28:=U28 E;have s28:=S28 E
  have u29:=U29 E;have s29:=S29 E;have a29:=A29 E
  have u30:=U30 E;have s30:=S30 E;have a30:=A30 E
  have u31:=U31 E;have s31:=S31 E
  have u33:=U33 E;have s33:=S33 E
  have u53:=U53 E;have s53:=S53 E
  have u66:=U66 E;have s66:=S66 E
  have u100:=U100 E;have s100:=S100 E
  have u144:=U144 E;have s144:=S144 E
  refine over_eq (by omega) rfl (E.no 67 _ _ rfl) rfl ((E.fn 67).trans Tryz.func67) rfl hok rfl ?_
  have hokl := hok.locked
  have hnl : h.locked.next = h.next := rfl
  have hll : h.locked.lock = h.next := rfl
  have hil : h.locked.imp = h.imp := rfl
  have hfll : h.locked.fl = h.fl := rfl
  conv => whnf
  refine ⟨by simp [Tryz.f67], ?_⟩
  repeat ((conv=>whnf);first|((with_reducible refine Exists.intro ?_ (Exists.intro ?_ (And.intro (a:=_=some (Blk.cells _ _)) ?_ ?_)));rotate_left 2;· (try dsimp only);(repeat first|with_reducible assumption|with_reducible exact uA (by assumption)|with_reducible exact nA (by assumption)|((with_reducible refine uN (by assumption) ?_ ?_);· omega)|((with_reducible refine nN (by assumption) ?_ ?_);· omega)))|((with_reducible refine Exists.intro ?_ (And.intro ?_ ?_));rotate_left;· first|with_reducible assumption|((conv=>lhs;arg 2;whnf);with_reducible assumption)|exact rfl)|((with_reducible refine And.intro (a:=AH.may _ _=true) ?_ ?_);· (try dsimp only);(repeat first|with_reducible assumption|((with_reducible refine New.mayNew (by assumption) (by assumption) ?_ ?_ ?_)<;>omega)|refine Upd.mayOf (by assumption) ?_|refine New.mayOf (by assumption) ?_|refine Ke.mayOf (by assumption) ?_))|((with_reducible refine And.intro (a:=szOf _ _=_) ?_ ?_);· refine Eq.trans (by assumption) ?_;kernel_rfl)|((with_reducible refine And.intro (a:=List.all _ _=true) ?_ ?_);· kernel_rfl)|((with_reducible refine And.intro (a:=_=_) ?_ ?_);· first|with_reducible assumption|rfl)|((with_reducible refine And.intro (a:=_≤_) ?_ ?_);· first|omega|exact Nat.le_of_ble_eq_true (by kernel_rfl))|((with_reducible refine And.intro (a:=_<_) ?_ ?_);· omega)|((with_reducible refine And.intro (a:=_∧_) ?_ ?_);· constructor<;>first|omega|(simp<;>omega))|(refine brk_true ?_ ?_;· first|rfl|(simp only [q1,q2,q3,q4,ne_eq,q5,q6];omega))|(refine brk_false ?_ ?_;· first|rfl|(simp only [q1,q2,q3,q4,ne_eq,q5,q6];omega))|(intro aa uu;(try dsimp only at uu);have okk:=uu.ok;have nxx:=uu.next;have lkk:=uu.lock;have imm:=uu.imp))
  try conv=>whnf
  refine callB_pure ((E.fn 68).trans Tryz.func68) rfl ?_
  refine ⟨by assumption, _, (f68_p E rfl (by omega) (by assumption) (f106_p E rfl (by omega) okk.locked (g := .no) (c0 := sl x 1) (by show aa.get m = _; (repeat first|with_reducible assumption|with_reducible exact uA (by assumption)|with_reducible exact nA (by assumption)|((with_reducible refine uN (by assumption) ?_ ?_);· omega)|((with_reducible refine nN (by assumption) ?_ ?_);· omega))) (callB_by ((E.fn 39).trans Tryz.func39) rfl (hx aa.locked.locked okk.locked.locked (by show aa.fl = true; exact (by repeat first|with_reducible assumption|refine Upd.flOf (by assumption) ?_|refine New.flOf (by assumption) ?_|refine Ke.flOf (by assumption) ?_|exact hfl|exact rfl)) (by show aa.imp ≤ aa.next; omega) (by show _ ≤ aa.next; omega) (by show aa.next ≤ _; omega) (fun j hj => by show aa.get j = _; exact (fun j hj => by repeat first|((with_reducible refine uN (by assumption) ?_ ?_);· omega)|((with_reducible refine nN (by assumption) ?_ ?_);· omega)|exact rfl) j hj))))), ?_⟩
  repeat ((conv=>whnf);first|((with_reducible refine Exists.intro ?_ (Exists.intro ?_ (And.intro (a:=_=some (Blk.cells _ _)) ?_ ?_)));rotate_left 2;· (try dsimp only);(repeat first|with_reducible assumption|with_reducible exact uA (by assumption)|with_reducible exact nA (by assumption)|((with_reducible refine uN (by assumption) ?_ ?_);· omega)|((with_reducible refine nN (by assumption) ?_ ?_);· omega)))|((with_reducible refine Exists.intro ?_ (And.intro ?_ ?_));rotate_left;· first|with_reducible assumption|((conv=>lhs;arg 2;whnf);with_reducible assumption)|exact rfl)|((with_reducible refine And.intro (a:=AH.may _ _=true) ?_ ?_);· (try dsimp only);(repeat first|with_reducible assumption|((with_reducible refine New.mayNew (by assumption) (by assumption) ?_ ?_ ?_)<;>omega)|refine Upd.mayOf (by assumption) ?_|refine New.mayOf (by assumption) ?_|refine Ke.mayOf (by assumption) ?_))|((with_reducible refine And.intro (a:=szOf _ _=_) ?_ ?_);· refine Eq.trans (by assumption) ?_;kernel_rfl)|((with_reducible refine And.intro (a:=List.all _ _=true) ?_ ?_);· kernel_rfl)|((with_reducible refine And.intro (a:=_=_) ?_ ?_);· first|with_reducible assumption|rfl)|((with_reducible refine And.intro (a:=_≤_) ?_ ?_);· first|omega|exact Nat.le_of_ble_eq_true (by kernel_rfl))|((with_reducible refine And.intro (a:=_<_) ?_ ?_);· omega)|((with_reducible refine And.intro (a:=_∧_) ?_ ?_);· constructor<;>first|omega|(simp<;>omega))|(refine brk_true ?_ ?_;· first|rfl|(simp only [q1,q2,q3,q4,ne_eq,q5,q6];omega))|(refine brk_false ?_ ?_;· first|rfl|(simp only [q1,q2,q3,q4,ne_eq,q5,q6];omega))|(intro aa uu;(try dsimp only at uu);have okk:=uu.ok;have nxx:=uu.next;have lkk:=uu.lock;have imm:=uu.imp))
  try conv=>whnf
  rfl
theorem f70_p (E : Alike P Tryz.prog base walkI) {d x : Nat} {r : Bool} {h : AH} (hok : HOK h) (hfl : h.fl = true) (hi : h.imp ≤ h.next) (hn : h.next + 30 < 65000) (hd : 2 ≤ d)
    (hx : ∀ h' : AH, HOK h' → h'.fl = true → h'.imp ≤ h'.next → h.next ≤ h'.next → h'.next ≤ h.next + 5 → (∀ j, j < h.next → h'.get j = h.get j) → deepF P G ext 2199023255552 base mtI (d - 1) 39 [sl x 1] h' = some (.bool r, none)) : deepF P G ext 2199023255552 base mtI d 70 [.agg #[.int .i64 1, .string ⟨#[107]⟩, sl x 1]] h = some (.bool r, none) := by
  have u3:=U3 E;have s3:=S3 E
  have u9:=U9 E;have s9:=S9 E
  have u24:=U24 E;have s24:=S24 E;have a24:=A24 E
  have u28:=U28 E;have s28:=S28 E
  have u29:=U29 E;have s29:=S29 E
  have u30:=U30 E;have s30:=S30 E
  have u31:=U31 E;have s31:=S31 E
  have u33:=U33 E;have s33:=S33 E
  have u53:=U53 E;have s53:=S53 E
  refine over_eq (by omega) rfl (E.no 70 _ _ rfl) rfl ((E.fn 70).trans Tryz.func70) rfl hok rfl ?_
  have hokl := hok.locked
  have hnl : h.locked.next = h.next := rfl
  have hll : h.locked.lock = h.next := rfl
  have hil : h.locked.imp = h.imp := rfl
  have hfll : h.locked.fl = h.fl := rfl
  conv => whnf
  refine ⟨by simp [Tryz.f70], ?_⟩
  repeat ((conv=>whnf);first|((with_reducible refine Exists.intro ?_ (Exists.intro ?_ (And.intro (a:=_=some (Blk.cells _ _)) ?_ ?_)));rotate_left 2;· (try dsimp only);(repeat first|with_reducible assumption|with_reducible exact uA (by assumption)|with_reducible exact nA (by assumption)|((with_reducible refine uN (by assumption) ?_ ?_);· omega)|((with_reducible refine nN (by assumption) ?_ ?_);· omega)))|((with_reducible refine Exists.intro ?_ (And.intro ?_ ?_));rotate_left;· first|with_reducible assumption|((conv=>lhs;arg 2;whnf);with_reducible assumption)|exact rfl)|((with_reducible refine And.intro (a:=AH.may _ _=true) ?_ ?_);· (try dsimp only);(repeat first|with_reducible assumption|((with_reducible refine New.mayNew (by assumption) (by assumption) ?_ ?_ ?_)<;>omega)|refine Upd.mayOf (by assumption) ?_|refine New.mayOf (by assumption) ?_|refine Ke.mayOf (by assumption) ?_))|((with_reducible refine And.intro (a:=szOf _ _=_) ?_ ?_);· refine Eq.trans (by assumption) ?_;kernel_rfl)|((with_reducible refine And.intro (a:=List.all _ _=true) ?_ ?_);· kernel_rfl)|((with_reducible refine And.intro (a:=_=_) ?_ ?_);· first|with_reducible assumption|rfl)|((with_reducible refine And.intro (a:=_≤_) ?_ ?_);· first|omega|exact Nat.le_of_ble_eq_true (by kernel_rfl))|((with_reducible refine And.intro (a:=_<_) ?_ ?_);· omega)|((with_reducible refine And.intro (a:=_∧_) ?_ ?_);· constructor<;>first|omega|(simp<;>omega))|(refine brk_true ?_ ?_;· first|rfl|(simp only [q1,q2,q3,q4,ne_eq,q5,q6];omega))|(refine brk_false ?_ ?_;· first|rfl|(simp only [q1,q2,q3,q4,ne_eq,q5,q6];omega))|(intro aa uu;(try dsimp only at uu);have okk:=uu.ok;have nxx:=uu.next;have lkk:=uu.lock;have imm:=uu.imp))
  try conv=>whnf
  refine callB_pure ((E.fn 39).trans Tryz.func39) rfl ?_
  refine ⟨by assumption, _, (hx aa okk (by repeat first|with_reducible assumption|refine Upd.flOf (by assumption) ?_|refine New.flOf (by assumption) ?_|refine Ke.flOf (by assumption) ?_|exact hfl|exact rfl) (by omega) (by omega) (by omega) (fun j hj => by repeat first|((with_reducible refine uN (by assumption) ?_ ?_);· omega)|((with_reducible refine nN (by assumption) ?_ ?_);· omega)|exact rfl)), ?_⟩
  repeat ((conv=>whnf);first|((with_reducible refine Exists.intro ?_ (Exists.intro ?_ (And.intro (a:=_=some (Blk.cells _ _)) ?_ ?_)));rotate_left 2;· (try dsimp only);(repeat first|with_reducible assumption|with_reducible exact uA (by assumption)|with_reducible exact nA (by assumption)|((with_reducible refine uN (by assumption) ?_ ?_);· omega)|((with_reducible refine nN (by assumption) ?_ ?_);· omega)))|((with_reducible refine Exists.intro ?_ (And.intro ?_ ?_));rotate_left;· first|with_reducible assumption|((conv=>lhs;arg 2;whnf);with_reducible assumption)|exact rfl)|((with_reducible refine And.intro (a:=AH.may _ _=true) ?_ ?_);· (try dsimp only);(repeat first|with_reducible assumption|((with_reducible refine New.mayNew (by assumption) (by assumption) ?_ ?_ ?_)<;>omega)|refine Upd.mayOf (by assumption) ?_|refine New.mayOf (by assumption) ?_|refine Ke.mayOf (by assumption) ?_))|((with_reducible refine And.intro (a:=szOf _ _=_) ?_ ?_);· refine Eq.trans (by assumption) ?_;kernel_rfl)|((with_reducible refine And.intro (a:=List.all _ _=true) ?_ ?_);· kernel_rfl)|((with_reducible refine And.intro (a:=_=_) ?_ ?_);· first|with_reducible assumption|rfl)|((with_reducible refine And.intro (a:=_≤_) ?_ ?_);· first|omega|exact Nat.le_of_ble_eq_true (by kernel_rfl))|((with_reducible refine And.intro (a:=_<_) ?_ ?_);· omega)|((with_reducible refine And.intro (a:=_∧_) ?_ ?_);· constructor<;>first|omega|(simp<;>omega))|(refine brk_true ?_ ?_;· first|rfl|(simp only [q1,q2,q3,q4,ne_eq,q5,q6];omega))|(refine brk_false ?_ ?_;· first|rfl|(simp only [q1,q2,q3,q4,ne_eq,q5,q6];omega))|(intro aa uu;(try dsimp only at uu);have okk:=uu.ok;have nxx:=uu.next;have lkk:=uu.lock;have imm:=uu.imp))
  try conv=>whnf
  rfl
theorem f67_P (E : Alike P Tryz.prog base walkI) {d m x : Nat} {r : Bool} {h : AH} (hok : HOK h) (hfl : h.fl = true) (hi : h.imp ≤ h.next) (hn : h.next + 40 < 65000) (hm : m < h.next) (h1 : h.get m = some (.cells #[.int .i64 1, .string ⟨#[107]⟩, sl x 1] .no)) (hd : 5 ≤ d)
    (hx : ∀ h' : AH, HOK h' → h'.fl = true → h'.imp ≤ h'.next → h.next ≤ h'.next → h'.next ≤ h.next + 8 → (∀ j, j < h.next → h'.get j = h.get j) → deepF P G ext 2199023255552 base mtI (d - 4) 39 [sl x 1] h' = some (.bool r, none)) : deepF P G ext 2199023255552 base mtI d 67 [.agg (itP m 1)] h = some (.bool r, none) := by
  have h1' : h.locked.get m = some (.cells #[.int .i64 1, .string ⟨#[107]⟩, sl x 1] .no) := h1
  have u3:=U3 E;have s3:=S3 E;have a3:=A3 E
  have u9:=U9 E;have s9:=S9 E
  have u24:=U24 E;have s24:=S24 E
  have u28:=U28 E;have s28:=S28 E
  have u29:=U29 E;have s29:=S29 E;have a29:=A29 E
  have u30:=U30 E;have s30:=S30 E;have a30:=A30 E
  have u31:=U31 E;have s31:=S31 E
  have u33:=U33 E;have s33:=S33 E
  have u53:=U53 E;have s53:=S53 E
  have u66:=U66 E;have s66:=S66 E
  have u100:=U100 E;have s100:=S100 E
  have u144:=U144 E;have s144:=S144 E
  refine over_eq (by omega) rfl (E.no 67 _ _ rfl) rfl ((E.fn 67).trans Tryz.func67) rfl hok rfl ?_
  have hokl := hok.locked
  have hnl : h.locked.next = h.next := rfl
  have hll : h.locked.lock = h.next := rfl
  have hil : h.locked.imp = h.imp := rfl
  have hfll : h.locked.fl = h.fl := rfl
  conv => whnf
  refine ⟨by simp [Tryz.f67], ?_⟩
  repeat ((conv=>whnf);first|((with_reducible refine Exists.intro ?_ (Exists.intro ?_ (And.intro (a:=_=some (Blk.cells _ _)) ?_ ?_)));rotate_left 2;· (try dsimp only);(repeat first|with_reducible assumption|with_reducible exact uA (by assumption)|with_reducible exact nA (by assumption)|((with_reducible refine uN (by assumption) ?_ ?_);· omega)|((with_reducible refine nN (by assumption) ?_ ?_);· omega)))|((with_reducible refine Exists.intro ?_ (And.intro ?_ ?_));rotate_left;· first|with_reducible assumption|((conv=>lhs;arg 2;whnf);with_reducible assumption)|exact rfl)|((with_reducible refine And.intro (a:=AH.may _ _=true) ?_ ?_);· (try dsimp only);(repeat first|with_reducible assumption|((with_reducible refine New.mayNew (by assumption) (by assumption) ?_ ?_ ?_)<;>omega)|refine Upd.mayOf (by assumption) ?_|refine New.mayOf (by assumption) ?_|refine Ke.mayOf (by assumption) ?_))|((with_reducible refine And.intro (a:=szOf _ _=_) ?_ ?_);· refine Eq.trans (by assumption) ?_;kernel_rfl)|((with_reducible refine And.intro (a:=List.all _ _=true) ?_ ?_);· kernel_rfl)|((with_reducible refine And.intro (a:=_=_) ?_ ?_);· first|with_reducible assumption|rfl)|((with_reducible refine And.intro (a:=_≤_) ?_ ?_);· first|omega|exact Nat.le_of_ble_eq_true (by kernel_rfl))|((with_reducible refine And.intro (a:=_<_) ?_ ?_);· omega)|((with_reducible refine And.intro (a:=_∧_) ?_ ?_);· constructor<;>first|omega|(simp<;>omega))|(refine brk_true ?_ ?_;· first|rfl|(simp only [q1,q2,q3,q4,ne_eq,q5,q6];omega))|(refine brk_false ?_ ?_;· first|rfl|(simp only [q1,q2,q3,q4,ne_eq,q5,q6];omega))|(intro aa uu;(try dsimp only at uu);have okk:=uu.ok;have nxx:=uu.next;have lkk:=uu.lock;have imm:=uu.imp))
  try conv=>whnf
  have w1 : ∀ j, j < h.next → aa.get j = h.get j := (fun j hj => by repeat first|((with_reducible refine uN (by assumption) ?_ ?_);· omega)|((with_reducible refine nN (by assumption) ?_ ?_);· omega)|exact rfl)
  have w2 : aa.fl = true := (by repeat first|with_reducible assumption|refine Upd.flOf (by assumption) ?_|refine New.flOf (by assumption) ?_|refine Ke.flOf (by assumption) ?_|exact hfl|exact rfl)
  have w3 : aa.get m = some (.cells #[.int .i64 1, .string ⟨#[107]⟩, sl x 1] .no) := by (repeat first|with_reducible assumption|with_reducible exact uA (by assumption)|with_reducible exact nA (by assumption)|((with_reducible refine uN (by assumption) ?_ ?_);· omega)|((with_reducible refine nN (by assumption) ?_ ?_);· omega))
  refine callB_pure ((E.fn 69).trans Tryz.func69) rfl ?_
  refine ⟨by assumption, _, (f69_p E rfl (by omega) (by assumption) (f107_p E rfl (by omega) okk.locked (g := .no) (c0 := .int .i64 1) (c1 := .string ⟨#[107]⟩) (c2 := sl x 1) w3 (callB_by ((E.fn 70).trans Tryz.func70) rfl (f70_p (h := aa.locked.locked) E okk.locked.locked w2 (by show aa.imp ≤ aa.next; omega) (by show aa.next + 30 < _; omega) (by omega) (fun h' b1 b2 b3 b4 b5 b6 => hx h' b1 b2 b3 (Nat.le_trans (show h.next ≤ aa.next by omega) b4) (Nat.le_trans b5 (show aa.next + 5 ≤ _ by omega)) (fun j hj => (b6 j (show j < aa.next by omega)).trans (w1 j hj))))))), ?_⟩
  repeat ((conv=>whnf);first|((with_reducible refine Exists.intro ?_ (Exists.intro ?_ (And.intro (a:=_=some (Blk.cells _ _)) ?_ ?_)));rotate_left 2;· (try dsimp only);(repeat first|with_reducible assumption|with_reducible exact uA (by assumption)|with_reducible exact nA (by assumption)|((with_reducible refine uN (by assumption) ?_ ?_);· omega)|((with_reducible refine nN (by assumption) ?_ ?_);· omega)))|((with_reducible refine Exists.intro ?_ (And.intro ?_ ?_));rotate_left;· first|with_reducible assumption|((conv=>lhs;arg 2;whnf);with_reducible assumption)|exact rfl)|((with_reducible refine And.intro (a:=AH.may _ _=true) ?_ ?_);· (try dsimp only);(repeat first|with_reducible assumption|((with_reducible refine New.mayNew (by assumption) (by assumption) ?_ ?_ ?_)<;>omega)|refine Upd.mayOf (by assumption) ?_|refine New.mayOf (by assumption) ?_|refine Ke.mayOf (by assumption) ?_))|((with_reducible refine And.intro (a:=szOf _ _=_) ?_ ?_);· refine Eq.trans (by assumption) ?_;kernel_rfl)|((with_reducible refine And.intro (a:=List.all _ _=true) ?_ ?_);· kernel_rfl)|((with_reducible refine And.intro (a:=_=_) ?_ ?_);· first|with_reducible assumption|rfl)|((with_reducible refine And.intro (a:=_≤_) ?_ ?_);· first|omega|exact Nat.le_of_ble_eq_true (by kernel_rfl))|((with_reducible refine And.intro (a:=_<_) ?_ ?_);· omega)|((with_reducible refine And.intro (a:=_∧_) ?_ ?_);· constructor<;>first|omega|(simp<;>omega))|(refine brk_true ?_ ?_;· first|rfl|(simp only [q1,q2,q3,q4,ne_eq,q5,q6];omega))|(refine brk_false ?_ ?_;· first|rfl|(simp only [q1,q2,q3,q4,ne_eq,q5,q6];omega))|(intro aa uu;(try dsimp only at uu);have okk:=uu.ok;have nxx:=uu.next;have lkk:=uu.lock;have imm:=uu.imp))
  try conv=>whnf
  rfl

theorem f39_of (E : Alike P Tryz.prog base walkI) {d b : Nat} {r : Bool} {h : AH} {c0 c1 c2 c3 c4 c5 c6 c7 : Value} {g : Gw} (hok : HOK h) (hd : 3 ≤ d) (h1 : h.get b = some (.cells #[c0, c1, c2, c3, c4, c5, c6, c7] g))
    (hx : ∀ h' : AH, HOK h' → h'.fl = h.fl → h'.imp = h.imp → h'.next = h.next → (∀ j, h'.get j = h.get j) → deepF P G ext 2199023255552 base mtI (d - 3) 67 [.agg #[c0, c1, c2, c3, c4, c5, c6, c7]] h' = some (.bool r, none)) : deepF P G ext 2199023255552 base mtI d 39 [sl b 1] h = some (.bool r, none) := by
  have u3:=U3 E;have s3:=S3 E
  have u24:=U24 E;have s24:=S24 E
  have u28:=U28 E;have s28:=S28 E
  have u29:=U29 E;have s29:=S29 E
  have u30:=U30 E;have s30:=S30 E
  have u31:=U31 E;have s31:=S31 E
  have u33:=U33 E;have s33:=S33 E
  have u108:=U108 E;have s108:=S108 E
  refine over_eq (by omega) rfl (E.no 39 _ _ rfl) rfl ((E.fn 39).trans Tryz.func39) rfl hok rfl ?_
  have hokl := hok.locked
  have hnl : h.locked.next = h.next := rfl
  have hll : h.locked.lock = h.next := rfl
  have hil : h.locked.imp = h.imp := rfl
  have hfll : h.locked.fl = h.fl := rfl
  conv => whnf
  refine ⟨by simp [Tryz.f39], ?_⟩
  repeat ((conv=>whnf);first|((with_reducible refine Exists.intro ?_ (Exists.intro ?_ (And.intro (a:=_=some (Blk.cells _ _)) ?_ ?_)));rotate_left 2;· (try dsimp only);(repeat first|with_reducible assumption|with_reducible exact uA (by assumption)|with_reducible exact nA (by assumption)|((with_reducible refine uN (by assumption) ?_ ?_);· omega)|((with_reducible refine nN (by assumption) ?_ ?_);· omega)))|((with_reducible refine Exists.intro ?_ (And.intro ?_ ?_));rotate_left;· first|with_reducible assumption|((conv=>lhs;arg 2;whnf);with_reducible assumption)|exact rfl)|((with_reducible refine And.intro (a:=AH.may _ _=true) ?_ ?_);· (try dsimp only);(repeat first|with_reducible assumption|((with_reducible refine New.mayNew (by assumption) (by assumption) ?_ ?_ ?_)<;>omega)|refine Upd.mayOf (by assumption) ?_|refine New.mayOf (by assumption) ?_|refine Ke.mayOf (by assumption) ?_))|((with_reducible refine And.intro (a:=szOf _ _=_) ?_ ?_);· refine Eq.trans (by assumption) ?_;kernel_rfl)|((with_reducible refine And.intro (a:=List.all _ _=true) ?_ ?_);· kernel_rfl)|((with_reducible refine And.intro (a:=_=_) ?_ ?_);· first|with_reducible assumption|rfl)|((with_reducible refine And.intro (a:=_≤_) ?_ ?_);· first|omega|exact Nat.le_of_ble_eq_true (by kernel_rfl))|((with_reducible refine And.intro (a:=_<_) ?_ ?_);· omega)|((with_reducible refine And.intro (a:=_∧_) ?_ ?_);· constructor<;>first|omega|(simp<;>omega))|(refine brk_true ?_ ?_;· first|rfl|(simp only [q1,q2,q3,q4,ne_eq,q5,q6];omega))|(refine brk_false ?_ ?_;· first|rfl|(simp only [q1,q2,q3,q4,ne_eq,q5,q6];omega))|(intro aa uu;(try dsimp only at uu);have okk:=uu.ok;have nxx:=uu.next;have lkk:=uu.lock;have imm:=uu.imp))
  try conv=>whnf
  refine callB_pure ((E.fn 66).trans Tryz.func66) rfl ?_
  refine ⟨by assumption, _, (f66_p E rfl (by omega) (by assumption) (f105_p E rfl (by omega) hokl.locked (g := g) (c0 := c0) (c1 := c1) (c2 := c2) (c3 := c3) (c4 := c4) (c5 := c5) (c6 := c6) (c7 := c7) h1 (callB_by ((E.fn 67).trans Tryz.func67) rfl (hx _ hokl.locked.locked rfl rfl rfl (fun _ => rfl))))), ?_⟩
  repeat ((conv=>whnf);first|((with_reducible refine Exists.intro ?_ (Exists.intro ?_ (And.intro (a:=_=some (Blk.cells _ _)) ?_ ?_)));rotate_left 2;· (try dsimp only);(repeat first|with_reducible assumption|with_reducible exact uA (by assumption)|with_reducible exact nA (by assumption)|((with_reducible refine uN (by assumption) ?_ ?_);· omega)|((with_reducible refine nN (by assumption) ?_ ?_);· omega)))|((with_reducible refine Exists.intro ?_ (And.intro ?_ ?_));rotate_left;· first|with_reducible assumption|((conv=>lhs;arg 2;whnf);with_reducible assumption)|exact rfl)|((with_reducible refine And.intro (a:=AH.may _ _=true) ?_ ?_);· (try dsimp only);(repeat first|with_reducible assumption|((with_reducible refine New.mayNew (by assumption) (by assumption) ?_ ?_ ?_)<;>omega)|refine Upd.mayOf (by assumption) ?_|refine New.mayOf (by assumption) ?_|refine Ke.mayOf (by assumption) ?_))|((with_reducible refine And.intro (a:=szOf _ _=_) ?_ ?_);· refine Eq.trans (by assumption) ?_;kernel_rfl)|((with_reducible refine And.intro (a:=List.all _ _=true) ?_ ?_);· kernel_rfl)|((with_reducible refine And.intro (a:=_=_) ?_ ?_);· first|with_reducible assumption|rfl)|((with_reducible refine And.intro (a:=_≤_) ?_ ?_);· first|omega|exact Nat.le_of_ble_eq_true (by kernel_rfl))|((with_reducible refine And.intro (a:=_<_) ?_ ?_);· omega)|((with_reducible refine And.intro (a:=_∧_) ?_ ?_);· constructor<;>first|omega|(simp<;>omega))|(refine brk_true ?_ ?_;· first|rfl|(simp only [q1,q2,q3,q4,ne_eq,q5,q6];omega))|(refine brk_false ?_ ?_;· first|rfl|(simp only [q1,q2,q3,q4,ne_eq,q5,q6];omega))|(intro aa uu;(try dsimp only at uu);have okk:=uu.ok;have nxx:=uu.next;have lkk:=uu.lock;have imm:=uu.imp))
  try conv=>whnf
  rfl

theorem functions_no (E : Alike P Tryz.prog base walkI) : ∀ (k : Nat) {kd K d b : Nat} {h : AH}, kd ≤ 1 ∨ k = 0 → HOK h → h.fl = true → h.imp ≤ h.next → K ≤ h.next → h.next + 10 * k + 50 < 65000 → Ch kd K k h b → 8 * k + 6 ≤ d →
    deepF P G ext 2199023255552 base mtI d 39 [sl b 1] h = some (.bool false, none)
  | 0, kd, K, d, b, h, _, hok, hfl, hi, hK, hn, ⟨hb, h1⟩, hd => f39_of E hok (by omega) h1 (fun h' a1 a2 a3 a4 a5 => f67_A E a1 (a2.trans hfl) (by omega) (by omega) (by omega))
  | k + 1, kd, K, d, b, h, hkd, hok, hfl, hi, hK, hn, ⟨m, x, hb, hm, hx, hc⟩, hd => by
    have ih : ∀ h' : AH, HOK h' → h'.fl = true → h'.imp ≤ h'.next → h.next ≤ h'.next → h'.next ≤ h.next + 9 → (∀ j, j < K → h'.get j = h.get j) → ∀ {e : Nat}, d - 8 ≤ e → deepF P G ext 2199023255552 base mtI e 39 [sl x 1] h' = some (.bool false, none) :=
      fun h' a1 a2 a3 a4 a5 a6 e he => functions_no E k (.inl (by omega)) a1 a2 a3 (by omega) (by omega) (hx.mono (Nat.le_refl _) a6) (by omega)
    match kd, hc with
    | 0, ⟨h1, h2⟩ => exact f39_of E hok (by omega) h1 (fun h' a1 a2 a3 a4 a5 => f67_M E a1 (a2.trans hfl) (by omega) (by omega) (by omega) ((a5 m).trans h2) (by omega) (fun h2 b1 b2 b3 b4 b5 b6 => ih h2 b1 b2 b3 (by omega) (by omega) (fun j hj => (b6 j (by omega)).trans (a5 j)) (by omega)))
    | 1, ⟨h1, h2⟩ => exact f39_of E hok (by omega) h1 (fun h' a1 a2 a3 a4 a5 => f67_P E a1 (a2.trans hfl) (by omega) (by omega) (by omega) ((a5 m).trans h2) (by omega) (fun h2 b1 b2 b3 b4 b5 b6 => ih h2 b1 b2 b3 (by omega) (by omega) (fun j hj => (b6 j (by omega)).trans (a5 j)) (by omega)))
    | _ + 2, _ => exact absurd hkd (by omega)

theorem functions_yes (E : Alike P Tryz.prog base walkI) {k kd K d b : Nat} {h : AH} (hok : HOK h) (hfl : h.fl = true) (hi : h.imp ≤ h.next) (hn : h.next + 50 < 65000) (hc : Ch (kd + 2) K (k + 1) h b) (hd : 6 ≤ d) :
    deepF P G ext 2199023255552 base mtI d 39 [sl b 1] h = some (.bool true, none) := by
  obtain ⟨m, x, hb, hm, hx, f, gf, hf, h1, h2, h3⟩ := hc
  exact f39_of E hok (by omega) h1 (fun h' a1 a2 a3 a4 a5 => f67_F E a1 (a2.trans hfl) (by omega) (by omega) (by omega))
end

end
end Go.Proofs.YtiecjjcemnafaaaGreatDoor.V
