/- Whether a chain of arrays has what a function says yes to. Conditions: none. -/
import Derived.Test.YtiecjjcemnafaaaGreatDoorHh
namespace Go.Proofs.YtiecjjcemnafaaaGreatDoor.V
set_option linter.all false
open Go
noncomputable section

section
variable {P : Program} {G : Nat} {ext : FuncId → Option Ext} {base : Orc}

/-- What is the same behind a call: all below K, and from L on; the marks of memory; so many new blocks. -/
def Lim (K L n : Nat) (h h' : AH) : Prop := h.next ≤ h'.next ∧ h'.next ≤ h.next + n ∧ h'.lock = h.lock ∧ h'.imp = h.imp ∧ h'.fl = h.fl ∧ (∀ j, j < h.next → (j < K ∨ L ≤ j) → h'.get j = h.get j)
/-- Memory that the calls go through. -/
def Op1 (L s : Nat) (h : AH) : Prop := HOK h ∧ h.lock < h.next ∧ h.imp ≤ h.next ∧ L ≤ h.next ∧ h.next + s < 64900

/-- A function that says no, to arrays and to the last item; what it looks at and writes stands below L. -/
structure Says (P : Program) (G : Nat) (ext : FuncId → Option Ext) (base : Orc) (K L : Nat) (fv : Value) (St St' : AH → Prop) : Prop where
  one : oneB fv = true
  cl : fv.cells = #[fv]
  kl : K ≤ L
  st : ∀ h h', St h → HOK h' → (∀ j, j < L → h'.get j = h.get j) → h'.lock = h.lock → h'.imp = h.imp → h.next ≤ h'.next → h'.fl = h.fl → St h'
  arr : ∀ (e : Nat) (h : AH) (m : Nat), 1 ≤ e → Op1 L 10 h → St h → ∃ v h', callB P ext (deepF P G ext 2199023255552 base mtI e) h fv [.agg (itM m 1)] = some (v, some h') ∧ HOK h' ∧ (v = .bool false ∧ Lim h.next 0 5 h h')
  last : ∀ (e : Nat) (h : AH), 1 ≤ e → Op1 L 10 h → St h → ∃ v h', callB P ext (deepF P G ext 2199023255552 base mtI e) h fv [.agg (itA 3 ⟨#[55]⟩)] = some (v, some h') ∧ HOK h' ∧ (v = .bool false ∧ Lim K L 5 h h' ∧ St' h')

/-- The last item, through the function that asks. -/
theorem f77_last (E : Alike P Tryz.prog base walkI) {K L d q : Nat} {h : AH} {fv : Value} {gq : Gw} {St St' : AH → Prop} (Z : Says P G ext base K L fv St St') (hd : 2 ≤ d) (hi : Op1 L 20 h) (hs : St h) (hq : h.get q = some (.cells #[fv] gq)) (hqn : q < h.next) :
    ∃ v h', deepF P G ext 2199023255552 base mtI d 77 [.agg (itA 3 ⟨#[55]⟩), pt q] h = some (v, some h') ∧ HOK h' ∧ (v = .bool false ∧ Lim K L 10 h h' ∧ St' h') := by
  obtain ⟨hok, hlk, him, hL, hn⟩ := hi
  have hkl := Z.kl
  have u3:=U3 E;have s3:=S3 E;have a3:=A3 E
  have u9:=U9 E;have s9:=S9 E
  have u24:=U24 E;have s24:=S24 E
  have u28:=U28 E;have s28:=S28 E
  have u29:=U29 E;have s29:=S29 E
  have u30:=U30 E;have s30:=S30 E;have a30:=A30 E
  have u31:=U31 E;have s31:=S31 E
  have u33:=U33 E;have s33:=S33 E;have a33:=A33 E
  have u53:=U53 E;have s53:=S53 E
  have u66:=U66 E;have s66:=S66 E
  have u100:=U100 E;have s100:=S100 E
  have u108:=U108 E;have s108:=S108 E;have a108:=A108 E
  have hl := beq_less hlk
  refine mut_to (by omega) rfl (E.no 77 _ _ rfl) (by first | exact .inl rfl | exact .inr rfl) hl ((E.fn 77).trans Tryz.func77) rfl hok ?_
  conv => whnf
  refine ⟨by simp [Tryz.f77], ?_⟩
  repeat ((conv=>whnf);first|((with_reducible refine Exists.intro ?_ (Exists.intro ?_ (And.intro (a:=_=some (Blk.cells _ _)) ?_ ?_)));rotate_left 2;· (try dsimp only);(repeat first|with_reducible assumption|with_reducible exact uA (by assumption)|with_reducible exact nA (by assumption)|((with_reducible refine uN (by assumption) ?_ ?_);· omega)|((with_reducible refine nN (by assumption) ?_ ?_);· omega)))|((with_reducible refine Exists.intro ?_ (And.intro ?_ ?_));rotate_left;· first|with_reducible assumption|((conv=>lhs;arg 2;whnf);with_reducible assumption)|exact rfl)|((with_reducible refine And.intro (a:=AH.may _ _=true) ?_ ?_);· (try dsimp only);(repeat first|with_reducible assumption|((with_reducible refine New.mayNew (by assumption) (by assumption) ?_ ?_ ?_)<;>omega)|refine Upd.mayOf (by assumption) ?_|refine New.mayOf (by assumption) ?_|refine Ke.mayOf (by assumption) ?_))|((with_reducible refine And.intro (a:=szOf _ _=_) ?_ ?_);· refine Eq.trans (by assumption) ?_;kernel_rfl)|((with_reducible refine And.intro (a:=List.all _ _=true) ?_ ?_);· kernel_rfl)|((with_reducible refine And.intro (a:=_=_) ?_ ?_);· first|with_reducible assumption|rfl)|((with_reducible refine And.intro (a:=_≤_) ?_ ?_);· first|omega|exact Nat.le_of_ble_eq_true (by kernel_rfl))|((with_reducible refine And.intro (a:=_<_) ?_ ?_);· omega)|((with_reducible refine And.intro (a:=_∧_) ?_ ?_);· constructor<;>first|omega|(simp<;>omega))|(refine brk_true ?_ ?_;· first|rfl|(simp only [q1,q2,q3,q4,ne_eq,q5,q6];omega))|(refine brk_false ?_ ?_;· first|rfl|(simp only [q1,q2,q3,q4,ne_eq,q5,q6];omega))|(intro aa uu;(try dsimp only at uu);have okk:=uu.ok;have nxx:=uu.next;have lkk:=uu.lock;have imm:=uu.imp))
  try conv=>whnf
  refine callB_that ?_
  refine ⟨_, Z.last _ _ (by omega) ⟨by assumption, by omega, by omega, by omega, by omega⟩ (Z.st _ _ hs (by assumption) (fun j hj => by repeat first|((with_reducible refine uN (by assumption) ?_ ?_);· omega)|((with_reducible refine nN (by assumption) ?_ ?_);· omega)|exact rfl) (by omega) (by omega) (by omega) (by repeat first|with_reducible assumption|refine Upd.flOf (by assumption) ?_|refine New.flOf (by assumption) ?_|refine Ke.flOf (by assumption) ?_|exact hfl|exact rfl)), ?_⟩
  rintro v h2 hok2 ⟨rfl, ⟨p1, p2, p3, p4, p5, keptb⟩, hs2⟩
  repeat ((conv=>whnf);first|((with_reducible refine Exists.intro ?_ (Exists.intro ?_ (And.intro (a:=_=some (Blk.cells _ _)) ?_ ?_)));rotate_left 2;· (try dsimp only);(repeat first|with_reducible assumption|with_reducible exact uA (by assumption)|with_reducible exact nA (by assumption)|((with_reducible refine uN (by assumption) ?_ ?_);· omega)|((with_reducible refine nN (by assumption) ?_ ?_);· omega)|((with_reducible refine Ke.at (by assumption) ?_ ?_);· omega)|refine Eq.trans (keptb _ (by omega) (by omega)) ?_))|((with_reducible refine Exists.intro ?_ (And.intro ?_ ?_));rotate_left;· first|with_reducible assumption|((conv=>lhs;arg 2;whnf);with_reducible assumption)|exact rfl)|((with_reducible refine And.intro (a:=AH.may _ _=true) ?_ ?_);· (try dsimp only);(repeat first|with_reducible assumption|((with_reducible refine New.mayNew (by assumption) (by assumption) ?_ ?_ ?_)<;>omega)|refine Upd.mayOf (by assumption) ?_|refine New.mayOf (by assumption) ?_|refine Ke.mayOf (by assumption) ?_))|((with_reducible refine And.intro (a:=szOf _ _=_) ?_ ?_);· refine Eq.trans (by assumption) ?_;kernel_rfl)|((with_reducible refine And.intro (a:=List.all _ _=true) ?_ ?_);· kernel_rfl)|((with_reducible refine And.intro (a:=_=_) ?_ ?_);· first|with_reducible assumption|rfl)|((with_reducible refine And.intro (a:=_≤_) ?_ ?_);· first|omega|exact Nat.le_of_ble_eq_true (by kernel_rfl))|((with_reducible refine And.intro (a:=_<_) ?_ ?_);· omega)|((with_reducible refine And.intro (a:=_∧_) ?_ ?_);· constructor<;>first|omega|(simp<;>omega))|(refine brk_true ?_ ?_;· first|rfl|(simp only [q1,q2,q3,q4,ne_eq,q5,q6];omega))|(refine brk_false ?_ ?_;· first|rfl|(simp only [q1,q2,q3,q4,ne_eq,q5,q6];omega))|(intro aa uu;(try dsimp only at uu);have okk:=uu.ok;have nxx:=uu.next;have lkk:=uu.lock;have imm:=uu.imp))
  try conv=>whnf
  refine ⟨⟨by omega, by omega, by omega, by omega, p5.trans (by repeat first|with_reducible assumption|refine Upd.flOf (by assumption) ?_|refine New.flOf (by assumption) ?_|refine Ke.flOf (by assumption) ?_|exact hfl|exact rfl), fun j hj j1 => (keptb j (by omega) j1).trans ((fun j hj => by repeat first|((with_reducible refine uN (by assumption) ?_ ?_);· omega)|((with_reducible refine nN (by assumption) ?_ ?_);· omega)|((with_reducible refine Ke.at (by assumption) ?_ ?_);· omega)|refine Eq.trans (keptb _ (by omega) (by omega)) ?_|exact rfl) j hj)⟩, hs2⟩


theorem callB_ex {orc : Orc} {h : AH} {g : FuncId} {fn : Func} {first captured args : List Value} {R : Value → AH → Prop} (hf : P.funcs[g]? = some fn) (hb : fn.body.isSome = true) (ho : ∃ v h', orc g (first ++ args ++ captured) h = some (v, some h') ∧ R v h') :
    ∃ v h', callB P ext orc h (.func (.func g) ⟨first⟩ ⟨captured⟩) args = some (v, some h') ∧ R v h' := by
  obtain ⟨v, h', h1, h2⟩ := ho
  exact ⟨v, h', callB_by hf hb h1, h2⟩

theorem f78_m (E : Alike P Tryz.prog base walkI) {d q : Nat} {h : AH} {s fv : Value} {gq : Gw} {Q : Value → AH → Prop} (hd : 1 ≤ d) (hok : HOK h) (hlk : h.lock < h.next) (hqc : h.get q = some (.cells #[fv] gq))
    (hq : ∃ v h2, deepF P G ext 2199023255552 base mtI (d - 1) 42 [s, fv] h = some (v, some h2) ∧ HOK h2 ∧ Q v h2) :
    ∃ v h', deepF P G ext 2199023255552 base mtI d 78 [s, pt q] h = some (v, some h') ∧ HOK h' ∧ Q v h' := by
  have u3:=U3 E;have s3:=S3 E
  have u24:=U24 E;have s24:=S24 E
  have u28:=U28 E;have s28:=S28 E
  have u29:=U29 E;have s29:=S29 E
  have u30:=U30 E;have s30:=S30 E
  have u31:=U31 E;have s31:=S31 E
  have u33:=U33 E;have s33:=S33 E
  have u108:=U108 E;have s108:=S108 E;have a108:=A108 E
  have hl := beq_less hlk
  refine mut_to (by omega) rfl (E.no 78 _ _ rfl) (by first | exact .inl rfl | exact .inr rfl) hl ((E.fn 78).trans Tryz.func78) rfl hok ?_
  conv => whnf
  refine ⟨by simp [Tryz.f78], ?_⟩
  repeat ((conv=>whnf);first|((with_reducible refine Exists.intro ?_ (Exists.intro ?_ (And.intro (a:=_=some (Blk.cells _ _)) ?_ ?_)));rotate_left 2;· (try dsimp only);(repeat first|with_reducible assumption|with_reducible exact uA (by assumption)|with_reducible exact nA (by assumption)|((with_reducible refine uN (by assumption) ?_ ?_);· omega)|((with_reducible refine nN (by assumption) ?_ ?_);· omega)))|((with_reducible refine Exists.intro ?_ (And.intro ?_ ?_));rotate_left;· first|with_reducible assumption|((conv=>lhs;arg 2;whnf);with_reducible assumption)|exact rfl)|((with_reducible refine And.intro (a:=AH.may _ _=true) ?_ ?_);· (try dsimp only);(repeat first|with_reducible assumption|((with_reducible refine New.mayNew (by assumption) (by assumption) ?_ ?_ ?_)<;>omega)|refine Upd.mayOf (by assumption) ?_|refine New.mayOf (by assumption) ?_|refine Ke.mayOf (by assumption) ?_))|((with_reducible refine And.intro (a:=szOf _ _=_) ?_ ?_);· refine Eq.trans (by assumption) ?_;kernel_rfl)|((with_reducible refine And.intro (a:=List.all _ _=true) ?_ ?_);· kernel_rfl)|((with_reducible refine And.intro (a:=_=_) ?_ ?_);· first|with_reducible assumption|rfl)|((with_reducible refine And.intro (a:=_≤_) ?_ ?_);· first|omega|exact Nat.le_of_ble_eq_true (by kernel_rfl))|((with_reducible refine And.intro (a:=_<_) ?_ ?_);· omega)|((with_reducible refine And.intro (a:=_∧_) ?_ ?_);· constructor<;>first|omega|(simp<;>omega))|(refine brk_true ?_ ?_;· first|rfl|(simp only [q1,q2,q3,q4,ne_eq,q5,q6];omega))|(refine brk_false ?_ ?_;· first|rfl|(simp only [q1,q2,q3,q4,ne_eq,q5,q6];omega))|(intro aa uu;(try dsimp only at uu);have okk:=uu.ok;have nxx:=uu.next;have lkk:=uu.lock;have imm:=uu.imp))
  try conv=>whnf
  refine callB_heap ((E.fn 42).trans Tryz.func42) rfl ?_
  refine ⟨_, (hq), ?_⟩
  rintro v h2 hok2 hQ
  repeat ((conv=>whnf);first|((with_reducible refine Exists.intro ?_ (Exists.intro ?_ (And.intro (a:=_=some (Blk.cells _ _)) ?_ ?_)));rotate_left 2;· (try dsimp only);(repeat first|with_reducible assumption|with_reducible exact uA (by assumption)|with_reducible exact nA (by assumption)|((with_reducible refine uN (by assumption) ?_ ?_);· omega)|((with_reducible refine nN (by assumption) ?_ ?_);· omega)))|((with_reducible refine Exists.intro ?_ (And.intro ?_ ?_));rotate_left;· first|with_reducible assumption|((conv=>lhs;arg 2;whnf);with_reducible assumption)|exact rfl)|((with_reducible refine And.intro (a:=AH.may _ _=true) ?_ ?_);· (try dsimp only);(repeat first|with_reducible assumption|((with_reducible refine New.mayNew (by assumption) (by assumption) ?_ ?_ ?_)<;>omega)|refine Upd.mayOf (by assumption) ?_|refine New.mayOf (by assumption) ?_|refine Ke.mayOf (by assumption) ?_))|((with_reducible refine And.intro (a:=szOf _ _=_) ?_ ?_);· refine Eq.trans (by assumption) ?_;kernel_rfl)|((with_reducible refine And.intro (a:=List.all _ _=true) ?_ ?_);· kernel_rfl)|((with_reducible refine And.intro (a:=_=_) ?_ ?_);· first|with_reducible assumption|rfl)|((with_reducible refine And.intro (a:=_≤_) ?_ ?_);· first|omega|exact Nat.le_of_ble_eq_true (by kernel_rfl))|((with_reducible refine And.intro (a:=_<_) ?_ ?_);· omega)|((with_reducible refine And.intro (a:=_∧_) ?_ ?_);· constructor<;>first|omega|(simp<;>omega))|(refine brk_true ?_ ?_;· first|rfl|(simp only [q1,q2,q3,q4,ne_eq,q5,q6];omega))|(refine brk_false ?_ ?_;· first|rfl|(simp only [q1,q2,q3,q4,ne_eq,q5,q6];omega))|(intro aa uu;(try dsimp only at uu);have okk:=uu.ok;have nxx:=uu.next;have lkk:=uu.lock;have imm:=uu.imp))
  try conv=>whnf
  exact hQ

/-- An array, through the function that asks. -/
theorem f77_arr (E : Alike P Tryz.prog base walkI) {K L d q m x n : Nat} {h : AH} {fv : Value} {gq : Gw} {St St' : AH → Prop} (Z : Says P G ext base K L fv St St') (hd : 5 ≤ d) (hi : Op1 L (n + 40) h) (hs : St h) (hq : h.get q = some (.cells #[fv] gq)) (hqn : q < h.next) (hm : m < K)
    (h1 : h.get m = some (.cells #[sl x 1] .no))
    (ha : ∀ h' : AH, Op1 L n h' → St h' → (∀ j, j < K → h'.get j = h.get j) → ∃ v h2, deepF P G ext 2199023255552 base mtI (d - 4) 42 [sl x 1, fv] h' = some (v, some h2) ∧ HOK h2 ∧ (v = .bool false ∧ Lim K L n h' h2 ∧ St' h2)) :
    ∃ v h', deepF P G ext 2199023255552 base mtI d 77 [.agg (itM m 1), pt q] h = some (v, some h') ∧ HOK h' ∧ (v = .bool false ∧ Lim K L (n + 20) h h' ∧ St' h') := by
  obtain ⟨hok, hlk, him, hL, hn⟩ := hi
  have hkl := Z.kl
  have u3:=U3 E;have s3:=S3 E;have a3:=A3 E
  have u9:=U9 E;have s9:=S9 E
  have u24:=U24 E;have s24:=S24 E
  have u28:=U28 E;have s28:=S28 E
  have u29:=U29 E;have s29:=S29 E
  have u30:=U30 E;have s30:=S30 E;have a30:=A30 E
  have u31:=U31 E;have s31:=S31 E
  have u33:=U33 E;have s33:=S33 E;have a33:=A33 E
  have u53:=U53 E;have s53:=S53 E
  have u66:=U66 E;have s66:=S66 E
  have u100:=U100 E;have s100:=S100 E
  have u108:=U108 E;have s108:=S108 E;have a108:=A108 E
  have hl := beq_less hlk
  refine mut_to (by omega) rfl (E.no 77 _ _ rfl) (by first | exact .inl rfl | exact .inr rfl) hl ((E.fn 77).trans Tryz.func77) rfl hok ?_
  conv => whnf
  refine ⟨by simp [Tryz.f77], ?_⟩
  repeat ((conv=>whnf);first|((with_reducible refine Exists.intro ?_ (Exists.intro ?_ (And.intro (a:=_=some (Blk.cells _ _)) ?_ ?_)));rotate_left 2;· (try dsimp only);(repeat first|with_reducible assumption|with_reducible exact uA (by assumption)|with_reducible exact nA (by assumption)|((with_reducible refine uN (by assumption) ?_ ?_);· omega)|((with_reducible refine nN (by assumption) ?_ ?_);· omega)))|((with_reducible refine Exists.intro ?_ (And.intro ?_ ?_));rotate_left;· first|with_reducible assumption|((conv=>lhs;arg 2;whnf);with_reducible assumption)|exact rfl)|((with_reducible refine And.intro (a:=AH.may _ _=true) ?_ ?_);· (try dsimp only);(repeat first|with_reducible assumption|((with_reducible refine New.mayNew (by assumption) (by assumption) ?_ ?_ ?_)<;>omega)|refine Upd.mayOf (by assumption) ?_|refine New.mayOf (by assumption) ?_|refine Ke.mayOf (by assumption) ?_))|((with_reducible refine And.intro (a:=szOf _ _=_) ?_ ?_);· refine Eq.trans (by assumption) ?_;kernel_rfl)|((with_reducible refine And.intro (a:=List.all _ _=true) ?_ ?_);· kernel_rfl)|((with_reducible refine And.intro (a:=_=_) ?_ ?_);· first|with_reducible assumption|rfl)|((with_reducible refine And.intro (a:=_≤_) ?_ ?_);· first|omega|exact Nat.le_of_ble_eq_true (by kernel_rfl))|((with_reducible refine And.intro (a:=_<_) ?_ ?_);· omega)|((with_reducible refine And.intro (a:=_∧_) ?_ ?_);· constructor<;>first|omega|(simp<;>omega))|(refine brk_true ?_ ?_;· first|rfl|(simp only [q1,q2,q3,q4,ne_eq,q5,q6];omega))|(refine brk_false ?_ ?_;· first|rfl|(simp only [q1,q2,q3,q4,ne_eq,q5,q6];omega))|(intro aa uu;(try dsimp only at uu);have okk:=uu.ok;have nxx:=uu.next;have lkk:=uu.lock;have imm:=uu.imp))
  try conv=>whnf
  refine callB_that ?_
  refine ⟨_, Z.arr _ _ m (by omega) ⟨by assumption, by omega, by omega, by omega, by omega⟩ (Z.st _ _ hs (by assumption) (fun j hj => by repeat first|((with_reducible refine uN (by assumption) ?_ ?_);· omega)|((with_reducible refine nN (by assumption) ?_ ?_);· omega)|exact rfl) (by omega) (by omega) (by omega) (by repeat first|with_reducible assumption|refine Upd.flOf (by assumption) ?_|refine New.flOf (by assumption) ?_|refine Ke.flOf (by assumption) ?_|exact hfl|exact rfl)), ?_⟩
  rintro v h2 hok2 ⟨rfl, ⟨p1, p2, p3, p4, p5, keptb⟩⟩
  have w1 : h2.get q = some (.cells #[fv] gq) := by (repeat first|with_reducible assumption|with_reducible exact uA (by assumption)|with_reducible exact nA (by assumption)|((with_reducible refine uN (by assumption) ?_ ?_);· omega)|((with_reducible refine nN (by assumption) ?_ ?_);· omega)|((with_reducible refine Ke.at (by assumption) ?_ ?_);· omega)|refine Eq.trans (keptb _ (by omega) (by omega)) ?_)
  have w2 : h2.get m = some (.cells #[sl x 1] .no) := by (repeat first|with_reducible assumption|with_reducible exact uA (by assumption)|with_reducible exact nA (by assumption)|((with_reducible refine uN (by assumption) ?_ ?_);· omega)|((with_reducible refine nN (by assumption) ?_ ?_);· omega)|((with_reducible refine Ke.at (by assumption) ?_ ?_);· omega)|refine Eq.trans (keptb _ (by omega) (by omega)) ?_)
  have w3 : St h2 := Z.st _ _ hs hok2 (fun j hj => (keptb j (by omega) (by omega)).trans ((fun j hj => by repeat first|((with_reducible refine uN (by assumption) ?_ ?_);· omega)|((with_reducible refine nN (by assumption) ?_ ?_);· omega)|((with_reducible refine Ke.at (by assumption) ?_ ?_);· omega)|refine Eq.trans (keptb _ (by omega) (by omega)) ?_|exact rfl) j hj)) (by omega) (by omega) (by omega) (p5.trans (by repeat first|with_reducible assumption|refine Upd.flOf (by assumption) ?_|refine New.flOf (by assumption) ?_|refine Ke.flOf (by assumption) ?_|exact hfl|exact rfl))
  have w4 : ∀ j, j < K → h2.get j = h.get j := fun j hj => (keptb j (by omega) (by omega)).trans ((fun j hj => by repeat first|((with_reducible refine uN (by assumption) ?_ ?_);· omega)|((with_reducible refine nN (by assumption) ?_ ?_);· omega)|((with_reducible refine Ke.at (by assumption) ?_ ?_);· omega)|refine Eq.trans (keptb _ (by omega) (by omega)) ?_|exact rfl) j hj)
  repeat ((conv=>whnf);first|((with_reducible refine Exists.intro ?_ (Exists.intro ?_ (And.intro (a:=_=some (Blk.cells _ _)) ?_ ?_)));rotate_left 2;· (try dsimp only);(repeat first|with_reducible assumption|with_reducible exact uA (by assumption)|with_reducible exact nA (by assumption)|((with_reducible refine uN (by assumption) ?_ ?_);· omega)|((with_reducible refine nN (by assumption) ?_ ?_);· omega)|((with_reducible refine Ke.at (by assumption) ?_ ?_);· omega)|refine Eq.trans (keptb _ (by omega) (by omega)) ?_))|((with_reducible refine Exists.intro ?_ (And.intro ?_ ?_));rotate_left;· first|with_reducible assumption|((conv=>lhs;arg 2;whnf);with_reducible assumption)|exact rfl)|((with_reducible refine And.intro (a:=AH.may _ _=true) ?_ ?_);· (try dsimp only);(repeat first|with_reducible assumption|((with_reducible refine New.mayNew (by assumption) (by assumption) ?_ ?_ ?_)<;>omega)|refine Upd.mayOf (by assumption) ?_|refine New.mayOf (by assumption) ?_|refine Ke.mayOf (by assumption) ?_))|((with_reducible refine And.intro (a:=szOf _ _=_) ?_ ?_);· refine Eq.trans (by assumption) ?_;kernel_rfl)|((with_reducible refine And.intro (a:=List.all _ _=true) ?_ ?_);· kernel_rfl)|((with_reducible refine And.intro (a:=_=_) ?_ ?_);· first|with_reducible assumption|rfl)|((with_reducible refine And.intro (a:=_≤_) ?_ ?_);· first|omega|exact Nat.le_of_ble_eq_true (by kernel_rfl))|((with_reducible refine And.intro (a:=_<_) ?_ ?_);· omega)|((with_reducible refine And.intro (a:=_∧_) ?_ ?_);· constructor<;>first|omega|(simp<;>omega))|(refine brk_true ?_ ?_;· first|rfl|(simp only [q1,q2,q3,q4,ne_eq,q5,q6];omega))|(refine brk_false ?_ ?_;· first|rfl|(simp only [q1,q2,q3,q4,ne_eq,q5,q6];omega))|(intro aa uu;(try dsimp only at uu);have okk:=uu.ok;have nxx:=uu.next;have lkk:=uu.lock;have imm:=uu.imp))
  try conv=>whnf
  refine callB_heap ((E.fn 68).trans Tryz.func68) rfl ?_
  refine ⟨_, (f68_m E rfl (by omega) (by assumption) (by omega) (f106_m E rfl (by omega) (by assumption) (by omega) w2 (callB_ex ((E.fn 78).trans Tryz.func78) rfl (f78_m E (by omega) (by assumption) (by omega) w1 (ha h2 ⟨by assumption, by omega, by omega, by omega, by omega⟩ w3 w4))))), ?_⟩
  rintro v h3 hok3 ⟨rfl, ⟨r1, r2, r3, r4, r5, r6⟩, hs3⟩
  repeat ((conv=>whnf);first|((with_reducible refine Exists.intro ?_ (Exists.intro ?_ (And.intro (a:=_=some (Blk.cells _ _)) ?_ ?_)));rotate_left 2;· (try dsimp only);(repeat first|with_reducible assumption|with_reducible exact uA (by assumption)|with_reducible exact nA (by assumption)|((with_reducible refine uN (by assumption) ?_ ?_);· omega)|((with_reducible refine nN (by assumption) ?_ ?_);· omega)|((with_reducible refine Ke.at (by assumption) ?_ ?_);· omega)|refine Eq.trans (keptb _ (by omega) (by omega)) ?_))|((with_reducible refine Exists.intro ?_ (And.intro ?_ ?_));rotate_left;· first|with_reducible assumption|((conv=>lhs;arg 2;whnf);with_reducible assumption)|exact rfl)|((with_reducible refine And.intro (a:=AH.may _ _=true) ?_ ?_);· (try dsimp only);(repeat first|with_reducible assumption|((with_reducible refine New.mayNew (by assumption) (by assumption) ?_ ?_ ?_)<;>omega)|refine Upd.mayOf (by assumption) ?_|refine New.mayOf (by assumption) ?_|refine Ke.mayOf (by assumption) ?_))|((with_reducible refine And.intro (a:=szOf _ _=_) ?_ ?_);· refine Eq.trans (by assumption) ?_;kernel_rfl)|((with_reducible refine And.intro (a:=List.all _ _=true) ?_ ?_);· kernel_rfl)|((with_reducible refine And.intro (a:=_=_) ?_ ?_);· first|with_reducible assumption|rfl)|((with_reducible refine And.intro (a:=_≤_) ?_ ?_);· first|omega|exact Nat.le_of_ble_eq_true (by kernel_rfl))|((with_reducible refine And.intro (a:=_<_) ?_ ?_);· omega)|((with_reducible refine And.intro (a:=_∧_) ?_ ?_);· constructor<;>first|omega|(simp<;>omega))|(refine brk_true ?_ ?_;· first|rfl|(simp only [q1,q2,q3,q4,ne_eq,q5,q6];omega))|(refine brk_false ?_ ?_;· first|rfl|(simp only [q1,q2,q3,q4,ne_eq,q5,q6];omega))|(intro aa uu;(try dsimp only at uu);have okk:=uu.ok;have nxx:=uu.next;have lkk:=uu.lock;have imm:=uu.imp))
  try conv=>whnf
  refine ⟨⟨by omega, by omega, by omega, by omega, r5.trans (p5.trans (by repeat first|with_reducible assumption|refine Upd.flOf (by assumption) ?_|refine New.flOf (by assumption) ?_|refine Ke.flOf (by assumption) ?_|exact hfl|exact rfl)), fun j hj j1 => (r6 j (by omega) j1).trans ((keptb j (by omega) (by omega)).trans ((fun j hj => by repeat first|((with_reducible refine uN (by assumption) ?_ ?_);· omega)|((with_reducible refine nN (by assumption) ?_ ?_);· omega)|((with_reducible refine Ke.at (by assumption) ?_ ?_);· omega)|refine Eq.trans (keptb _ (by omega) (by omega)) ?_|exact rfl) j hj))⟩, hs3⟩

theorem has_ok (E : Alike P Tryz.prog base walkI) {K L : Nat} {fv : Value} {St St' : AH → Prop} (Z : Says P G ext base K L fv St St') : ∀ (k : Nat) {d b : Nat} {h : AH}, Op1 L (50 * (k + 1)) h → St h → Ch 0 K k h b → 7 * k + 6 ≤ d →
    ∃ v h', deepF P G ext 2199023255552 base mtI d 42 [sl b 1, fv] h = some (v, some h') ∧ HOK h' ∧ (v = .bool false ∧ Lim K L (50 * (k + 1)) h h' ∧ St' h')
  | 0, d, b, h, ⟨hok, hlk, him, hL, hn⟩, hs, ⟨hb, h1⟩, hd => by
    have hkl := Z.kl
    have hone := Z.one
    have u3:=U3 E;have s3:=S3 E
    have u24:=U24 E;have s24:=S24 E
    have u28:=U28 E;have s28:=S28 E
    have u29:=U29 E;have s29:=S29 E
    have u30:=U30 E;have s30:=S30 E
    have u31:=U31 E;have s31:=S31 E
    have u33:=U33 E;have s33:=S33 E
    have u108:=U108 E;have s108:=S108 E
    have hl := beq_less hlk
    refine mut_to (by omega) rfl (E.no 42 _ _ rfl) (by first | exact .inl rfl | exact .inr rfl) hl ((E.fn 42).trans Tryz.func42) rfl hok ?_
    conv => whnf
    refine ⟨by simp [Tryz.f42], ?_⟩
    repeat ((conv=>whnf);first|((with_reducible refine Exists.intro ?_ (Exists.intro ?_ (And.intro (a:=_=some (Blk.cells _ _)) ?_ ?_)));rotate_left 2;· (try dsimp only);(repeat first|with_reducible assumption|with_reducible exact uA (by assumption)|with_reducible exact nA (by assumption)|((with_reducible refine uN (by assumption) ?_ ?_);· omega)|((with_reducible refine nN (by assumption) ?_ ?_);· omega)))|((with_reducible refine Exists.intro ?_ (And.intro ?_ ?_));rotate_left;· first|with_reducible assumption|((conv=>lhs;arg 2;whnf);with_reducible assumption)|exact rfl)|((with_reducible refine And.intro (a:=AH.may _ _=true) ?_ ?_);· (try dsimp only);(repeat first|with_reducible assumption|((with_reducible refine New.mayNew (by assumption) (by assumption) ?_ ?_ ?_)<;>omega)|refine Upd.mayOf (by assumption) ?_|refine New.mayOf (by assumption) ?_|refine Ke.mayOf (by assumption) ?_))|((with_reducible refine And.intro (a:=szOf _ _=_) ?_ ?_);· refine Eq.trans (by assumption) ?_;kernel_rfl)|((with_reducible refine And.intro (a:=List.all _ _=true) ?_ ?_);· kernel_rfl)|((with_reducible refine And.intro (a:=_=_) ?_ ?_);· first|with_reducible assumption|rfl)|((with_reducible refine And.intro (a:=_≤_) ?_ ?_);· first|omega|exact Nat.le_of_ble_eq_true (by kernel_rfl))|((with_reducible refine And.intro (a:=_<_) ?_ ?_);· omega)|((with_reducible refine And.intro (a:=_∧_) ?_ ?_);· constructor<;>first|omega|(simp<;>omega))|(refine brk_true ?_ ?_;· first|rfl|(simp only [q1,q2,q3,q4,ne_eq,q5,q6];omega))|(refine brk_false ?_ ?_;· first|rfl|(simp only [q1,q2,q3,q4,ne_eq,q5,q6];omega))|(intro aa uu;(try dsimp only at uu);have okk:=uu.ok;have nxx:=uu.next;have lkk:=uu.lock;have imm:=uu.imp))
    try conv=>whnf
    have w1 : aa.get b = some (.cells (itA 3 ⟨#[55]⟩) .no) := by (repeat first|with_reducible assumption|with_reducible exact uA (by assumption)|with_reducible exact nA (by assumption)|((with_reducible refine uN (by assumption) ?_ ?_);· omega)|((with_reducible refine nN (by assumption) ?_ ?_);· omega))
    have w2 : aa.get h.next = some (.cells #[fv] (tyOf P 108)) := (New.at uu).trans (by rw [Z.cl])
    have w3 : St aa := Z.st _ _ hs okk (fun j hj => by repeat first|((with_reducible refine uN (by assumption) ?_ ?_);· omega)|((with_reducible refine nN (by assumption) ?_ ?_);· omega)|exact rfl) (by omega) (by omega) (by omega) (by repeat first|with_reducible assumption|refine Upd.flOf (by assumption) ?_|refine New.flOf (by assumption) ?_|refine Ke.flOf (by assumption) ?_|exact hfl|exact rfl)
    refine callB_heap ((E.fn 66).trans Tryz.func66) rfl ?_
    refine ⟨_, (f66_m E rfl (by omega) (by assumption) (by omega) (f105_m E rfl (by omega) (by assumption) (by omega) w1 (callB_ex ((E.fn 77).trans Tryz.func77) rfl (f77_last E Z (by omega) ⟨by assumption, by omega, by omega, by omega, by omega⟩ w3 w2 (by omega))))), ?_⟩
    rintro v h3 hok3 ⟨rfl, ⟨r1, r2, r3, r4, r5, r6⟩, hs3⟩
    repeat ((conv=>whnf);first|((with_reducible refine Exists.intro ?_ (Exists.intro ?_ (And.intro (a:=_=some (Blk.cells _ _)) ?_ ?_)));rotate_left 2;· (try dsimp only);(repeat first|with_reducible assumption|with_reducible exact uA (by assumption)|with_reducible exact nA (by assumption)|((with_reducible refine uN (by assumption) ?_ ?_);· omega)|((with_reducible refine nN (by assumption) ?_ ?_);· omega)))|((with_reducible refine Exists.intro ?_ (And.intro ?_ ?_));rotate_left;· first|with_reducible assumption|((conv=>lhs;arg 2;whnf);with_reducible assumption)|exact rfl)|((with_reducible refine And.intro (a:=AH.may _ _=true) ?_ ?_);· (try dsimp only);(repeat first|with_reducible assumption|((with_reducible refine New.mayNew (by assumption) (by assumption) ?_ ?_ ?_)<;>omega)|refine Upd.mayOf (by assumption) ?_|refine New.mayOf (by assumption) ?_|refine Ke.mayOf (by assumption) ?_))|((with_reducible refine And.intro (a:=szOf _ _=_) ?_ ?_);· refine Eq.trans (by assumption) ?_;kernel_rfl)|((with_reducible refine And.intro (a:=List.all _ _=true) ?_ ?_);· kernel_rfl)|((with_reducible refine And.intro (a:=_=_) ?_ ?_);· first|with_reducible assumption|rfl)|((with_reducible refine And.intro (a:=_≤_) ?_ ?_);· first|omega|exact Nat.le_of_ble_eq_true (by kernel_rfl))|((with_reducible refine And.intro (a:=_<_) ?_ ?_);· omega)|((with_reducible refine And.intro (a:=_∧_) ?_ ?_);· constructor<;>first|omega|(simp<;>omega))|(refine brk_true ?_ ?_;· first|rfl|(simp only [q1,q2,q3,q4,ne_eq,q5,q6];omega))|(refine brk_false ?_ ?_;· first|rfl|(simp only [q1,q2,q3,q4,ne_eq,q5,q6];omega))|(intro aa uu;(try dsimp only at uu);have okk:=uu.ok;have nxx:=uu.next;have lkk:=uu.lock;have imm:=uu.imp))
    try conv=>whnf
    refine ⟨⟨by omega, by omega, by omega, by omega, r5.trans (by repeat first|with_reducible assumption|refine Upd.flOf (by assumption) ?_|refine New.flOf (by assumption) ?_|refine Ke.flOf (by assumption) ?_|exact hfl|exact rfl), fun j hj j1 => (r6 j (by omega) j1).trans ((fun j hj => by repeat first|((with_reducible refine uN (by assumption) ?_ ?_);· omega)|((with_reducible refine nN (by assumption) ?_ ?_);· omega)|exact rfl) j hj)⟩, hs3⟩
  | k + 1, d, b, h, ⟨hok, hlk, him, hL, hn⟩, hs, ⟨m, x, hb, hm, hx, h1, h2⟩, hd => by
    have hkl := Z.kl
    have hone := Z.one
    have u3:=U3 E;have s3:=S3 E
    have u24:=U24 E;have s24:=S24 E
    have u28:=U28 E;have s28:=S28 E
    have u29:=U29 E;have s29:=S29 E
    have u30:=U30 E;have s30:=S30 E
    have u31:=U31 E;have s31:=S31 E
    have u33:=U33 E;have s33:=S33 E
    have u108:=U108 E;have s108:=S108 E
    have hl := beq_less hlk
    refine mut_to (by omega) rfl (E.no 42 _ _ rfl) (by first | exact .inl rfl | exact .inr rfl) hl ((E.fn 42).trans Tryz.func42) rfl hok ?_
    conv => whnf
    refine ⟨by simp [Tryz.f42], ?_⟩
    repeat ((conv=>whnf);first|((with_reducible refine Exists.intro ?_ (Exists.intro ?_ (And.intro (a:=_=some (Blk.cells _ _)) ?_ ?_)));rotate_left 2;· (try dsimp only);(repeat first|with_reducible assumption|with_reducible exact uA (by assumption)|with_reducible exact nA (by assumption)|((with_reducible refine uN (by assumption) ?_ ?_);· omega)|((with_reducible refine nN (by assumption) ?_ ?_);· omega)))|((with_reducible refine Exists.intro ?_ (And.intro ?_ ?_));rotate_left;· first|with_reducible assumption|((conv=>lhs;arg 2;whnf);with_reducible assumption)|exact rfl)|((with_reducible refine And.intro (a:=AH.may _ _=true) ?_ ?_);· (try dsimp only);(repeat first|with_reducible assumption|((with_reducible refine New.mayNew (by assumption) (by assumption) ?_ ?_ ?_)<;>omega)|refine Upd.mayOf (by assumption) ?_|refine New.mayOf (by assumption) ?_|refine Ke.mayOf (by assumption) ?_))|((with_reducible refine And.intro (a:=szOf _ _=_) ?_ ?_);· refine Eq.trans (by assumption) ?_;kernel_rfl)|((with_reducible refine And.intro (a:=List.all _ _=true) ?_ ?_);· kernel_rfl)|((with_reducible refine And.intro (a:=_=_) ?_ ?_);· first|with_reducible assumption|rfl)|((with_reducible refine And.intro (a:=_≤_) ?_ ?_);· first|omega|exact Nat.le_of_ble_eq_true (by kernel_rfl))|((with_reducible refine And.intro (a:=_<_) ?_ ?_);· omega)|((with_reducible refine And.intro (a:=_∧_) ?_ ?_);· constructor<;>first|omega|(simp<;>omega))|(refine brk_true ?_ ?_;· first|rfl|(simp only [q1,q2,q3,q4,ne_eq,q5,q6];omega))|(refine brk_false ?_ ?_;· first|rfl|(simp only [q1,q2,q3,q4,ne_eq,q5,q6];omega))|(intro aa uu;(try dsimp only at uu);have okk:=uu.ok;have nxx:=uu.next;have lkk:=uu.lock;have imm:=uu.imp))
    try conv=>whnf
    have w1 : aa.get b = some (.cells (itM m 1) .no) := by (repeat first|with_reducible assumption|with_reducible exact uA (by assumption)|with_reducible exact nA (by assumption)|((with_reducible refine uN (by assumption) ?_ ?_);· omega)|((with_reducible refine nN (by assumption) ?_ ?_);· omega))
    have w4 : aa.get m = some (.cells #[sl x 1] .no) := by (repeat first|with_reducible assumption|with_reducible exact uA (by assumption)|with_reducible exact nA (by assumption)|((with_reducible refine uN (by assumption) ?_ ?_);· omega)|((with_reducible refine nN (by assumption) ?_ ?_);· omega))
    have w2 : aa.get h.next = some (.cells #[fv] (tyOf P 108)) := (New.at uu).trans (by rw [Z.cl])
    have w3 : St aa := Z.st _ _ hs okk (fun j hj => by repeat first|((with_reducible refine uN (by assumption) ?_ ?_);· omega)|((with_reducible refine nN (by assumption) ?_ ?_);· omega)|exact rfl) (by omega) (by omega) (by omega) (by repeat first|with_reducible assumption|refine Upd.flOf (by assumption) ?_|refine New.flOf (by assumption) ?_|refine Ke.flOf (by assumption) ?_|exact hfl|exact rfl)
    have w5 : ∀ j, j < K → aa.get j = h.get j := (fun j hj => by repeat first|((with_reducible refine uN (by assumption) ?_ ?_);· omega)|((with_reducible refine nN (by assumption) ?_ ?_);· omega)|exact rfl)
    refine callB_heap ((E.fn 66).trans Tryz.func66) rfl ?_
    refine ⟨_, (f66_m E rfl (by omega) (by assumption) (by omega) (f105_m E rfl (by omega) (by assumption) (by omega) w1 (callB_ex ((E.fn 77).trans Tryz.func77) rfl (f77_arr (n := 50 * (k + 1)) E Z (by omega) ⟨by assumption, by omega, by omega, by omega, by omega⟩ w3 w2 (by omega) hm w4 (fun h' o1 o2 o3 => has_ok E Z k o1 o2 (hx.mono (Nat.le_refl _) (fun j hj => (o3 j hj).trans (w5 j hj))) (by omega)))))), ?_⟩
    rintro v h3 hok3 ⟨rfl, ⟨r1, r2, r3, r4, r5, r6⟩, hs3⟩
    repeat ((conv=>whnf);first|((with_reducible refine Exists.intro ?_ (Exists.intro ?_ (And.intro (a:=_=some (Blk.cells _ _)) ?_ ?_)));rotate_left 2;· (try dsimp only);(repeat first|with_reducible assumption|with_reducible exact uA (by assumption)|with_reducible exact nA (by assumption)|((with_reducible refine uN (by assumption) ?_ ?_);· omega)|((with_reducible refine nN (by assumption) ?_ ?_);· omega)))|((with_reducible refine Exists.intro ?_ (And.intro ?_ ?_));rotate_left;· first|with_reducible assumption|((conv=>lhs;arg 2;whnf);with_reducible assumption)|exact rfl)|((with_reducible refine And.intro (a:=AH.may _ _=true) ?_ ?_);· (try dsimp only);(repeat first|with_reducible assumption|((with_reducible refine New.mayNew (by assumption) (by assumption) ?_ ?_ ?_)<;>omega)|refine Upd.mayOf (by assumption) ?_|refine New.mayOf (by assumption) ?_|refine Ke.mayOf (by assumption) ?_))|((with_reducible refine And.intro (a:=szOf _ _=_) ?_ ?_);· refine Eq.trans (by assumption) ?_;kernel_rfl)|((with_reducible refine And.intro (a:=List.all _ _=true) ?_ ?_);· kernel_rfl)|((with_reducible refine And.intro (a:=_=_) ?_ ?_);· first|with_reducible assumption|rfl)|((with_reducible refine And.intro (a:=_≤_) ?_ ?_);· first|omega|exact Nat.le_of_ble_eq_true (by kernel_rfl))|((with_reducible refine And.intro (a:=_<_) ?_ ?_);· omega)|((with_reducible refine And.intro (a:=_∧_) ?_ ?_);· constructor<;>first|omega|(simp<;>omega))|(refine brk_true ?_ ?_;· first|rfl|(simp only [q1,q2,q3,q4,ne_eq,q5,q6];omega))|(refine brk_false ?_ ?_;· first|rfl|(simp only [q1,q2,q3,q4,ne_eq,q5,q6];omega))|(intro aa uu;(try dsimp only at uu);have okk:=uu.ok;have nxx:=uu.next;have lkk:=uu.lock;have imm:=uu.imp))
    try conv=>whnf
    refine ⟨⟨by omega, by omega, by omega, by omega, r5.trans (by repeat first|with_reducible assumption|refine Upd.flOf (by assumption) ?_|refine New.flOf (by assumption) ?_|refine Ke.flOf (by assumption) ?_|exact hfl|exact rfl), fun j hj j1 => (r6 j (by omega) j1).trans ((fun j hj => by repeat first|((with_reducible refine uN (by assumption) ?_ ?_);· omega)|((with_reducible refine nN (by assumption) ?_ ?_);· omega)|exact rfl) j hj)⟩, hs3⟩
end

end
end Go.Proofs.YtiecjjcemnafaaaGreatDoor.V
