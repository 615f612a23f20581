/- What Atomize asks of items, and what it collects. Conditions: none. -/
import Derived.Test.YtiecjjcemnafaaaGreatDoorHi
namespace Go.Proofs.YtiecjjcemnafaaaGreatDoor.V
set_option linter.all false
open Go
noncomputable section

section
variable {P : Program} {G : Nat} {ext : FuncId → Option Ext} {base : Orc}

/-- Whether an item is a map or a function. -/
theorem f43_m (E : Alike P Tryz.prog base walkI) {d : Nat} {h : AH} {kk : Int} {r : Bool} {c1 c2 c3 c4 c5 c6 c7 : Value} (hk : (kk = 0 ∧ r = false) ∨ (kk = 2 ∧ r = true) ∨ (kk = 3 ∧ r = false) ∨ (kk = 4 ∧ r = true)) (hd : 1 ≤ d) (hok : HOK h) (hlk : h.lock < h.next) (hn : h.next < 65000) :
    ∃ v h', deepF P G ext 2199023255552 base mtI d 43 [.agg #[.int .i64 kk, c1, c2, c3, c4, c5, c6, c7]] h = some (v, some h') ∧ HOK h' ∧ (v = .bool r ∧ Lim h.next 0 5 h h') := by
  rcases hk with ⟨rfl, rfl⟩ | ⟨rfl, rfl⟩ | ⟨rfl, rfl⟩ | ⟨rfl, rfl⟩
  · have u3:=U3 E;have s3:=S3 E;have a3:=A3 E
    have u9:=U9 E;have s9:=S9 E
    have u24:=U24 E;have s24:=S24 E
    have u28:=U28 E;have s28:=S28 E
    have u29:=U29 E;have s29:=S29 E
    have u30:=U30 E;have s30:=S30 E
    have u31:=U31 E;have s31:=S31 E
    have u33:=U33 E;have s33:=S33 E
    have u53:=U53 E;have s53:=S53 E
    have u66:=U66 E;have s66:=S66 E
    have hl := beq_less hlk
    refine mut_to (by omega) rfl (E.no 43 _ _ rfl) (by first | exact .inl rfl | exact .inr rfl) hl ((E.fn 43).trans Tryz.func43) rfl hok ?_
    conv => whnf
    refine ⟨by simp [Tryz.f43], ?_⟩
    repeat ((conv=>whnf);first|((with_reducible refine Exists.intro ?_ (Exists.intro ?_ (And.intro (a:=_=some (Blk.cells _ _)) ?_ ?_)));rotate_left 2;· (try dsimp only);(repeat first|with_reducible assumption|with_reducible exact uA (by assumption)|with_reducible exact nA (by assumption)|((with_reducible refine uN (by assumption) ?_ ?_);· omega)|((with_reducible refine nN (by assumption) ?_ ?_);· omega)))|((with_reducible refine Exists.intro ?_ (And.intro ?_ ?_));rotate_left;· first|with_reducible assumption|((conv=>lhs;arg 2;whnf);with_reducible assumption)|exact rfl)|((with_reducible refine And.intro (a:=AH.may _ _=true) ?_ ?_);· (try dsimp only);(repeat first|with_reducible assumption|((with_reducible refine New.mayNew (by assumption) (by assumption) ?_ ?_ ?_)<;>omega)|refine Upd.mayOf (by assumption) ?_|refine New.mayOf (by assumption) ?_|refine Ke.mayOf (by assumption) ?_))|((with_reducible refine And.intro (a:=szOf _ _=_) ?_ ?_);· refine Eq.trans (by assumption) ?_;kernel_rfl)|((with_reducible refine And.intro (a:=List.all _ _=true) ?_ ?_);· kernel_rfl)|((with_reducible refine And.intro (a:=_=_) ?_ ?_);· first|with_reducible assumption|rfl)|((with_reducible refine And.intro (a:=_≤_) ?_ ?_);· first|omega|exact Nat.le_of_ble_eq_true (by kernel_rfl))|((with_reducible refine And.intro (a:=_<_) ?_ ?_);· omega)|((with_reducible refine And.intro (a:=_∧_) ?_ ?_);· constructor<;>first|omega|(simp<;>omega))|(refine brk_true ?_ ?_;· first|rfl|(simp only [q1,q2,q3,q4,ne_eq,q5,q6];omega))|(refine brk_false ?_ ?_;· first|rfl|(simp only [q1,q2,q3,q4,ne_eq,q5,q6];omega))|(intro aa uu;(try dsimp only at uu);have okk:=uu.ok;have nxx:=uu.next;have lkk:=uu.lock;have imm:=uu.imp))
    try conv=>whnf
    exact ⟨(by repeat first|with_reducible assumption|refine Upd.flOf (by assumption) ?_|refine New.flOf (by assumption) ?_|refine Ke.flOf (by assumption) ?_|exact hfl|exact rfl), (fun j hj j1 => by repeat first|((with_reducible refine uN (by assumption) ?_ ?_);· omega)|((with_reducible refine nN (by assumption) ?_ ?_);· omega)|exact rfl)⟩
  · have u3:=U3 E;have s3:=S3 E;have a3:=A3 E
    have u9:=U9 E;have s9:=S9 E
    have u24:=U24 E;have s24:=S24 E
    have u28:=U28 E;have s28:=S28 E
    have u29:=U29 E;have s29:=S29 E
    have u30:=U30 E;have s30:=S30 E
    have u31:=U31 E;have s31:=S31 E
    have u33:=U33 E;have s33:=S33 E
    have u53:=U53 E;have s53:=S53 E
    have u66:=U66 E;have s66:=S66 E
    have hl := beq_less hlk
    refine mut_to (by omega) rfl (E.no 43 _ _ rfl) (by first | exact .inl rfl | exact .inr rfl) hl ((E.fn 43).trans Tryz.func43) rfl hok ?_
    conv => whnf
    refine ⟨by simp [Tryz.f43], ?_⟩
    repeat ((conv=>whnf);first|((with_reducible refine Exists.intro ?_ (Exists.intro ?_ (And.intro (a:=_=some (Blk.cells _ _)) ?_ ?_)));rotate_left 2;· (try dsimp only);(repeat first|with_reducible assumption|with_reducible exact uA (by assumption)|with_reducible exact nA (by assumption)|((with_reducible refine uN (by assumption) ?_ ?_);· omega)|((with_reducible refine nN (by assumption) ?_ ?_);· omega)))|((with_reducible refine Exists.intro ?_ (And.intro ?_ ?_));rotate_left;· first|with_reducible assumption|((conv=>lhs;arg 2;whnf);with_reducible assumption)|exact rfl)|((with_reducible refine And.intro (a:=AH.may _ _=true) ?_ ?_);· (try dsimp only);(repeat first|with_reducible assumption|((with_reducible refine New.mayNew (by assumption) (by assumption) ?_ ?_ ?_)<;>omega)|refine Upd.mayOf (by assumption) ?_|refine New.mayOf (by assumption) ?_|refine Ke.mayOf (by assumption) ?_))|((with_reducible refine And.intro (a:=szOf _ _=_) ?_ ?_);· refine Eq.trans (by assumption) ?_;kernel_rfl)|((with_reducible refine And.intro (a:=List.all _ _=true) ?_ ?_);· kernel_rfl)|((with_reducible refine And.intro (a:=_=_) ?_ ?_);· first|with_reducible assumption|rfl)|((with_reducible refine And.intro (a:=_≤_) ?_ ?_);· first|omega|exact Nat.le_of_ble_eq_true (by kernel_rfl))|((with_reducible refine And.intro (a:=_<_) ?_ ?_);· omega)|((with_reducible refine And.intro (a:=_∧_) ?_ ?_);· constructor<;>first|omega|(simp<;>omega))|(refine brk_true ?_ ?_;· first|rfl|(simp only [q1,q2,q3,q4,ne_eq,q5,q6];omega))|(refine brk_false ?_ ?_;· first|rfl|(simp only [q1,q2,q3,q4,ne_eq,q5,q6];omega))|(intro aa uu;(try dsimp only at uu);have okk:=uu.ok;have nxx:=uu.next;have lkk:=uu.lock;have imm:=uu.imp))
    try conv=>whnf
    exact ⟨(by repeat first|with_reducible assumption|refine Upd.flOf (by assumption) ?_|refine New.flOf (by assumption) ?_|refine Ke.flOf (by assumption) ?_|exact hfl|exact rfl), (fun j hj j1 => by repeat first|((with_reducible refine uN (by assumption) ?_ ?_);· omega)|((with_reducible refine nN (by assumption) ?_ ?_);· omega)|exact rfl)⟩
  · have u3:=U3 E;have s3:=S3 E;have a3:=A3 E
    have u9:=U9 E;have s9:=S9 E
    have u24:=U24 E;have s24:=S24 E
    have u28:=U28 E;have s28:=S28 E
    have u29:=U29 E;have s29:=S29 E
    have u30:=U30 E;have s30:=S30 E
    have u31:=U31 E;have s31:=S31 E
    have u33:=U33 E;have s33:=S33 E
    have u53:=U53 E;have s53:=S53 E
    have u66:=U66 E;have s66:=S66 E
    have hl := beq_less hlk
    refine mut_to (by omega) rfl (E.no 43 _ _ rfl) (by first | exact .inl rfl | exact .inr rfl) hl ((E.fn 43).trans Tryz.func43) rfl hok ?_
    conv => whnf
    refine ⟨by simp [Tryz.f43], ?_⟩
    repeat ((conv=>whnf);first|((with_reducible refine Exists.intro ?_ (Exists.intro ?_ (And.intro (a:=_=some (Blk.cells _ _)) ?_ ?_)));rotate_left 2;· (try dsimp only);(repeat first|with_reducible assumption|with_reducible exact uA (by assumption)|with_reducible exact nA (by assumption)|((with_reducible refine uN (by assumption) ?_ ?_);· omega)|((with_reducible refine nN (by assumption) ?_ ?_);· omega)))|((with_reducible refine Exists.intro ?_ (And.intro ?_ ?_));rotate_left;· first|with_reducible assumption|((conv=>lhs;arg 2;whnf);with_reducible assumption)|exact rfl)|((with_reducible refine And.intro (a:=AH.may _ _=true) ?_ ?_);· (try dsimp only);(repeat first|with_reducible assumption|((with_reducible refine New.mayNew (by assumption) (by assumption) ?_ ?_ ?_)<;>omega)|refine Upd.mayOf (by assumption) ?_|refine New.mayOf (by assumption) ?_|refine Ke.mayOf (by assumption) ?_))|((with_reducible refine And.intro (a:=szOf _ _=_) ?_ ?_);· refine Eq.trans (by assumption) ?_;kernel_rfl)|((with_reducible refine And.intro (a:=List.all _ _=true) ?_ ?_);· kernel_rfl)|((with_reducible refine And.intro (a:=_=_) ?_ ?_);· first|with_reducible assumption|rfl)|((with_reducible refine And.intro (a:=_≤_) ?_ ?_);· first|omega|exact Nat.le_of_ble_eq_true (by kernel_rfl))|((with_reducible refine And.intro (a:=_<_) ?_ ?_);· omega)|((with_reducible refine And.intro (a:=_∧_) ?_ ?_);· constructor<;>first|omega|(simp<;>omega))|(refine brk_true ?_ ?_;· first|rfl|(simp only [q1,q2,q3,q4,ne_eq,q5,q6];omega))|(refine brk_false ?_ ?_;· first|rfl|(simp only [q1,q2,q3,q4,ne_eq,q5,q6];omega))|(intro aa uu;(try dsimp only at uu);have okk:=uu.ok;have nxx:=uu.next;have lkk:=uu.lock;have imm:=uu.imp))
    try conv=>whnf
    exact ⟨(by repeat first|with_reducible assumption|refine Upd.flOf (by assumption) ?_|refine New.flOf (by assumption) ?_|refine Ke.flOf (by assumption) ?_|exact hfl|exact rfl), (fun j hj j1 => by repeat first|((with_reducible refine uN (by assumption) ?_ ?_);· omega)|((with_reducible refine nN (by assumption) ?_ ?_);· omega)|exact rfl)⟩
  · have u3:=U3 E;have s3:=S3 E;have a3:=A3 E
    have u9:=U9 E;have s9:=S9 E
    have u24:=U24 E;have s24:=S24 E
    have u28:=U28 E;have s28:=S28 E
    have u29:=U29 E;have s29:=S29 E
    have u30:=U30 E;have s30:=S30 E
    have u31:=U31 E;have s31:=S31 E
    have u33:=U33 E;have s33:=S33 E
    have u53:=U53 E;have s53:=S53 E
    have u66:=U66 E;have s66:=S66 E
    have hl := beq_less hlk
    refine mut_to (by omega) rfl (E.no 43 _ _ rfl) (by first | exact .inl rfl | exact .inr rfl) hl ((E.fn 43).trans Tryz.func43) rfl hok ?_
    conv => whnf
    refine ⟨by simp [Tryz.f43], ?_⟩
    repeat ((conv=>whnf);first|((with_reducible refine Exists.intro ?_ (Exists.intro ?_ (And.intro (a:=_=some (Blk.cells _ _)) ?_ ?_)));rotate_left 2;· (try dsimp only);(repeat first|with_reducible assumption|with_reducible exact uA (by assumption)|with_reducible exact nA (by assumption)|((with_reducible refine uN (by assumption) ?_ ?_);· omega)|((with_reducible refine nN (by assumption) ?_ ?_);· omega)))|((with_reducible refine Exists.intro ?_ (And.intro ?_ ?_));rotate_left;· first|with_reducible assumption|((conv=>lhs;arg 2;whnf);with_reducible assumption)|exact rfl)|((with_reducible refine And.intro (a:=AH.may _ _=true) ?_ ?_);· (try dsimp only);(repeat first|with_reducible assumption|((with_reducible refine New.mayNew (by assumption) (by assumption) ?_ ?_ ?_)<;>omega)|refine Upd.mayOf (by assumption) ?_|refine New.mayOf (by assumption) ?_|refine Ke.mayOf (by assumption) ?_))|((with_reducible refine And.intro (a:=szOf _ _=_) ?_ ?_);· refine Eq.trans (by assumption) ?_;kernel_rfl)|((with_reducible refine And.intro (a:=List.all _ _=true) ?_ ?_);· kernel_rfl)|((with_reducible refine And.intro (a:=_=_) ?_ ?_);· first|with_reducible assumption|rfl)|((with_reducible refine And.intro (a:=_≤_) ?_ ?_);· first|omega|exact Nat.le_of_ble_eq_true (by kernel_rfl))|((with_reducible refine And.intro (a:=_<_) ?_ ?_);· omega)|((with_reducible refine And.intro (a:=_∧_) ?_ ?_);· constructor<;>first|omega|(simp<;>omega))|(refine brk_true ?_ ?_;· first|rfl|(simp only [q1,q2,q3,q4,ne_eq,q5,q6];omega))|(refine brk_false ?_ ?_;· first|rfl|(simp only [q1,q2,q3,q4,ne_eq,q5,q6];omega))|(intro aa uu;(try dsimp only at uu);have okk:=uu.ok;have nxx:=uu.next;have lkk:=uu.lock;have imm:=uu.imp))
    try conv=>whnf
    exact ⟨(by repeat first|with_reducible assumption|refine Upd.flOf (by assumption) ?_|refine New.flOf (by assumption) ?_|refine Ke.flOf (by assumption) ?_|exact hfl|exact rfl), (fun j hj j1 => by repeat first|((with_reducible refine uN (by assumption) ?_ ?_);· omega)|((with_reducible refine nN (by assumption) ?_ ?_);· omega)|exact rfl)⟩

theorem says43 (E : Alike P Tryz.prog base walkI) (K L : Nat) (hKL : K ≤ L) : Says P G ext base K L (.func (.func 43) #[] #[]) (fun _ => True) (fun _ => True) where
  one := rfl
  cl := rfl
  kl := hKL
  st := fun _ _ _ _ _ _ _ _ _ => trivial
  arr := fun e h m he hi _ => callB_ex ((E.fn 43).trans Tryz.func43) rfl (f43_m E (.inr (.inr (.inl ⟨rfl, rfl⟩))) he hi.1 hi.2.1 (by have := hi.2.2.2.2; omega))
  last := fun e h he hi _ => by
    obtain ⟨v, h', h1, h2, h3, h4⟩ := f43_m (kk := 0) (r := false) (c1 := .int .i64 3) (c2 := .string ⟨#[55]⟩) (c3 := .int .i64 0) (c4 := .int .i64 0) (c5 := .slice none 0 0) (c6 := .slice none 0 0) (c7 := .pointer none) (ext := ext) (G := G) E (.inl ⟨rfl, rfl⟩) he hi.1 hi.2.1 (by have := hi.2.2.2.2; omega)
    obtain ⟨q1, q2, q3, q4, q5, q6⟩ := h4
    exact callB_ex ((E.fn 43).trans Tryz.func43) rfl ⟨v, h', h1, h2, h3, ⟨q1, q2, q3, q4, q5, fun j hj _ => q6 j hj (.inl hj)⟩, trivial⟩
end

end
end Go.Proofs.YtiecjjcemnafaaaGreatDoor.V
