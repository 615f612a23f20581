/- The atoms of chains. Conditions: none. -/
import Derived.Test.YtiecjjcemnafaaaGreatDoorHk
import Derived.Test.YtiecjjcemnafaaaGreatDoorHg
namespace Go.Proofs.YtiecjjcemnafaaaGreatDoor.V
set_option linter.all false
open Go
noncomputable section

section
variable {P : Program} {G : Nat} {ext : FuncId → Option Ext} {base : Orc}

theorem may_of {h h' : AH} {j : Nat} (hl : h'.lock = h.lock) (hi : h'.imp = h.imp) (hm : h.may j = true) : h'.may j = true := by
  unfold AH.may AH.own at hm ⊢
  rw [hl, hi]; exact hm

theorem says44 (E : Alike P Tryz.prog base walkI) {K L bo bt y : Nat} (hy : bo ≠ y) (hKo : K ≤ bo) (hKy : K ≤ y) (hoL : bo < L) (hyL : y < L) : Says P G ext base K L (.func (.func 44) #[] #[pt bo, pt bt, pt y]) (St0 P bo bt y) (St1 P bo) where
  one := rfl
  cl := rfl
  kl := by omega
  st := fun h h' hs _ hg hl hi hn _ => ⟨(hg bo hoL).trans hs.1, (hg y hyL).trans hs.2.1, may_of hl hi hs.2.2.1, may_of hl hi hs.2.2.2.1, by have := hs.2.2.2.2.1; omega, by have := hs.2.2.2.2.2; omega⟩
  arr := fun e h m he hi _ => callB_ex ((E.fn 44).trans Tryz.func44) rfl (f44_arr E he hi.1 hi.2.1 (by have := hi.2.2.2.2; omega))
  last := fun e h he hi hs => callB_ex ((E.fn 44).trans Tryz.func44) rfl (f44_last E he hi hs hy hKo hKy hoL hyL)

/-- A map or a function, through the function that asks. -/
theorem f77_true (E : Alike P Tryz.prog base walkI) {d q : Nat} {h : AH} {gq : Gw} {kk : Int} {c1 c2 c3 c4 c5 c6 c7 : Value} (hkk : kk = 2 ∨ kk = 4) (hd : 2 ≤ d) (hok : HOK h) (hlk : h.lock < h.next) (hn : h.next < 64900) (hq : h.get q = some (.cells #[.func (.func 43) #[] #[]] gq)) (hqn : q < h.next) :
    ∃ v h', deepF P G ext 2199023255552 base mtI d 77 [.agg #[.int .i64 kk, c1, c2, c3, c4, c5, c6, c7], pt q] h = some (v, some h') ∧ HOK h' ∧ (v = .bool true ∧ Lim h.next 0 10 h h') := by
  have u3:=U3 E;have s3:=S3 E;have a3:=A3 E
  have u9:=U9 E;have s9:=S9 E
  have u24:=U24 E;have s24:=S24 E
  have u28:=U28 E;have s28:=S28 E
  have u29:=U29 E;have s29:=S29 E
  have u30:=U30 E;have s30:=S30 E;have a30:=A30 E
  have u31:=U31 E;have s31:=S31 E
  have u33:=U33 E;have s33:=S33 E;have a33:=A33 E
  have u53:=U53 E;have s53:=S53 E
  have u66:=U66 E;have s66:=S66 E
  have u100:=U100 E;have s100:=S100 E
  have u108:=U108 E;have s108:=S108 E;have a108:=A108 E
  have hl := beq_less hlk
  refine mut_to (by omega) rfl (E.no 77 _ _ rfl) (by first | exact .inl rfl | exact .inr rfl) hl ((E.fn 77).trans Tryz.func77) rfl hok ?_
  conv => whnf
  refine ⟨by simp [Tryz.f77], ?_⟩
  repeat ((conv=>whnf);first|((with_reducible refine Exists.intro ?_ (Exists.intro ?_ (And.intro (a:=_=some (Blk.cells _ _)) ?_ ?_)));rotate_left 2;· (try dsimp only);(repeat first|with_reducible assumption|with_reducible exact uA (by assumption)|with_reducible exact nA (by assumption)|((with_reducible refine uN (by assumption) ?_ ?_);· omega)|((with_reducible refine nN (by assumption) ?_ ?_);· omega)))|((with_reducible refine Exists.intro ?_ (And.intro ?_ ?_));rotate_left;· first|with_reducible assumption|((conv=>lhs;arg 2;whnf);with_reducible assumption)|exact rfl)|((with_reducible refine And.intro (a:=AH.may _ _=true) ?_ ?_);· (try dsimp only);(repeat first|with_reducible assumption|((with_reducible refine New.mayNew (by assumption) (by assumption) ?_ ?_ ?_)<;>omega)|refine Upd.mayOf (by assumption) ?_|refine New.mayOf (by assumption) ?_|refine Ke.mayOf (by assumption) ?_))|((with_reducible refine And.intro (a:=szOf _ _=_) ?_ ?_);· refine Eq.trans (by assumption) ?_;kernel_rfl)|((with_reducible refine And.intro (a:=List.all _ _=true) ?_ ?_);· kernel_rfl)|((with_reducible refine And.intro (a:=_=_) ?_ ?_);· first|with_reducible assumption|rfl)|((with_reducible refine And.intro (a:=_≤_) ?_ ?_);· first|omega|exact Nat.le_of_ble_eq_true (by kernel_rfl))|((with_reducible refine And.intro (a:=_<_) ?_ ?_);· omega)|((with_reducible refine And.intro (a:=_∧_) ?_ ?_);· constructor<;>first|omega|(simp<;>omega))|(refine brk_true ?_ ?_;· first|rfl|(simp only [q1,q2,q3,q4,ne_eq,q5,q6];omega))|(refine brk_false ?_ ?_;· first|rfl|(simp only [q1,q2,q3,q4,ne_eq,q5,q6];omega))|(intro aa uu;(try dsimp only at uu);have okk:=uu.ok;have nxx:=uu.next;have lkk:=uu.lock;have imm:=uu.imp))
  try conv=>whnf
  refine callB_heap ((E.fn 43).trans Tryz.func43) rfl ?_
  refine ⟨_, (f43_m (r := true) E (by rcases hkk with rfl | rfl <;> simp) (by omega) (by assumption) (by omega) (by omega)), ?_⟩
  rintro v h2 hok2 ⟨rfl, ⟨p1, p2, p3, p4, p5, keptb⟩⟩
  repeat ((conv=>whnf);first|((with_reducible refine Exists.intro ?_ (Exists.intro ?_ (And.intro (a:=_=some (Blk.cells _ _)) ?_ ?_)));rotate_left 2;· (try dsimp only);(repeat first|with_reducible assumption|with_reducible exact uA (by assumption)|with_reducible exact nA (by assumption)|((with_reducible refine uN (by assumption) ?_ ?_);· omega)|((with_reducible refine nN (by assumption) ?_ ?_);· omega)|((with_reducible refine Ke.at (by assumption) ?_ ?_);· omega)|refine Eq.trans (keptb _ (by omega) (by omega)) ?_))|((with_reducible refine Exists.intro ?_ (And.intro ?_ ?_));rotate_left;· first|with_reducible assumption|((conv=>lhs;arg 2;whnf);with_reducible assumption)|exact rfl)|((with_reducible refine And.intro (a:=AH.may _ _=true) ?_ ?_);· (try dsimp only);(repeat first|with_reducible assumption|((with_reducible refine New.mayNew (by assumption) (by assumption) ?_ ?_ ?_)<;>omega)|refine Upd.mayOf (by assumption) ?_|refine New.mayOf (by assumption) ?_|refine Ke.mayOf (by assumption) ?_))|((with_reducible refine And.intro (a:=szOf _ _=_) ?_ ?_);· refine Eq.trans (by assumption) ?_;kernel_rfl)|((with_reducible refine And.intro (a:=List.all _ _=true) ?_ ?_);· kernel_rfl)|((with_reducible refine And.intro (a:=_=_) ?_ ?_);· first|with_reducible assumption|rfl)|((with_reducible refine And.intro (a:=_≤_) ?_ ?_);· first|omega|exact Nat.le_of_ble_eq_true (by kernel_rfl))|((with_reducible refine And.intro (a:=_<_) ?_ ?_);· omega)|((with_reducible refine And.intro (a:=_∧_) ?_ ?_);· constructor<;>first|omega|(simp<;>omega))|(refine brk_true ?_ ?_;· first|rfl|(simp only [q1,q2,q3,q4,ne_eq,q5,q6];omega))|(refine brk_false ?_ ?_;· first|rfl|(simp only [q1,q2,q3,q4,ne_eq,q5,q6];omega))|(intro aa uu;(try dsimp only at uu);have okk:=uu.ok;have nxx:=uu.next;have lkk:=uu.lock;have imm:=uu.imp))
  try conv=>whnf
  refine ⟨by omega, by omega, p5.trans (by repeat first|with_reducible assumption|refine Upd.flOf (by assumption) ?_|refine New.flOf (by assumption) ?_|refine Ke.flOf (by assumption) ?_|exact hfl|exact rfl), (fun j hj j1 => by repeat first|((with_reducible refine uN (by assumption) ?_ ?_);· omega)|((with_reducible refine nN (by assumption) ?_ ?_);· omega)|((with_reducible refine Ke.at (by assumption) ?_ ?_);· omega)|refine Eq.trans (keptb _ (by omega) (by omega)) ?_|exact rfl)⟩

theorem has_true (E : Alike P Tryz.prog base walkI) {d b : Nat} {h : AH} {g : Gw} {kk : Int} {c1 c2 c3 c4 c5 c6 c7 : Value} (hkk : kk = 2 ∨ kk = 4) (hd : 6 ≤ d) (hok : HOK h) (hlk : h.lock < h.next) (hn : h.next < 64800) (hb : b < h.next) (h1 : h.get b = some (.cells #[.int .i64 kk, c1, c2, c3, c4, c5, c6, c7] g)) :
    ∃ v h', deepF P G ext 2199023255552 base mtI d 42 [sl b 1, .func (.func 43) #[] #[]] h = some (v, some h') ∧ HOK h' ∧ (v = .bool true ∧ Lim h.next 0 20 h h') := by
  have u3:=U3 E;have s3:=S3 E
  have u24:=U24 E;have s24:=S24 E
  have u28:=U28 E;have s28:=S28 E
  have u29:=U29 E;have s29:=S29 E
  have u30:=U30 E;have s30:=S30 E
  have u31:=U31 E;have s31:=S31 E
  have u33:=U33 E;have s33:=S33 E
  have u108:=U108 E;have s108:=S108 E
  have hl := beq_less hlk
  refine mut_to (by omega) rfl (E.no 42 _ _ rfl) (by first | exact .inl rfl | exact .inr rfl) hl ((E.fn 42).trans Tryz.func42) rfl hok ?_
  conv => whnf
  refine ⟨by simp [Tryz.f42], ?_⟩
  repeat ((conv=>whnf);first|((with_reducible refine Exists.intro ?_ (Exists.intro ?_ (And.intro (a:=_=some (Blk.cells _ _)) ?_ ?_)));rotate_left 2;· (try dsimp only);(repeat first|with_reducible assumption|with_reducible exact uA (by assumption)|with_reducible exact nA (by assumption)|((with_reducible refine uN (by assumption) ?_ ?_);· omega)|((with_reducible refine nN (by assumption) ?_ ?_);· omega)))|((with_reducible refine Exists.intro ?_ (And.intro ?_ ?_));rotate_left;· first|with_reducible assumption|((conv=>lhs;arg 2;whnf);with_reducible assumption)|exact rfl)|((with_reducible refine And.intro (a:=AH.may _ _=true) ?_ ?_);· (try dsimp only);(repeat first|with_reducible assumption|((with_reducible refine New.mayNew (by assumption) (by assumption) ?_ ?_ ?_)<;>omega)|refine Upd.mayOf (by assumption) ?_|refine New.mayOf (by assumption) ?_|refine Ke.mayOf (by assumption) ?_))|((with_reducible refine And.intro (a:=szOf _ _=_) ?_ ?_);· refine Eq.trans (by assumption) ?_;kernel_rfl)|((with_reducible refine And.intro (a:=List.all _ _=true) ?_ ?_);· kernel_rfl)|((with_reducible refine And.intro (a:=_=_) ?_ ?_);· first|with_reducible assumption|rfl)|((with_reducible refine And.intro (a:=_≤_) ?_ ?_);· first|omega|exact Nat.le_of_ble_eq_true (by kernel_rfl))|((with_reducible refine And.intro (a:=_<_) ?_ ?_);· omega)|((with_reducible refine And.intro (a:=_∧_) ?_ ?_);· constructor<;>first|omega|(simp<;>omega))|(refine brk_true ?_ ?_;· first|rfl|(simp only [q1,q2,q3,q4,ne_eq,q5,q6];omega))|(refine brk_false ?_ ?_;· first|rfl|(simp only [q1,q2,q3,q4,ne_eq,q5,q6];omega))|(intro aa uu;(try dsimp only at uu);have okk:=uu.ok;have nxx:=uu.next;have lkk:=uu.lock;have imm:=uu.imp))
  try conv=>whnf
  have w1 : aa.get b = some (.cells #[.int .i64 kk, c1, c2, c3, c4, c5, c6, c7] g) := by (repeat first|with_reducible assumption|with_reducible exact uA (by assumption)|with_reducible exact nA (by assumption)|((with_reducible refine uN (by assumption) ?_ ?_);· omega)|((with_reducible refine nN (by assumption) ?_ ?_);· omega))
  have w2 : aa.get h.next = some (.cells #[.func (.func 43) #[] #[]] (tyOf P 108)) := New.at uu
  refine callB_heap ((E.fn 66).trans Tryz.func66) rfl ?_
  refine ⟨_, (f66_m E rfl (by omega) (by assumption) (by omega) (f105_m E rfl (by omega) (by assumption) (by omega) w1 (callB_ex ((E.fn 77).trans Tryz.func77) rfl (f77_true E hkk (by omega) (by assumption) (by omega) (by omega) w2 (by omega))))), ?_⟩
  rintro v h2 hok2 ⟨rfl, ⟨p1, p2, p3, p4, p5, keptb⟩⟩
  repeat ((conv=>whnf);first|((with_reducible refine Exists.intro ?_ (Exists.intro ?_ (And.intro (a:=_=some (Blk.cells _ _)) ?_ ?_)));rotate_left 2;· (try dsimp only);(repeat first|with_reducible assumption|with_reducible exact uA (by assumption)|with_reducible exact nA (by assumption)|((with_reducible refine uN (by assumption) ?_ ?_);· omega)|((with_reducible refine nN (by assumption) ?_ ?_);· omega)|((with_reducible refine Ke.at (by assumption) ?_ ?_);· omega)|refine Eq.trans (keptb _ (by omega) (by omega)) ?_))|((with_reducible refine Exists.intro ?_ (And.intro ?_ ?_));rotate_left;· first|with_reducible assumption|((conv=>lhs;arg 2;whnf);with_reducible assumption)|exact rfl)|((with_reducible refine And.intro (a:=AH.may _ _=true) ?_ ?_);· (try dsimp only);(repeat first|with_reducible assumption|((with_reducible refine New.mayNew (by assumption) (by assumption) ?_ ?_ ?_)<;>omega)|refine Upd.mayOf (by assumption) ?_|refine New.mayOf (by assumption) ?_|refine Ke.mayOf (by assumption) ?_))|((with_reducible refine And.intro (a:=szOf _ _=_) ?_ ?_);· refine Eq.trans (by assumption) ?_;kernel_rfl)|((with_reducible refine And.intro (a:=List.all _ _=true) ?_ ?_);· kernel_rfl)|((with_reducible refine And.intro (a:=_=_) ?_ ?_);· first|with_reducible assumption|rfl)|((with_reducible refine And.intro (a:=_≤_) ?_ ?_);· first|omega|exact Nat.le_of_ble_eq_true (by kernel_rfl))|((with_reducible refine And.intro (a:=_<_) ?_ ?_);· omega)|((with_reducible refine And.intro (a:=_∧_) ?_ ?_);· constructor<;>first|omega|(simp<;>omega))|(refine brk_true ?_ ?_;· first|rfl|(simp only [q1,q2,q3,q4,ne_eq,q5,q6];omega))|(refine brk_false ?_ ?_;· first|rfl|(simp only [q1,q2,q3,q4,ne_eq,q5,q6];omega))|(intro aa uu;(try dsimp only at uu);have okk:=uu.ok;have nxx:=uu.next;have lkk:=uu.lock;have imm:=uu.imp))
  try conv=>whnf
  refine ⟨by omega, by omega, p5.trans (by repeat first|with_reducible assumption|refine Upd.flOf (by assumption) ?_|refine New.flOf (by assumption) ?_|refine Ke.flOf (by assumption) ?_|exact hfl|exact rfl), (fun j hj j1 => by repeat first|((with_reducible refine uN (by assumption) ?_ ?_);· omega)|((with_reducible refine nN (by assumption) ?_ ?_);· omega)|((with_reducible refine Ke.at (by assumption) ?_ ?_);· omega)|refine Eq.trans (keptb _ (by omega) (by omega)) ?_|exact rfl)⟩
end

end
end Go.Proofs.YtiecjjcemnafaaaGreatDoor.V
