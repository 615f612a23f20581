/- What Atomize asks of items, and what it collects. Conditions: none. -/
import Derived.Test.YtibffohcmegooaaGreatDoorGd
namespace Go.Proofs.YtibffohcmegooaaGreatDoor.V
set_option linter.all false
open Go
noncomputable section

/-- The cells of atoms. -/
def flA : List (Int × ByteArray) → List Value
  | [] => []
  | a :: A => .int .i64 a.1 :: .string a.2 :: flA A
theorem flA_len : ∀ A, (flA A).length = A.length * 2
  | [] => rfl
  | a :: A => by simp only [flA, List.length_cons, flA_len A]; omega
theorem flA_app : ∀ A B, flA (A ++ B) = flA A ++ flA B
  | [], _ => rfl
  | a :: A, B => by simp only [List.cons_append, flA, flA_app A B]
theorem flA_last (A : List (Int × ByteArray)) (k : Int) (s : ByteArray) : (flA A ++ [.int .i64 k, .string s])[A.length * 2 + 1]? = some (.string s) := by
  rw [List.getElem?_append_right (by rw [flA_len]; omega), flA_len, show A.length * 2 + 1 - A.length * 2 = 1 by omega]
  rfl
def byA (A : List (Int × ByteArray)) : Nat := sumF (fun a => bl a.2) A
theorem byA_app : ∀ (A : List (Int × ByteArray)) (a : Int × ByteArray), byA (A ++ [a]) = byA A + bl a.2
  | [], a => by simp [byA, sumF]
  | b :: A, a => by
    have := byA_app A a
    simp only [byA, List.cons_append, sumF] at this ⊢
    omega

/-- These atoms are collected. -/
def StA (P : Program) (L bo y : Nat) (A : List (Int × ByteArray)) (h : AH) : Prop :=
  ∃ (v : Value) (c : Nat), h.get y = some (.cells #[.int .i64 (byA A : Nat)] (tyOf P 3)) ∧ h.may bo = true ∧ h.may y = true ∧ bo < h.next ∧ y < h.next ∧ A.length ≤ 65536 ∧ byA A ≤ 4194304 ∧
    h.get bo = some (.cells #[v] (tyOf P 32)) ∧ Acc 1 24 h c v A.length (flA A) ∧ L ≤ c
/-- One more, if that is not too many. -/
def gA (k : Int) (s : ByteArray) (A : List (Int × ByteArray)) : Option (List (Int × ByteArray)) := if A.length + 1 ≤ 65536 ∧ byA A + bl s ≤ 4194304 then some (A ++ [(k, s)]) else none

theorem atT {C : List Value} {n : Nat} {v : Value} (h : C[n * 2 + 1]? = some v) : (⟨C⟩ : Array Value).toList[0 + (((n + 1 : Nat) : Int) - 1).toNat * 2 + 1]? = some v := by
  rw [show 0 + (((n + 1 : Nat) : Int) - 1).toNat * 2 + 1 = n * 2 + 1 by omega]
  exact h
theorem last2 {a b : AH} (p : (a :: List.append [] [b]) ≠ []) : (a :: List.append [] [b]).getLast p = b := rfl
theorem same_ne {x y : Int} (h : x ≠ y) : sameL [.int .i64 x] [.int .i64 y] = false := by
  have : (x == y) = false := beq_eq_false_iff_ne.2 h
  simp [sameL, sameV, this]

theorem inf_ok : (match Tryz.prog.info? 24 with | some i => Nat.beq i.size 2 && Nat.ble i.bytes 1000 | none => false) = true := by kernel_rfl
theorem infA : ∃ i, Tryz.prog.info? 24 = some i ∧ i.size = 2 ∧ i.bytes ≤ 1000 := by
  have h := inf_ok
  split at h
  · rename_i i hi
    rw [Bool.and_eq_true] at h
    exact ⟨i, hi, beq_iff.1 h.1, ble_iff.1 h.2⟩
  · cases h

section
variable {P : Program} {G : Nat} {ext : FuncId → Option Ext} {base : Orc}

/-- Whether an item is a map or a function. -/
theorem at1_m (E : Alike P Tryz.prog base walkG) {d : Nat} {h : AH} {kk : Int} {r : Bool} {c1 c2 c3 c4 c5 c6 c7 : Value} (hk : (kk = 0 ∧ r = false) ∨ (kk = 1 ∧ r = false) ∨ (kk = 2 ∧ r = true) ∨ (kk = 3 ∧ r = false) ∨ (kk = 4 ∧ r = true)) (hd : 1 ≤ d) (hok : HOK h) (hlk : h.lock < h.next) (hn : h.next < 16000000) :
    ∃ v h', deepF P G ext 2199023255552 base mtG d 14 [.agg #[.int .i64 kk, c1, c2, c3, c4, c5, c6, c7]] h = some (v, some h') ∧ HOK h' ∧ (v = .bool r ∧ h.next ≤ h'.next ∧ h'.next ≤ h.next + 5 ∧ h'.lock = h.lock ∧ h'.imp = h.imp ∧ h'.fl = h.fl ∧ ∀ j, j < h.next → h'.get j = h.get j) := by
  rcases hk with ⟨rfl, rfl⟩ | ⟨rfl, rfl⟩ | ⟨rfl, rfl⟩ | ⟨rfl, rfl⟩ | ⟨rfl, rfl⟩
  · have u3:=U3 E;have s3:=S3 E;have a3:=A3 E
    have u9:=U9 E;have s9:=S9 E
    have u22:=U22 E;have s22:=S22 E
    have u24:=U24 E;have s24:=S24 E
    have u25:=U25 E;have s25:=S25 E
    have u26:=U26 E;have s26:=S26 E
    have u27:=U27 E;have s27:=S27 E
    have u29:=U29 E;have s29:=S29 E
    have u41:=U41 E;have s41:=S41 E
    have u54:=U54 E;have s54:=S54 E
    have hl := beq_less hlk
    refine mut_to (by omega) rfl (E.no 14 _ _ rfl) (by first | exact .inl rfl | exact .inr rfl) hl ((E.fn 14).trans Tryz.func14) rfl hok ?_
    conv => whnf
    refine ⟨by simp [Tryz.f14], ?_⟩
    repeat ((conv=>whnf);first|((with_reducible refine Exists.intro ?_ (Exists.intro ?_ (And.intro (a:=_=some (Blk.cells _ _)) ?_ ?_)));rotate_left 2;· (try dsimp only);(repeat first|with_reducible assumption|with_reducible exact uA (by assumption)|with_reducible exact nA (by assumption)|((with_reducible refine uN (by assumption) ?_ ?_);· omega)|((with_reducible refine nN (by assumption) ?_ ?_);· omega)))|((with_reducible refine Exists.intro ?_ (And.intro ?_ ?_));rotate_left;· first|with_reducible assumption|((conv=>lhs;arg 2;whnf);with_reducible assumption)|exact rfl)|((with_reducible refine And.intro (a:=AH.may _ _=true) ?_ ?_);· (try dsimp only);(repeat first|with_reducible assumption|((with_reducible refine New.mayNew (by assumption) (by assumption) ?_ ?_ ?_)<;>omega)|refine Upd.mayOf (by assumption) ?_|refine New.mayOf (by assumption) ?_|refine Ke.mayOf (by assumption) ?_))|((with_reducible refine And.intro (a:=szOf _ _=_) ?_ ?_);· refine Eq.trans (by assumption) ?_;kernel_rfl)|((with_reducible refine And.intro (a:=List.all _ _=true) ?_ ?_);· kernel_rfl)|((with_reducible refine And.intro (a:=_=_) ?_ ?_);· first|with_reducible assumption|rfl)|((with_reducible refine And.intro (a:=_≤_) ?_ ?_);· first|omega|exact sz_ok|exact Nat.le_of_ble_eq_true (by kernel_rfl))|((with_reducible refine And.intro (a:=_<_) ?_ ?_);· omega)|((with_reducible refine And.intro (a:=_∧_) ?_ ?_);· constructor<;>first|omega|(simp<;>omega))|(refine brk_true ?_ ?_;· first|rfl|(simp only [q1,q2,q3,q4,q7,q8,ne_eq,q5,q6];omega))|(refine brk_false ?_ ?_;· first|rfl|(simp only [q1,q2,q3,q4,q7,q8,ne_eq,q5,q6];omega))|(intro aa uu;(try dsimp only at uu);have okk:=uu.ok;have nxx:=uu.next;have lkk:=uu.lock;have imm:=uu.imp))
    try conv=>whnf
    exact ⟨(by repeat first|with_reducible assumption|refine Upd.flOf (by assumption) ?_|refine New.flOf (by assumption) ?_|refine Ke.flOf (by assumption) ?_|exact hfl|exact rfl), (fun j hj => by repeat first|((with_reducible refine uN (by assumption) ?_ ?_);· omega)|((with_reducible refine nN (by assumption) ?_ ?_);· omega)|exact rfl)⟩
  · have u3:=U3 E;have s3:=S3 E;have a3:=A3 E
    have u9:=U9 E;have s9:=S9 E
    have u22:=U22 E;have s22:=S22 E
    have u24:=U24 E;have s24:=S24 E
    have u25:=U25 E;have s25:=S25 E
    have u26:=U26 E;have s26:=S26 E
    have u27:=U27 E;have s27:=S27 E
    have u29:=U29 E;have s29:=S29 E
    have u41:=U41 E;have s41:=S41 E
    have u54:=U54 E;have s54:=S54 E
    have hl := beq_less hlk
    refine mut_to (by omega) rfl (E.no 14 _ _ rfl) (by first | exact .inl rfl | exact .inr rfl) hl ((E.fn 14).trans Tryz.func14) rfl hok ?_
    conv => whnf
    refine ⟨by simp [Tryz.f14], ?_⟩
    repeat ((conv=>whnf);first|((with_reducible refine Exists.intro ?_ (Exists.intro ?_ (And.intro (a:=_=some (Blk.cells _ _)) ?_ ?_)));rotate_left 2;· (try dsimp only);(repeat first|with_reducible assumption|with_reducible exact uA (by assumption)|with_reducible exact nA (by assumption)|((with_reducible refine uN (by assumption) ?_ ?_);· omega)|((with_reducible refine nN (by assumption) ?_ ?_);· omega)))|((with_reducible refine Exists.intro ?_ (And.intro ?_ ?_));rotate_left;· first|with_reducible assumption|((conv=>lhs;arg 2;whnf);with_reducible assumption)|exact rfl)|((with_reducible refine And.intro (a:=AH.may _ _=true) ?_ ?_);· (try dsimp only);(repeat first|with_reducible assumption|((with_reducible refine New.mayNew (by assumption) (by assumption) ?_ ?_ ?_)<;>omega)|refine Upd.mayOf (by assumption) ?_|refine New.mayOf (by assumption) ?_|refine Ke.mayOf (by assumption) ?_))|((with_reducible refine And.intro (a:=szOf _ _=_) ?_ ?_);· refine Eq.trans (by assumption) ?_;kernel_rfl)|((with_reducible refine And.intro (a:=List.all _ _=true) ?_ ?_);· kernel_rfl)|((with_reducible refine And.intro (a:=_=_) ?_ ?_);· first|with_reducible assumption|rfl)|((with_reducible refine And.intro (a:=_≤_) ?_ ?_);· first|omega|exact sz_ok|exact Nat.le_of_ble_eq_true (by kernel_rfl))|((with_reducible refine And.intro (a:=_<_) ?_ ?_);· omega)|((with_reducible refine And.intro (a:=_∧_) ?_ ?_);· constructor<;>first|omega|(simp<;>omega))|(refine brk_true ?_ ?_;· first|rfl|(simp only [q1,q2,q3,q4,q7,q8,ne_eq,q5,q6];omega))|(refine brk_false ?_ ?_;· first|rfl|(simp only [q1,q2,q3,q4,q7,q8,ne_eq,q5,q6];omega))|(intro aa uu;(try dsimp only at uu);have okk:=uu.ok;have nxx:=uu.next;have lkk:=uu.lock;have imm:=uu.imp))
    try conv=>whnf
    exact ⟨(by repeat first|with_reducible assumption|refine Upd.flOf (by assumption) ?_|refine New.flOf (by assumption) ?_|refine Ke.flOf (by assumption) ?_|exact hfl|exact rfl), (fun j hj => by repeat first|((with_reducible refine uN (by assumption) ?_ ?_);· omega)|((with_reducible refine nN (by assumption) ?_ ?_);· omega)|exact rfl)⟩
  · have u3:=U3 E;have s3:=S3 E;have a3:=A3 E
    have u9:=U9 E;have s9:=S9 E
    have u22:=U22 E;have s22:=S22 E
    have u24:=U24 E;have s24:=S24 E
    have u25:=U25 E;have s25:=S25 E
    have u26:=U26 E;have s26:=S26 E
    have u27:=U27 E;have s27:=S27 E
    have u29:=U29 E;have s29:=S29 E
    have u41:=U41 E;have s41:=S41 E
    have u54:=U54 E;have s54:=S54 E
    have hl := beq_less hlk
    refine mut_to (by omega) rfl (E.no 14 _ _ rfl) (by first | exact .inl rfl | exact .inr rfl) hl ((E.fn 14).trans Tryz.func14) rfl hok ?_
    conv => whnf
    refine ⟨by simp [Tryz.f14], ?_⟩
    repeat ((conv=>whnf);first|((with_reducible refine Exists.intro ?_ (Exists.intro ?_ (And.intro (a:=_=some (Blk.cells _ _)) ?_ ?_)));rotate_left 2;· (try dsimp only);(repeat first|with_reducible assumption|with_reducible exact uA (by assumption)|with_reducible exact nA (by assumption)|((with_reducible refine uN (by assumption) ?_ ?_);· omega)|((with_reducible refine nN (by assumption) ?_ ?_);· omega)))|((with_reducible refine Exists.intro ?_ (And.intro ?_ ?_));rotate_left;· first|with_reducible assumption|((conv=>lhs;arg 2;whnf);with_reducible assumption)|exact rfl)|((with_reducible refine And.intro (a:=AH.may _ _=true) ?_ ?_);· (try dsimp only);(repeat first|with_reducible assumption|((with_reducible refine New.mayNew (by assumption) (by assumption) ?_ ?_ ?_)<;>omega)|refine Upd.mayOf (by assumption) ?_|refine New.mayOf (by assumption) ?_|refine Ke.mayOf (by assumption) ?_))|((with_reducible refine And.intro (a:=szOf _ _=_) ?_ ?_);· refine Eq.trans (by assumption) ?_;kernel_rfl)|((with_reducible refine And.intro (a:=List.all _ _=true) ?_ ?_);· kernel_rfl)|((with_reducible refine And.intro (a:=_=_) ?_ ?_);· first|with_reducible assumption|rfl)|((with_reducible refine And.intro (a:=_≤_) ?_ ?_);· first|omega|exact sz_ok|exact Nat.le_of_ble_eq_true (by kernel_rfl))|((with_reducible refine And.intro (a:=_<_) ?_ ?_);· omega)|((with_reducible refine And.intro (a:=_∧_) ?_ ?_);· constructor<;>first|omega|(simp<;>omega))|(refine brk_true ?_ ?_;· first|rfl|(simp only [q1,q2,q3,q4,q7,q8,ne_eq,q5,q6];omega))|(refine brk_false ?_ ?_;· first|rfl|(simp only [q1,q2,q3,q4,q7,q8,ne_eq,q5,q6];omega))|(intro aa uu;(try dsimp only at uu);have okk:=uu.ok;have nxx:=uu.next;have lkk:=uu.lock;have imm:=uu.imp))
    try conv=>whnf
    exact ⟨(by repeat first|with_reducible assumption|refine Upd.flOf (by assumption) ?_|refine New.flOf (by assumption) ?_|refine Ke.flOf (by assumption) ?_|exact hfl|exact rfl), (fun j hj => by repeat first|((with_reducible refine uN (by assumption) ?_ ?_);· omega)|((with_reducible refine nN (by assumption) ?_ ?_);· omega)|exact rfl)⟩
  · have u3:=U3 E;have s3:=S3 E;have a3:=A3 E
    have u9:=U9 E;have s9:=S9 E
    have u22:=U22 E;have s22:=S22 E
    have u24:=U24 E;have s24:=S24 E
    have u25:=U25 E;have s25:=S25 E
    have u26:=U26 E;have s26:=S26 E
    have u27:=U27 E;have s27:=S27 E
    have u29:=U29 E;have s29:=S29 E
    have u41:=U41 E;have s41:=S41 E
    have u54:=U54 E;have s54:=S54 E
    have hl := beq_less hlk
    refine mut_to (by omega) rfl (E.no 14 _ _ rfl) (by first | exact .inl rfl | exact .inr rfl) hl ((E.fn 14).trans Tryz.func14) rfl hok ?_
    conv => whnf
    refine ⟨by simp [Tryz.f14], ?_⟩
    repeat ((conv=>whnf);first|((with_reducible refine Exists.intro ?_ (Exists.intro ?_ (And.intro (a:=_=some (Blk.cells _ _)) ?_ ?_)));rotate_left 2;· (try dsimp only);(repeat first|with_reducible assumption|with_reducible exact uA (by assumption)|with_reducible exact nA (by assumption)|((with_reducible refine uN (by assumption) ?_ ?_);· omega)|((with_reducible refine nN (by assumption) ?_ ?_);· omega)))|((with_reducible refine Exists.intro ?_ (And.intro ?_ ?_));rotate_left;· first|with_reducible assumption|((conv=>lhs;arg 2;whnf);with_reducible assumption)|exact rfl)|((with_reducible refine And.intro (a:=AH.may _ _=true) ?_ ?_);· (try dsimp only);(repeat first|with_reducible assumption|((with_reducible refine New.mayNew (by assumption) (by assumption) ?_ ?_ ?_)<;>omega)|refine Upd.mayOf (by assumption) ?_|refine New.mayOf (by assumption) ?_|refine Ke.mayOf (by assumption) ?_))|((with_reducible refine And.intro (a:=szOf _ _=_) ?_ ?_);· refine Eq.trans (by assumption) ?_;kernel_rfl)|((with_reducible refine And.intro (a:=List.all _ _=true) ?_ ?_);· kernel_rfl)|((with_reducible refine And.intro (a:=_=_) ?_ ?_);· first|with_reducible assumption|rfl)|((with_reducible refine And.intro (a:=_≤_) ?_ ?_);· first|omega|exact sz_ok|exact Nat.le_of_ble_eq_true (by kernel_rfl))|((with_reducible refine And.intro (a:=_<_) ?_ ?_);· omega)|((with_reducible refine And.intro (a:=_∧_) ?_ ?_);· constructor<;>first|omega|(simp<;>omega))|(refine brk_true ?_ ?_;· first|rfl|(simp only [q1,q2,q3,q4,q7,q8,ne_eq,q5,q6];omega))|(refine brk_false ?_ ?_;· first|rfl|(simp only [q1,q2,q3,q4,q7,q8,ne_eq,q5,q6];omega))|(intro aa uu;(try dsimp only at uu);have okk:=uu.ok;have nxx:=uu.next;have lkk:=uu.lock;have imm:=uu.imp))
    try conv=>whnf
    exact ⟨(by repeat first|with_reducible assumption|refine Upd.flOf (by assumption) ?_|refine New.flOf (by assumption) ?_|refine Ke.flOf (by assumption) ?_|exact hfl|exact rfl), (fun j hj => by repeat first|((with_reducible refine uN (by assumption) ?_ ?_);· omega)|((with_reducible refine nN (by assumption) ?_ ?_);· omega)|exact rfl)⟩
  · have u3:=U3 E;have s3:=S3 E;have a3:=A3 E
    have u9:=U9 E;have s9:=S9 E
    have u22:=U22 E;have s22:=S22 E
    have u24:=U24 E;have s24:=S24 E
    have u25:=U25 E;have s25:=S25 E
    have u26:=U26 E;have s26:=S26 E
    have u27:=U27 E;have s27:=S27 E
    have u29:=U29 E;have s29:=S29 E
    have u41:=U41 E;have s41:=S41 E
    have u54:=U54 E;have s54:=S54 E
    have hl := beq_less hlk
    refine mut_to (by omega) rfl (E.no 14 _ _ rfl) (by first | exact .inl rfl | exact .inr rfl) hl ((E.fn 14).trans Tryz.func14) rfl hok ?_
    conv => whnf
    refine ⟨by simp [Tryz.f14], ?_⟩
    repeat ((conv=>whnf);first|((with_reducible refine Exists.intro ?_ (Exists.intro ?_ (And.intro (a:=_=some (Blk.cells _ _)) ?_ ?_)));rotate_left 2;· (try dsimp only);(repeat first|with_reducible assumption|with_reducible exact uA (by assumption)|with_reducible exact nA (by assumption)|((with_reducible refine uN (by assumption) ?_ ?_);· omega)|((with_reducible refine nN (by assumption) ?_ ?_);· omega)))|((with_reducible refine Exists.intro ?_ (And.intro ?_ ?_));rotate_left;· first|with_reducible assumption|((conv=>lhs;arg 2;whnf);with_reducible assumption)|exact rfl)|((with_reducible refine And.intro (a:=AH.may _ _=true) ?_ ?_);· (try dsimp only);(repeat first|with_reducible assumption|((with_reducible refine New.mayNew (by assumption) (by assumption) ?_ ?_ ?_)<;>omega)|refine Upd.mayOf (by assumption) ?_|refine New.mayOf (by assumption) ?_|refine Ke.mayOf (by assumption) ?_))|((with_reducible refine And.intro (a:=szOf _ _=_) ?_ ?_);· refine Eq.trans (by assumption) ?_;kernel_rfl)|((with_reducible refine And.intro (a:=List.all _ _=true) ?_ ?_);· kernel_rfl)|((with_reducible refine And.intro (a:=_=_) ?_ ?_);· first|with_reducible assumption|rfl)|((with_reducible refine And.intro (a:=_≤_) ?_ ?_);· first|omega|exact sz_ok|exact Nat.le_of_ble_eq_true (by kernel_rfl))|((with_reducible refine And.intro (a:=_<_) ?_ ?_);· omega)|((with_reducible refine And.intro (a:=_∧_) ?_ ?_);· constructor<;>first|omega|(simp<;>omega))|(refine brk_true ?_ ?_;· first|rfl|(simp only [q1,q2,q3,q4,q7,q8,ne_eq,q5,q6];omega))|(refine brk_false ?_ ?_;· first|rfl|(simp only [q1,q2,q3,q4,q7,q8,ne_eq,q5,q6];omega))|(intro aa uu;(try dsimp only at uu);have okk:=uu.ok;have nxx:=uu.next;have lkk:=uu.lock;have imm:=uu.imp))
    try conv=>whnf
    exact ⟨(by repeat first|with_reducible assumption|refine Upd.flOf (by assumption) ?_|refine New.flOf (by assumption) ?_|refine Ke.flOf (by assumption) ?_|exact hfl|exact rfl), (fun j hj => by repeat first|((with_reducible refine uN (by assumption) ?_ ?_);· omega)|((with_reducible refine nN (by assumption) ?_ ?_);· omega)|exact rfl)⟩

/-- The state of the first question: there is none. -/
def gU (r : Bool) (_ : Unit) : Option Unit := match r with | true => none | false => some ()
theorem at1_ok (E : Alike P Tryz.prog base walkG) {K L : Nat} {h0 : AH} {kk : Int} {r : Bool} {c1 c2 c3 c4 c5 c6 c7 : Value} (hk : (kk = 0 ∧ r = false) ∨ (kk = 1 ∧ r = false) ∨ (kk = 2 ∧ r = true) ∨ (kk = 3 ∧ r = false) ∨ (kk = 4 ∧ r = true)) :
    HoldsAt P G ext base K h0 L 1 5 (.func (.func 14) #[] #[]) (fun _ _ => True) [.int .i64 kk, c1, c2, c3, c4, c5, c6, c7] (gU r) := by
  intro d h s hd ho hn _
  obtain ⟨v, h', e1, e2, e3, p1, p2, p3, p4, p5, p6⟩ := at1_m (c1 := c1) (c2 := c2) (c3 := c3) (c4 := c4) (c5 := c5) (c6 := c6) (c7 := c7) (ext := ext) (G := G) E hk hd ho.ok ho.lk (by omega)
  refine ⟨v, h', callB_by ((E.fn 14).trans Tryz.func14) rfl e1, e2, ?_, ⟨p1, p2, p3, p4, p5, fun j hj _ => p6 j hj⟩, fun _ _ => trivial⟩
  rw [e3]
  cases r <;> rfl
theorem asks1 {K L : Nat} (hKL : K ≤ L) : Asks K L (.func (.func 14) #[] #[]) (fun (_ : Unit) _ => True) := ⟨rfl, rfl, hKL, fun _ _ _ _ _ => trivial⟩

theorem asks2 {K L bo bt y : Nat} (hKL : K ≤ L) : Asks K L (.func (.func 15) #[] #[pt bo, pt bt, pt y]) (StA P L bo y) := by
  refine ⟨rfl, rfl, hKL, ?_⟩
  rintro A h h' ⟨v, c, a1, a2, a3, a4, a5, a6, a7, a8, a9, a10⟩ ⟨x1, x2, x3, x4, x5, x6⟩
  refine ⟨v, c, (x6 y a5).trans a1, may_of x3 x4 a2, may_of x3 x4 a3, by omega, by omega, a6, a7, (x6 bo a4).trans a8, a9.mono (fun hz => x6 c ?_) x2 x3 x4, a10⟩
  rcases a9 with ⟨z, _⟩ | ⟨_, _, _, _, z⟩
  · exact absurd z hz
  · exact z

theorem at2_arr (E : Alike P Tryz.prog base walkG) {K L bo bt y : Nat} {h0 : AH} {v : Value} (hv : oneB v = true) : HoldsAt P G ext base K h0 L 1 5 (.func (.func 15) #[] #[pt bo, pt bt, pt y]) (StA P L bo y) (itM v) some := by
  intro d h s hd ho hn hs
  obtain ⟨hok, hlk, him, hln, hfl, hag⟩ := ho
  have hx : ∃ u h', deepF P G ext 2199023255552 base mtG d 15 [.agg ⟨itM v⟩, pt bo, pt bt, pt y] h = some (u, some h') ∧ HOK h' ∧ (u = .bool false ∧ h.next ≤ h'.next ∧ h'.next ≤ h.next + 5 ∧ h'.lock = h.lock ∧ h'.imp = h.imp ∧ h'.fl = h.fl ∧ ∀ j, j < h.next → h'.get j = h.get j) := by
    have u3:=U3 E;have s3:=S3 E;have a3:=A3 E
    have u9:=U9 E;have s9:=S9 E;have a9:=A9 E
    have u22:=U22 E;have s22:=S22 E
    have u24:=U24 E;have s24:=S24 E;have a24:=A24 E;have e24:=Z24 E
    have u25:=U25 E;have s25:=S25 E
    have u26:=U26 E;have s26:=S26 E
    have u27:=U27 E;have s27:=S27 E
    have u29:=U29 E;have s29:=S29 E
    have u32:=U32 E;have s32:=S32 E;have a32:=A32 E
    have u41:=U41 E;have s41:=S41 E
    have u54:=U54 E;have s54:=S54 E
    have u61:=U61 E;have s61:=S61 E;have a61:=A61 E
    have u65:=U65 E;have s65:=S65 E
    have u67:=U67 E;have s67:=S67 E;have a67:=A67 E
    have u84:=U84 E;have s84:=S84 E
    have hl := beq_less hlk
    refine mut_to (by omega) rfl (E.no 15 _ _ rfl) (by first | exact .inl rfl | exact .inr rfl) hl ((E.fn 15).trans Tryz.func15) rfl hok ?_
    conv => whnf
    refine ⟨by simp [Tryz.f15], ?_⟩
    repeat ((conv=>whnf);first|((with_reducible refine Exists.intro ?_ (Exists.intro ?_ (And.intro (a:=_=some (Blk.cells _ _)) ?_ ?_)));rotate_left 2;· (try dsimp only);(repeat first|with_reducible assumption|with_reducible exact uA (by assumption)|with_reducible exact nA (by assumption)|((with_reducible refine uN (by assumption) ?_ ?_);· omega)|((with_reducible refine nN (by assumption) ?_ ?_);· omega)))|((with_reducible refine Exists.intro ?_ (And.intro ?_ ?_));rotate_left;· first|with_reducible assumption|((conv=>lhs;arg 2;whnf);with_reducible assumption)|exact rfl)|((with_reducible refine And.intro (a:=AH.may _ _=true) ?_ ?_);· (try dsimp only);(repeat first|with_reducible assumption|((with_reducible refine New.mayNew (by assumption) (by assumption) ?_ ?_ ?_)<;>omega)|refine Upd.mayOf (by assumption) ?_|refine New.mayOf (by assumption) ?_|refine Ke.mayOf (by assumption) ?_))|((with_reducible refine And.intro (a:=szOf _ _=_) ?_ ?_);· refine Eq.trans (by assumption) ?_;kernel_rfl)|((with_reducible refine And.intro (a:=List.all _ _=true) ?_ ?_);· kernel_rfl)|((with_reducible refine And.intro (a:=_=_) ?_ ?_);· first|with_reducible assumption|rfl)|((with_reducible refine And.intro (a:=_≤_) ?_ ?_);· first|omega|exact sz_ok|exact Nat.le_of_ble_eq_true (by kernel_rfl))|((with_reducible refine And.intro (a:=_<_) ?_ ?_);· omega)|((with_reducible refine And.intro (a:=_∧_) ?_ ?_);· constructor<;>first|omega|(simp<;>omega))|(refine brk_true ?_ ?_;· first|rfl|(simp only [q1,q2,q3,q4,q7,q8,ne_eq,q5,q6];omega))|(refine brk_false ?_ ?_;· first|rfl|(simp only [q1,q2,q3,q4,q7,q8,ne_eq,q5,q6];omega))|(intro aa uu;(try dsimp only at uu);have okk:=uu.ok;have nxx:=uu.next;have lkk:=uu.lock;have imm:=uu.imp))
    try conv=>whnf
    exact ⟨(by repeat first|with_reducible assumption|refine Upd.flOf (by assumption) ?_|refine New.flOf (by assumption) ?_|refine Ke.flOf (by assumption) ?_|exact hfl|exact rfl), (fun j hj => by repeat first|((with_reducible refine uN (by assumption) ?_ ?_);· omega)|((with_reducible refine nN (by assumption) ?_ ?_);· omega)|exact rfl)⟩
  obtain ⟨u, h', e1, e2, rfl, p1, p2, p3, p4, p5, p6⟩ := hx
  refine ⟨_, h', callB_by ((E.fn 15).trans Tryz.func15) rfl e1, e2, rfl, ⟨p1, p2, p3, p4, p5, fun j hj _ => p6 j hj⟩, fun s' hs' => ?_⟩
  cases hs'
  exact (asks2 (P := P) (K := 0) (bt := bt) (Nat.zero_le L)).st s h h' hs ⟨e2, p1, p3, p4, p5, p6⟩

set_option maxHeartbeats 4000000 in
theorem at2_m (E : Alike P Tryz.prog base walkG) {K L d bo bt y : Nat} {h0 : AH} {A : List (Int × ByteArray)} {k : Int} {s : ByteArray} {h : AH} (hd : 1 ≤ d) (ho : OpG K h0 L h) (hn : h.next + 10 < 16000000) (hs : StA P L bo y A h) (hy : bo ≠ y) (hKo : K ≤ bo) (hKy : K ≤ y) (hoL : bo < L) (hyL : y < L) (hbl : bl s ≤ 4194304) (hb0 : 0 < bl s) :
    Tells K L 8 (StA P L bo y) (gA k s) A h (deepF P G ext 2199023255552 base mtG d 15 [.agg ⟨itA k s⟩, pt bo, pt bt, pt y] h) := by
  obtain ⟨hok, hlk, him, hln, hfl, hag⟩ := ho
  obtain ⟨v, c, g2, m1, m2, l1, l2, la, lb, g1, ac, lc⟩ := hs
  obtain ⟨i, hi1, hi2, hi3⟩ := infA
  have hfa := flA_len A
  have hbs : bl s = s.data.toList.length := rfl
  have hd1 : (A.length + 1) * (i.bytes + 1) ≤ 65537 * 1001 := Nat.mul_le_mul (by omega) (by omega)
  have u3:=U3 E;have s3:=S3 E;have a3:=A3 E
  have u9:=U9 E;have s9:=S9 E;have a9:=A9 E
  have u22:=U22 E;have s22:=S22 E
  have u24:=U24 E;have s24:=S24 E;have a24:=A24 E;have e24:=Z24 E
  have u25:=U25 E;have s25:=S25 E
  have u26:=U26 E;have s26:=S26 E
  have u27:=U27 E;have s27:=S27 E
  have u29:=U29 E;have s29:=S29 E
  have u32:=U32 E;have s32:=S32 E;have a32:=A32 E
  have u41:=U41 E;have s41:=S41 E
  have u54:=U54 E;have s54:=S54 E
  have u61:=U61 E;have s61:=S61 E;have a61:=A61 E
  have u65:=U65 E;have s65:=S65 E
  have u67:=U67 E;have s67:=S67 E;have a67:=A67 E
  have u84:=U84 E;have s84:=S84 E
  have hl := beq_less hlk
  refine mut_to (by omega) rfl (E.no 15 _ _ rfl) (by first | exact .inl rfl | exact .inr rfl) hl ((E.fn 15).trans Tryz.func15) rfl hok ?_
  conv => whnf
  refine ⟨by simp [Tryz.f15], ?_⟩
  repeat ((conv=>whnf);first|((with_reducible refine Exists.intro ?_ (Exists.intro ?_ (And.intro (a:=_=some (Blk.cells _ _)) ?_ ?_)));rotate_left 2;· (try dsimp only);(repeat first|with_reducible assumption|with_reducible exact uA (by assumption)|with_reducible exact nA (by assumption)|((with_reducible refine uN (by assumption) ?_ ?_);· omega)|((with_reducible refine nN (by assumption) ?_ ?_);· omega)))|((with_reducible refine Exists.intro ?_ (And.intro ?_ ?_));rotate_left;· first|with_reducible assumption|((conv=>lhs;arg 2;whnf);with_reducible assumption)|exact rfl)|((with_reducible refine And.intro (a:=AH.may _ _=true) ?_ ?_);· (try dsimp only);(repeat first|with_reducible assumption|((with_reducible refine New.mayNew (by assumption) (by assumption) ?_ ?_ ?_)<;>omega)|refine Upd.mayOf (by assumption) ?_|refine New.mayOf (by assumption) ?_|refine Ke.mayOf (by assumption) ?_))|((with_reducible refine And.intro (a:=szOf _ _=_) ?_ ?_);· refine Eq.trans (by assumption) ?_;kernel_rfl)|((with_reducible refine And.intro (a:=List.all _ _=true) ?_ ?_);· kernel_rfl)|((with_reducible refine And.intro (a:=_=_) ?_ ?_);· first|with_reducible assumption|rfl)|((with_reducible refine And.intro (a:=_≤_) ?_ ?_);· first|omega|exact sz_ok|exact Nat.le_of_ble_eq_true (by kernel_rfl))|((with_reducible refine And.intro (a:=_<_) ?_ ?_);· omega)|((with_reducible refine And.intro (a:=_∧_) ?_ ?_);· constructor<;>first|omega|(simp<;>omega))|(refine brk_true ?_ ?_;· first|rfl|(simp only [q1,q2,q3,q4,q7,q8,ne_eq,q5,q6];omega))|(refine brk_false ?_ ?_;· first|rfl|(simp only [q1,q2,q3,q4,q7,q8,ne_eq,q5,q6];omega))|(intro aa uu;(try dsimp only at uu);have okk:=uu.ok;have nxx:=uu.next;have lkk:=uu.lock;have imm:=uu.imp))
  try conv=>whnf
  rename_i x1 u1 o1 n1 l1' i1
  have hcn : A.length ≠ 0 → c < h.next := fun hz => by
    rcases ac with ⟨z, _⟩ | ⟨_, _, _, _, z⟩
    · exact absurd z hz
    · exact z
  have v5 : New x1 aa (.cells ⟨[.int .i64 k, .string s]⟩ .no) := uu
  have v6 := v5.at
  have ac1 : Acc 1 24 aa c v A.length (flA A) := ac.mono (fun hz => by
    have := hcn hz
    rw [v5.get, if_neg (by omega), u1.get, if_neg (by omega)]) (by omega) (by omega) (by omega)
  have hcc : c = 33554432 ∨ c < h.next := by
    rcases ac with ⟨_, _, _, z⟩ | ⟨_, _, _, _, z⟩
    · exact .inl z
    · exact .inr z
  obtain ⟨o5, x5, x6, e6, u5, u6⟩ := app1 (c2 := 1) okk u32 ((E.inf 24).trans hi1) (Z24 E) (by rw [hi2]; rfl) (e := 1) (by rw [hi2]) v6 rfl rfl ac1 (by omega) (by omega) (by omega)
  refine ⟨_, _, append_of e6, u6.ok, ?_⟩
  have y1 := u5.next
  have y2 := u5.lock
  have y3 := u5.imp
  have y4 := u6.next
  have y5 := u6.lock
  have y6 := u6.imp
  have y7 := u6.ok
  have y8 : x6.get bo = some (.cells #[v] (tyOf P 32)) := by
    rw [u6.get, if_neg (by omega), u5.get, if_neg (by omega), v5.get, if_neg (by omega), u1.get, if_neg (by omega)]
    exact g1
  have y9 : x6.may bo = true := may_of (by omega) (by omega) m1
  repeat ((conv=>whnf);first|((with_reducible refine Exists.intro ?_ (Exists.intro ?_ (And.intro (a:=_=some (Blk.cells _ _)) ?_ ?_)));rotate_left 2;· (try dsimp only);(repeat first|with_reducible assumption|with_reducible exact uA (by assumption)|with_reducible exact nA (by assumption)|((with_reducible refine uN (by assumption) ?_ ?_);· omega)|((with_reducible refine nN (by assumption) ?_ ?_);· omega)))|((with_reducible refine Exists.intro ?_ (And.intro ?_ ?_));rotate_left;· first|with_reducible assumption|((conv=>lhs;arg 2;whnf);with_reducible assumption)|exact rfl)|((with_reducible refine And.intro (a:=AH.may _ _=true) ?_ ?_);· (try dsimp only);(repeat first|with_reducible assumption|((with_reducible refine New.mayNew (by assumption) (by assumption) ?_ ?_ ?_)<;>omega)|refine Upd.mayOf (by assumption) ?_|refine New.mayOf (by assumption) ?_|refine Ke.mayOf (by assumption) ?_))|((with_reducible refine And.intro (a:=szOf _ _=_) ?_ ?_);· refine Eq.trans (by assumption) ?_;kernel_rfl)|((with_reducible refine And.intro (a:=List.all _ _=true) ?_ ?_);· kernel_rfl)|((with_reducible refine And.intro (a:=_=_) ?_ ?_);· first|with_reducible assumption|rfl)|((with_reducible refine And.intro (a:=_≤_) ?_ ?_);· first|omega|exact sz_ok|exact Nat.le_of_ble_eq_true (by kernel_rfl))|((with_reducible refine And.intro (a:=_<_) ?_ ?_);· omega)|((with_reducible refine And.intro (a:=_∧_) ?_ ?_);· constructor<;>first|omega|(simp<;>omega))|(refine brk_true ?_ ?_;· first|rfl|(simp only [q1,q2,q3,q4,q7,q8,ne_eq,q5,q6];omega))|(refine brk_false ?_ ?_;· first|rfl|(simp only [q1,q2,q3,q4,q7,q8,ne_eq,q5,q6];omega))|(intro aa uu;(try dsimp only at uu);have okk:=uu.ok;have nxx:=uu.next;have lkk:=uu.lock;have imm:=uu.imp))
  try conv=>whnf
  rename_i a4 v4 o4 n4 l4 i4
  have w1 : aa.get y = some (.cells #[.int .i64 (byA A : Nat)] (tyOf P 3)) := by
    rw [uu.get, if_neg (by omega), u6.get, if_neg (by omega), u5.get, if_neg (by omega), v5.get, if_neg (by omega), u1.get, if_neg (by omega)]
    exact g2
  have w2 : aa.get bo = some (.cells #[sl a4.next (A.length + 1)] (tyOf P 32)) := uu.at
  have w3 : aa.get a4.next = some (.cells ⟨flA A ++ [.int .i64 k, .string s]⟩ (.up 1 (some 24))) := by
    rw [uu.get, if_neg (by omega), u6.get, if_pos (by omega)]
  have w1' : aa.locked.get y = some (.cells #[.int .i64 (byA A : Nat)] (tyOf P 3)) := w1
  have w2' : aa.locked.get bo = some (.cells #[sl a4.next (A.length + 1)] (tyOf P 32)) := w2
  have w3' : aa.locked.get a4.next = some (.cells ⟨flA A ++ [.int .i64 k, .string s]⟩ (.up 1 (some 24))) := w3
  have w4 := okk.locked
  have w5 : aa.may y = true := may_of (by omega) (by omega) m2
  have w6 := flA_last A k s
  repeat ((conv=>whnf);first|((with_reducible refine Exists.intro ?_ (Exists.intro ?_ (And.intro (a:=_=some (Blk.cells _ _)) ?_ ?_)));rotate_left 2;· (try dsimp only [List.getLast_singleton, List.getLast_cons_cons, List.cons_append, List.append_eq, List.nil_append]);(repeat first|with_reducible assumption|with_reducible exact uA (by assumption)|with_reducible exact nA (by assumption)|((with_reducible refine uN (by assumption) ?_ ?_);· omega)|((with_reducible refine nN (by assumption) ?_ ?_);· omega)))|((with_reducible refine Exists.intro ?_ (And.intro ?_ ?_));rotate_left;· first|with_reducible assumption|((conv=>lhs;arg 2;whnf);with_reducible assumption)|exact rfl)|((with_reducible refine And.intro (a:=AH.may _ _=true) ?_ ?_);· (try dsimp only);(repeat first|with_reducible assumption|((with_reducible refine New.mayNew (by assumption) (by assumption) ?_ ?_ ?_)<;>omega)|refine Upd.mayOf (by assumption) ?_|refine New.mayOf (by assumption) ?_|refine Ke.mayOf (by assumption) ?_))|((with_reducible refine And.intro (a:=szOf _ _=_) ?_ ?_);· refine Eq.trans (by assumption) ?_;kernel_rfl)|((with_reducible refine And.intro (a:=List.all _ _=true) ?_ ?_);· kernel_rfl)|((with_reducible refine And.intro (a:=_=_) ?_ ?_);· first|with_reducible assumption|rfl|exact sameL_int)|((with_reducible refine And.intro (a:=_≤_) ?_ ?_);· first|omega|exact sz_ok|exact Nat.le_of_ble_eq_true (by kernel_rfl))|((with_reducible refine And.intro (a:=_<_) ?_ ?_);· omega)|((with_reducible refine And.intro (a:=_∧_) ?_ ?_);· constructor<;>first|omega|(simp<;>omega))|(refine brk_true ?_ ?_;· first|rfl|(simp only [q1,q2,q3,q4,q7,q8,ne_eq,q5,q6];omega))|(refine brk_false ?_ ?_;· first|rfl|(simp only [q1,q2,q3,q4,q7,q8,ne_eq,q5,q6];omega))|(intro aa uu;(try dsimp only at uu);have okk:=uu.ok;have nxx:=uu.next;have lkk:=uu.lock;have imm:=uu.imp))
  try conv=>whnf
  refine ⟨_, atT w6, ?_⟩
  repeat ((conv=>whnf);first|((with_reducible refine Exists.intro ?_ (Exists.intro ?_ (And.intro (a:=_=some (Blk.cells _ _)) ?_ ?_)));rotate_left 2;· (try dsimp only [List.getLast_singleton, List.getLast_cons_cons, List.cons_append, List.append_eq, List.nil_append]);(repeat first|with_reducible assumption|with_reducible exact uA (by assumption)|with_reducible exact nA (by assumption)|((with_reducible refine uN (by assumption) ?_ ?_);· omega)|((with_reducible refine nN (by assumption) ?_ ?_);· omega)))|((with_reducible refine Exists.intro ?_ (And.intro ?_ ?_));rotate_left;· first|with_reducible assumption|((conv=>lhs;arg 2;whnf);with_reducible assumption)|exact rfl)|((with_reducible refine And.intro (a:=AH.may _ _=true) ?_ ?_);· (try dsimp only);(repeat first|with_reducible assumption|((with_reducible refine New.mayNew (by assumption) (by assumption) ?_ ?_ ?_)<;>omega)|refine Upd.mayOf (by assumption) ?_|refine New.mayOf (by assumption) ?_|refine Ke.mayOf (by assumption) ?_))|((with_reducible refine And.intro (a:=szOf _ _=_) ?_ ?_);· refine Eq.trans (by assumption) ?_;kernel_rfl)|((with_reducible refine And.intro (a:=List.all _ _=true) ?_ ?_);· kernel_rfl)|((with_reducible refine And.intro (a:=_=_) ?_ ?_);· first|with_reducible assumption|rfl|exact sameL_int)|((with_reducible refine And.intro (a:=_≤_) ?_ ?_);· first|omega|exact sz_ok|exact Nat.le_of_ble_eq_true (by kernel_rfl))|((with_reducible refine And.intro (a:=_<_) ?_ ?_);· omega)|((with_reducible refine And.intro (a:=_∧_) ?_ ?_);· constructor<;>first|omega|(simp<;>omega))|(refine brk_true ?_ ?_;· first|rfl|(simp only [q1,q2,q3,q4,q7,q8,ne_eq,q5,q6];omega))|(refine brk_false ?_ ?_;· first|rfl|(simp only [q1,q2,q3,q4,q7,q8,ne_eq,q5,q6];omega))|(intro aa uu;(try dsimp only at uu);have okk:=uu.ok;have nxx:=uu.next;have lkk:=uu.lock;have imm:=uu.imp))
  try conv=>whnf
  refine .inr ?_
  repeat ((conv=>whnf);first|((with_reducible refine Exists.intro ?_ (Exists.intro ?_ (And.intro (a:=_=some (Blk.cells _ _)) ?_ ?_)));rotate_left 2;· (try dsimp only [List.getLast_singleton, List.getLast_cons_cons, List.cons_append, List.append_eq, List.nil_append]);(repeat first|with_reducible assumption|with_reducible exact uA (by assumption)|with_reducible exact nA (by assumption)|((with_reducible refine uN (by assumption) ?_ ?_);· omega)|((with_reducible refine nN (by assumption) ?_ ?_);· omega)))|((with_reducible refine Exists.intro ?_ (And.intro ?_ ?_));rotate_left;· first|with_reducible assumption|((conv=>lhs;arg 2;whnf);with_reducible assumption)|exact rfl)|((with_reducible refine And.intro (a:=AH.may _ _=true) ?_ ?_);· (try dsimp only);(repeat first|with_reducible assumption|((with_reducible refine New.mayNew (by assumption) (by assumption) ?_ ?_ ?_)<;>omega)|refine Upd.mayOf (by assumption) ?_|refine New.mayOf (by assumption) ?_|refine Ke.mayOf (by assumption) ?_))|((with_reducible refine And.intro (a:=szOf _ _=_) ?_ ?_);· refine Eq.trans (by assumption) ?_;kernel_rfl)|((with_reducible refine And.intro (a:=List.all _ _=true) ?_ ?_);· kernel_rfl)|((with_reducible refine And.intro (a:=_=_) ?_ ?_);· first|with_reducible assumption|rfl|exact sameL_int)|((with_reducible refine And.intro (a:=_≤_) ?_ ?_);· first|omega|exact sz_ok|exact Nat.le_of_ble_eq_true (by kernel_rfl))|((with_reducible refine And.intro (a:=_<_) ?_ ?_);· omega)|((with_reducible refine And.intro (a:=_∧_) ?_ ?_);· constructor<;>first|omega|(simp<;>omega))|(refine brk_true ?_ ?_;· first|rfl|(simp only [q1,q2,q3,q4,q7,q8,ne_eq,q5,q6];omega))|(refine brk_false ?_ ?_;· first|rfl|(simp only [q1,q2,q3,q4,q7,q8,ne_eq,q5,q6];omega))|(intro aa uu;(try dsimp only at uu);have okk:=uu.ok;have nxx:=uu.next;have lkk:=uu.lock;have imm:=uu.imp))
  try conv=>whnf
  refine And.intro (same_ne (x := (byA A : Int) + (s.data.toList.length : Int)) (y := (byA A : Int)) (by omega)) ?_
  repeat ((conv=>whnf);first|((with_reducible refine Exists.intro ?_ (Exists.intro ?_ (And.intro (a:=_=some (Blk.cells _ _)) ?_ ?_)));rotate_left 2;· (try dsimp only [List.getLast_singleton, List.getLast_cons_cons, List.cons_append, List.append_eq, List.nil_append]);(repeat first|with_reducible assumption|with_reducible exact uA (by assumption)|with_reducible exact nA (by assumption)|((with_reducible refine uN (by assumption) ?_ ?_);· omega)|((with_reducible refine nN (by assumption) ?_ ?_);· omega)))|((with_reducible refine Exists.intro ?_ (And.intro ?_ ?_));rotate_left;· first|with_reducible assumption|((conv=>lhs;arg 2;whnf);with_reducible assumption)|exact rfl)|((with_reducible refine And.intro (a:=AH.may _ _=true) ?_ ?_);· (try dsimp only);(repeat first|with_reducible assumption|((with_reducible refine New.mayNew (by assumption) (by assumption) ?_ ?_ ?_)<;>omega)|refine Upd.mayOf (by assumption) ?_|refine New.mayOf (by assumption) ?_|refine Ke.mayOf (by assumption) ?_))|((with_reducible refine And.intro (a:=szOf _ _=_) ?_ ?_);· refine Eq.trans (by assumption) ?_;kernel_rfl)|((with_reducible refine And.intro (a:=List.all _ _=true) ?_ ?_);· kernel_rfl)|((with_reducible refine And.intro (a:=_=_) ?_ ?_);· first|with_reducible assumption|rfl|exact sameL_int)|((with_reducible refine And.intro (a:=_≤_) ?_ ?_);· first|omega|exact sz_ok|exact Nat.le_of_ble_eq_true (by kernel_rfl))|((with_reducible refine And.intro (a:=_<_) ?_ ?_);· omega)|((with_reducible refine And.intro (a:=_∧_) ?_ ?_);· constructor<;>first|omega|(simp<;>omega))|(refine brk_true ?_ ?_;· first|rfl|(simp only [q1,q2,q3,q4,q7,q8,ne_eq,q5,q6];omega))|(refine brk_false ?_ ?_;· first|rfl|(simp only [q1,q2,q3,q4,q7,q8,ne_eq,q5,q6];omega))|(intro aa uu;(try dsimp only at uu);have okk:=uu.ok;have nxx:=uu.next;have lkk:=uu.lock;have imm:=uu.imp))
  try conv=>whnf
  rw [last2]
  rename_i a7 v7 o7 n7 l7 i7
  have x1' : aa.get y = some (.cells #[.int .i64 ((byA (A ++ [(k, s)]) : Nat) : Int)] (tyOf P 3)) := by
    rw [byA_app]
    exact uu.at
  have x2 : aa.get bo = some (.cells #[sl a4.next (A.length + 1)] (tyOf P 32)) := by
    rw [uu.get, if_neg (by omega)]
    exact w2
  have x3 : aa.get a4.next = some (.cells ⟨flA (A ++ [(k, s)])⟩ (.up 1 (some 24))) := by
    rw [uu.get, if_neg (by omega), flA_app]
    exact w3
  have x4 : aa.get y = some (.cells #[.int .i64 ((byA A : Int) + (s.data.toList.length : Int))] (tyOf P 3)) := uu.at
  have c1 : aa.next = a7.next := nxx
  have c2 : a7.next = x6.next := n7
  have hlow : ∀ j, j < h.next → j ≠ bo → j ≠ y → j ≠ c → aa.get j = h.get j := fun j hj j1 j2 j3 => by
    rw [uu.get, if_neg j2]
    show a7.get j = _
    rw [v7.get, if_neg j1, u6.get, if_neg (by omega), u5.get, if_neg j3, v5.get, if_neg (by omega), u1.get, if_neg (by omega)]
  have hfl2 : aa.fl = h.fl := by
    rw [uu.fl]
    show a7.fl = _
    rw [v7.fl, u6.fl, u5.fl, v5.fl, u1.fl]
  have hlim : LimG K L 8 h aa := by
    refine ⟨by omega, by omega, by omega, by omega, hfl2, fun j hj hk => hlow j hj ?_ ?_ ?_⟩
    · rcases hk with hk | ⟨hk, _⟩ <;> omega
    · rcases hk with hk | ⟨hk, _⟩ <;> omega
    · rintro rfl
      rcases ac with ⟨_, _, _, z⟩ | ⟨_, _, z, _, _⟩
      · omega
      · rcases hk with hk | ⟨_, hk⟩
        · omega
        · rw [z] at hk
          cases hk
  have hst : A.length + 1 ≤ 65536 → byA A + bl s ≤ 4194304 → StA P L bo y (A ++ [(k, s)]) aa := fun z1 z2 =>
    ⟨sl a4.next (A.length + 1), a4.next, x1', may_of (by omega) (by omega) m1, may_of (by omega) (by omega) m2, by omega, by omega, by simpa using z1, by rw [byA_app]; exact z2, x2,
      .inr ⟨by simp, by simp, x3, may_ge (by omega) (by omega) (by omega), by omega⟩, by omega⟩
  rcases (show 65536 < A.length + 1 ∨ (A.length + 1 ≤ 65536 ∧ 4194304 < byA A + bl s) ∨ (A.length + 1 ≤ 65536 ∧ byA A + bl s ≤ 4194304) by omega) with z | ⟨z, zz⟩ | ⟨z, zz⟩
  · have hg : gA k s A = none := if_neg (by omega)
    repeat ((conv=>whnf);first|((with_reducible refine Exists.intro ?_ (Exists.intro ?_ (And.intro (a:=_=some (Blk.cells _ _)) ?_ ?_)));rotate_left 2;· (try dsimp only);(repeat first|with_reducible assumption|with_reducible exact uA (by assumption)|with_reducible exact nA (by assumption)|((with_reducible refine uN (by assumption) ?_ ?_);· omega)|((with_reducible refine nN (by assumption) ?_ ?_);· omega)))|((with_reducible refine Exists.intro ?_ (And.intro ?_ ?_));rotate_left;· first|with_reducible assumption|((conv=>lhs;arg 2;whnf);with_reducible assumption)|exact rfl)|((with_reducible refine And.intro (a:=AH.may _ _=true) ?_ ?_);· (try dsimp only);(repeat first|with_reducible assumption|((with_reducible refine New.mayNew (by assumption) (by assumption) ?_ ?_ ?_)<;>omega)|refine Upd.mayOf (by assumption) ?_|refine New.mayOf (by assumption) ?_|refine Ke.mayOf (by assumption) ?_))|((with_reducible refine And.intro (a:=szOf _ _=_) ?_ ?_);· refine Eq.trans (by assumption) ?_;kernel_rfl)|((with_reducible refine And.intro (a:=List.all _ _=true) ?_ ?_);· kernel_rfl)|((with_reducible refine And.intro (a:=_=_) ?_ ?_);· first|with_reducible assumption|rfl)|((with_reducible refine And.intro (a:=_≤_) ?_ ?_);· first|omega|exact sz_ok|exact Nat.le_of_ble_eq_true (by kernel_rfl))|((with_reducible refine And.intro (a:=_<_) ?_ ?_);· omega)|((with_reducible refine And.intro (a:=_∧_) ?_ ?_);· constructor<;>first|omega|(simp<;>omega))|(refine brk_true ?_ ?_;· first|rfl|(simp only [q1,q2,q3,q4,q7,q8,ne_eq,q5,q6];omega))|(refine brk_false ?_ ?_;· first|rfl|(simp only [q1,q2,q3,q4,q7,q8,ne_eq,q5,q6];omega))|(intro aa uu;(try dsimp only at uu);have okk:=uu.ok;have nxx:=uu.next;have lkk:=uu.lock;have imm:=uu.imp))
    try conv=>whnf
    exact ⟨congrArg Value.bool (by rw [hg]; rfl), hlim, fun s' hs' => by rw [hg] at hs'; cases hs'⟩
  · have hg : gA k s A = none := if_neg (by omega)
    repeat ((conv=>whnf);first|((with_reducible refine Exists.intro ?_ (Exists.intro ?_ (And.intro (a:=_=some (Blk.cells _ _)) ?_ ?_)));rotate_left 2;· (try dsimp only);(repeat first|with_reducible assumption|with_reducible exact uA (by assumption)|with_reducible exact nA (by assumption)|((with_reducible refine uN (by assumption) ?_ ?_);· omega)|((with_reducible refine nN (by assumption) ?_ ?_);· omega)))|((with_reducible refine Exists.intro ?_ (And.intro ?_ ?_));rotate_left;· first|with_reducible assumption|((conv=>lhs;arg 2;whnf);with_reducible assumption)|exact rfl)|((with_reducible refine And.intro (a:=AH.may _ _=true) ?_ ?_);· (try dsimp only);(repeat first|with_reducible assumption|((with_reducible refine New.mayNew (by assumption) (by assumption) ?_ ?_ ?_)<;>omega)|refine Upd.mayOf (by assumption) ?_|refine New.mayOf (by assumption) ?_|refine Ke.mayOf (by assumption) ?_))|((with_reducible refine And.intro (a:=szOf _ _=_) ?_ ?_);· refine Eq.trans (by assumption) ?_;kernel_rfl)|((with_reducible refine And.intro (a:=List.all _ _=true) ?_ ?_);· kernel_rfl)|((with_reducible refine And.intro (a:=_=_) ?_ ?_);· first|with_reducible assumption|rfl)|((with_reducible refine And.intro (a:=_≤_) ?_ ?_);· first|omega|exact sz_ok|exact Nat.le_of_ble_eq_true (by kernel_rfl))|((with_reducible refine And.intro (a:=_<_) ?_ ?_);· omega)|((with_reducible refine And.intro (a:=_∧_) ?_ ?_);· constructor<;>first|omega|(simp<;>omega))|(refine brk_true ?_ ?_;· first|rfl|(simp only [q1,q2,q3,q4,q7,q8,ne_eq,q5,q6];omega))|(refine brk_false ?_ ?_;· first|rfl|(simp only [q1,q2,q3,q4,q7,q8,ne_eq,q5,q6];omega))|(intro aa uu;(try dsimp only at uu);have okk:=uu.ok;have nxx:=uu.next;have lkk:=uu.lock;have imm:=uu.imp))
    try conv=>whnf
    refine ⟨?_, hlim, fun s' hs' => by rw [hg] at hs'; cases hs'⟩
    rw [hg]
    exact congrArg Value.bool (decide_eq_true (by omega))
  · have hg : gA k s A = some (A ++ [(k, s)]) := if_pos (by omega)
    repeat ((conv=>whnf);first|((with_reducible refine Exists.intro ?_ (Exists.intro ?_ (And.intro (a:=_=some (Blk.cells _ _)) ?_ ?_)));rotate_left 2;· (try dsimp only);(repeat first|with_reducible assumption|with_reducible exact uA (by assumption)|with_reducible exact nA (by assumption)|((with_reducible refine uN (by assumption) ?_ ?_);· omega)|((with_reducible refine nN (by assumption) ?_ ?_);· omega)))|((with_reducible refine Exists.intro ?_ (And.intro ?_ ?_));rotate_left;· first|with_reducible assumption|((conv=>lhs;arg 2;whnf);with_reducible assumption)|exact rfl)|((with_reducible refine And.intro (a:=AH.may _ _=true) ?_ ?_);· (try dsimp only);(repeat first|with_reducible assumption|((with_reducible refine New.mayNew (by assumption) (by assumption) ?_ ?_ ?_)<;>omega)|refine Upd.mayOf (by assumption) ?_|refine New.mayOf (by assumption) ?_|refine Ke.mayOf (by assumption) ?_))|((with_reducible refine And.intro (a:=szOf _ _=_) ?_ ?_);· refine Eq.trans (by assumption) ?_;kernel_rfl)|((with_reducible refine And.intro (a:=List.all _ _=true) ?_ ?_);· kernel_rfl)|((with_reducible refine And.intro (a:=_=_) ?_ ?_);· first|with_reducible assumption|rfl)|((with_reducible refine And.intro (a:=_≤_) ?_ ?_);· first|omega|exact sz_ok|exact Nat.le_of_ble_eq_true (by kernel_rfl))|((with_reducible refine And.intro (a:=_<_) ?_ ?_);· omega)|((with_reducible refine And.intro (a:=_∧_) ?_ ?_);· constructor<;>first|omega|(simp<;>omega))|(refine brk_true ?_ ?_;· first|rfl|(simp only [q1,q2,q3,q4,q7,q8,ne_eq,q5,q6];omega))|(refine brk_false ?_ ?_;· first|rfl|(simp only [q1,q2,q3,q4,q7,q8,ne_eq,q5,q6];omega))|(intro aa uu;(try dsimp only at uu);have okk:=uu.ok;have nxx:=uu.next;have lkk:=uu.lock;have imm:=uu.imp))
    try conv=>whnf
    refine ⟨?_, hlim, fun s' hs' => ?_⟩
    · rw [hg]
      exact congrArg Value.bool (decide_eq_false (by omega))
    · rw [hg] at hs'
      cases hs'
      exact hst (by omega) (by omega)

theorem at2_atom (E : Alike P Tryz.prog base walkG) {K L bo bt y : Nat} {h0 : AH} {k : Int} {s : ByteArray} (hy : bo ≠ y) (hKo : K ≤ bo) (hKy : K ≤ y) (hoL : bo < L) (hyL : y < L) (hbl : bl s ≤ 4194304) (hb0 : 0 < bl s) :
    HoldsAt P G ext base K h0 L 1 10 (.func (.func 15) #[] #[pt bo, pt bt, pt y]) (StA P L bo y) (itA k s) (gA k s) := by
  intro d h A hd ho hn hs
  obtain ⟨v, h', e1, e2, e3, e4, e5⟩ := at2_m (bt := bt) (ext := ext) (G := G) E hd ho (by omega) hs hy hKo hKy hoL hyL hbl hb0
  exact ⟨v, h', callB_by ((E.fn 15).trans Tryz.func15) rfl e1, e2, e3, e4.more (by omega), e5⟩
end

end
end Go.Proofs.YtibffohcmegooaaGreatDoor.V
