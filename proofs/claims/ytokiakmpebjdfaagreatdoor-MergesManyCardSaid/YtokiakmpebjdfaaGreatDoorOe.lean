/- The order of rows that are all alike. Conditions: none. -/
import Derived.Test.YtokiakmpebjdfaaGreatDoorOc
namespace Go.Proofs.YtokiakmpebjdfaaGreatDoor.V
set_option linter.all false
open Go
noncomputable section

theorem info_ok : (match Tryz.prog.info? 3 with | some i => Nat.beq i.size 1 && Nat.ble i.bytes 1000 | none => false) = true := by kernel_rfl
theorem infI : ∃ i, Tryz.prog.info? 3 = some i ∧ i.size = 1 ∧ i.bytes ≤ 1000 := by
  have h := info_ok
  split at h
  · rename_i i hi
    rw [Bool.and_eq_true] at h
    exact ⟨i, hi, beq_iff.1 h.1, ble_iff.1 h.2⟩
  · cases h

theorem zeros1 (v : Value) : ∀ n, zerosB [v] n = List.replicate n v
  | 0 => rfl
  | n + 1 => by
    show [v] ++ zerosB [v] n = _
    rw [zeros1 v n, List.replicate_succ]
    rfl
theorem put1 (O : List Value) (o : Nat) (v : Value) : putL ⟨O⟩ o [v] = ⟨O.set o v⟩ := by
  simp [putL]
theorem IntsE.set {T : Nat} {O : List Value} (h : IntsE T O) {i z : Nat} (hz : z < T) : IntsE T (O.set i (.int .i64 (z : Int))) := by
  intro x hx
  rcases List.mem_or_eq_of_mem_set hx with h1 | h1
  · exact h x h1
  · exact ⟨z, h1, hz⟩
theorem IntsE.zeros (T : Nat) : IntsE T (List.replicate T (.int .i64 0)) := by
  intro x hx
  obtain ⟨h1, h2⟩ := List.mem_replicate.1 hx
  exact ⟨0, h2, by omega⟩

section
variable {P : Program} {G : Nat} {ext : FuncId → Option Ext} {base : Orc}

set_option maxRecDepth 100000 in
set_option maxHeartbeats 1000000 in
theorem f6_ok (E : Alike P Tryz.prog base walkM) {d br T : Nat} {h : AH} {R : List Value} {gr : Gw} (hT : T ≤ 65536) (hb : h.get br = some (.cells ⟨R⟩ gr)) (hR : RowsE R) (hl : R.length = T) (hbn : br < h.next) (hd : 32 ≤ d) (hok : HOK h) (him : h.imp ≤ h.next) (hn : h.next + 100 < 16777216) :
    ∃ v h', deepF P G ext 2199023255552 base mtM d 6 [sl br T, .slice none 0 0] h = some (v, some h') ∧ HOK h' ∧ (v = .tuple #[sl (h.next + 1) T, .int .i64 0] ∧ (∃ O go, h'.get (h.next + 1) = some (.cells ⟨O⟩ go) ∧ O.length = T ∧ IntsE T O) ∧
      h.next + 1 < h'.next ∧ h'.next ≤ h.next + 10 ∧ h'.lock = h.lock ∧ h'.imp = h.imp ∧ h'.fl = h.fl ∧ ∀ j, j < h.next → h'.get j = h.get j) := by
  obtain ⟨i0, j1, j2, j3⟩ := infI
  have hb2 : h.locked.get br = some (.cells ⟨R⟩ gr) := hb
  have hmul : T * (i0.bytes + 1) ≤ 65536 * 1001 := Nat.mul_le_mul hT (by omega)
  have u3:=U3 E;have s3:=S3 E
  have u4:=U4 E;have s4:=S4 E
  have u9:=U9 E;have s9:=S9 E
  have u22:=U22 E;have s22:=S22 E;have a22:=A22 E
  have u23:=U23 E;have s23:=S23 E;have a23:=A23 E
  have u32:=U32 E;have s32:=S32 E
  have u35:=U35 E;have s35:=S35 E
  have u40:=U40 E;have s40:=S40 E
  have u42:=U42 E;have s42:=S42 E
  have u44:=U44 E;have s44:=S44 E
  have u47:=U47 E;have s47:=S47 E;have e47:=Z47 E
  have u51:=U51 E;have s51:=S51 E
  refine over_to (by omega) rfl (E.no 6 _ _ rfl) rfl ((E.fn 6).trans Tryz.func6) rfl hok ?_
  have hokl := hok.locked
  have hnl : h.locked.next = h.next := rfl
  have hll : h.locked.lock = h.next := rfl
  have hil : h.locked.imp = h.imp := rfl
  have hfll : h.locked.fl = h.fl := rfl
  conv => whnf
  refine ⟨by simp [Tryz.f6], ?_⟩
  repeat ((conv=>whnf);first|((with_reducible refine Exists.intro ?_ (Exists.intro ?_ (And.intro (a:=_=some (Blk.cells _ _)) ?_ ?_)));rotate_left 2;· (try dsimp only);(repeat first|with_reducible assumption|with_reducible exact uA (by assumption)|with_reducible exact nA (by assumption)|((with_reducible refine uN (by assumption) ?_ ?_);· omega)|((with_reducible refine nN (by assumption) ?_ ?_);· omega)))|((with_reducible refine Exists.intro ?_ (And.intro ?_ ?_));rotate_left;· first|with_reducible assumption|((conv=>lhs;arg 2;whnf);with_reducible assumption)|exact rfl)|((with_reducible refine And.intro (a:=AH.may _ _=true) ?_ ?_);· (try dsimp only);(repeat first|with_reducible assumption|((with_reducible refine New.mayNew (by assumption) (by assumption) ?_ ?_ ?_)<;>omega)|refine Upd.mayOf (by assumption) ?_|refine New.mayOf (by assumption) ?_|refine Ke.mayOf (by assumption) ?_))|((with_reducible refine And.intro (a:=szOf _ _=_) ?_ ?_);· refine Eq.trans (by assumption) ?_;kernel_rfl)|((with_reducible refine And.intro (a:=List.all _ _=true) ?_ ?_);· kernel_rfl)|((with_reducible refine And.intro (a:=_=_) ?_ ?_);· first|with_reducible assumption|rfl)|((with_reducible refine And.intro (a:=_≤_) ?_ ?_);· first|omega|exact sz_ok|exact Nat.le_of_ble_eq_true (by kernel_rfl))|((with_reducible refine And.intro (a:=_<_) ?_ ?_);· omega)|((with_reducible refine And.intro (a:=_∧_) ?_ ?_);· constructor<;>first|omega|(simp<;>omega))|(refine brk_true ?_ ?_;· first|rfl|(simp only [q1,q2,q3,q4,q7,q8,ne_eq,q5,q6];omega))|(refine brk_false ?_ ?_;· first|rfl|(simp only [q1,q2,q3,q4,q7,q8,ne_eq,q5,q6];omega))|(intro aa uu;(try dsimp only at uu);have okk:=uu.ok;have nxx:=uu.next;have lkk:=uu.lock;have imm:=uu.imp))
  try conv=>whnf
  obtain ⟨h5, e5, n5⟩ := makeS_new (k1 := .i64) (k2 := .i64) (l := T) (c := T) okk u35 ((E.inf 3).trans j1) (Z3 E) (by rw [j2]; rfl) (Nat.le_refl _) (by omega) (by omega)
  refine ⟨_, _, e5, n5.ok, ?_⟩
  have okk5 := n5.ok
  have nxx5 := n5.next
  have lkk5 := n5.lock
  have imm5 := n5.imp
  have q9 : h5.get aa.next = some (.cells ⟨List.replicate T (.int .i64 0)⟩ .no) := by
    rw [n5.at, show (Value.int .i64 0).cells.toList = [.int .i64 0] from rfl, zeros1]
  have an : aa.next = h.next + 1 := nxx
  have w1 : h5.get h.next = some (.cells #[sl br T] (tyOf P 22)) := by
    rw [n5.get, if_neg (by omega)]
    exact uu.at
  have w2 : h5.get (h.next + 1) = some (.cells ⟨List.replicate T (.int .i64 0)⟩ .no) := by
    rw [← an]; exact q9
  have w3 : sl aa.next T = sl (h.next + 1) T := by rw [an]
  have w4 : h5.may (h.next + 1) = true := by
    rw [← an]; exact n5.mayNew okk (by omega) (by omega) (by omega)
  repeat ((conv=>whnf);first|((with_reducible refine Exists.intro ?_ (Exists.intro ?_ (And.intro (a:=_=some (Blk.cells _ _)) ?_ ?_)));rotate_left 2;· (try dsimp only);(repeat first|with_reducible assumption|with_reducible exact uA (by assumption)|with_reducible exact nA (by assumption)|((with_reducible refine uN (by assumption) ?_ ?_);· omega)|((with_reducible refine nN (by assumption) ?_ ?_);· omega)))|((with_reducible refine Exists.intro ?_ (And.intro ?_ ?_));rotate_left;· first|with_reducible assumption|((conv=>lhs;arg 2;whnf);with_reducible assumption)|exact rfl)|((with_reducible refine And.intro (a:=AH.may _ _=true) ?_ ?_);· (try dsimp only);(repeat first|with_reducible assumption|((with_reducible refine New.mayNew (by assumption) (by assumption) ?_ ?_ ?_)<;>omega)|refine Upd.mayOf (by assumption) ?_|refine New.mayOf (by assumption) ?_|refine Ke.mayOf (by assumption) ?_))|((with_reducible refine And.intro (a:=szOf _ _=_) ?_ ?_);· refine Eq.trans (by assumption) ?_;kernel_rfl)|((with_reducible refine And.intro (a:=List.all _ _=true) ?_ ?_);· kernel_rfl)|((with_reducible refine And.intro (a:=_=_) ?_ ?_);· first|with_reducible assumption|rfl)|((with_reducible refine And.intro (a:=_≤_) ?_ ?_);· first|omega|exact sz_ok|exact Nat.le_of_ble_eq_true (by kernel_rfl))|((with_reducible refine And.intro (a:=_<_) ?_ ?_);· omega)|((with_reducible refine And.intro (a:=_∧_) ?_ ?_);· constructor<;>first|omega|(simp<;>omega))|(refine brk_true ?_ ?_;· first|rfl|(simp only [q1,q2,q3,q4,q7,q8,ne_eq,q5,q6];omega))|(refine brk_false ?_ ?_;· first|rfl|(simp only [q1,q2,q3,q4,q7,q8,ne_eq,q5,q6];omega))|(intro aa uu;(try dsimp only at uu);have okk:=uu.ok;have nxx:=uu.next;have lkk:=uu.lock;have imm:=uu.imp))
  try conv=>whnf
  refine .inl ⟨fun mm env h' => sh 6 env = true ∧ ∃ (i : Nat) (O : List Value), i ≤ T ∧ mm = T - i ∧ has env [(1, .slice none 0 0), (2, pt h.next), (6, sl (h.next + 1) T), (16, sl br T), (17, .int .i64 T), (18, .int .i64 i)] ∧ h'.get h.next = some (.cells #[sl br T] (tyOf P 22)) ∧ h'.get (h.next + 1) = some (.cells ⟨O⟩ .no) ∧ O.length = T ∧ IntsE T O ∧
      h'.may (h.next + 1) = true ∧ h'.next = h.next + 2 ∧ h'.lock = h.next ∧ h'.imp = h.imp ∧ h'.fl = h.fl ∧ (∀ j, j < h.next → h'.get j = h.get j), T, by omega,
    ⟨by kernel_rfl, 0, List.replicate T (.int .i64 0), by omega, by omega, ⟨by kernel_rfl, by kernel_rfl, ?_, by kernel_rfl, by kernel_rfl, by kernel_rfl, trivial⟩, w1, w2, by simp, IntsE.zeros T, w4, by omega, by omega, by omega, (by repeat first|with_reducible assumption|refine Upd.flOf (by assumption) ?_|refine New.flOf (by assumption) ?_|refine Ke.flOf (by assumption) ?_|exact hfl|exact rfl), (fun j hj => by repeat first|((with_reducible refine uN (by assumption) ?_ ?_);· omega)|((with_reducible refine nN (by assumption) ?_ ?_);· omega)|exact rfl)⟩, ?_⟩
  · exact (show _ = some (sl aa.next T) by kernel_rfl).trans (by rw [w3])
  rintro mm env h' hok' ⟨hsh, i, O, hi, hmm, hhas, r1, r2, r3, r4, r5, r6, r7, r8, r9, r10⟩
  rw [env_form hsh hhas]
  have hb3 : h'.get br = some (.cells ⟨R⟩ gr) := (r10 br hbn).trans hb
  repeat ((conv=>whnf);first|((with_reducible refine Exists.intro ?_ (Exists.intro ?_ (And.intro (a:=_=some (Blk.cells _ _)) ?_ ?_)));rotate_left 2;· (try dsimp only);(repeat first|with_reducible assumption|with_reducible exact uA (by assumption)|with_reducible exact nA (by assumption)|((with_reducible refine uN (by assumption) ?_ ?_);· omega)|((with_reducible refine nN (by assumption) ?_ ?_);· omega)))|((with_reducible refine Exists.intro ?_ (And.intro ?_ ?_));rotate_left;· first|with_reducible assumption|((conv=>lhs;arg 2;whnf);with_reducible assumption)|exact rfl)|((with_reducible refine And.intro (a:=AH.may _ _=true) ?_ ?_);· (try dsimp only);(repeat first|with_reducible assumption|((with_reducible refine New.mayNew (by assumption) (by assumption) ?_ ?_ ?_)<;>omega)|refine Upd.mayOf (by assumption) ?_|refine New.mayOf (by assumption) ?_|refine Ke.mayOf (by assumption) ?_))|((with_reducible refine And.intro (a:=szOf _ _=_) ?_ ?_);· refine Eq.trans (by assumption) ?_;kernel_rfl)|((with_reducible refine And.intro (a:=List.all _ _=true) ?_ ?_);· kernel_rfl)|((with_reducible refine And.intro (a:=_=_) ?_ ?_);· first|with_reducible assumption|rfl)|((with_reducible refine And.intro (a:=_≤_) ?_ ?_);· first|omega|exact sz_ok|exact Nat.le_of_ble_eq_true (by kernel_rfl))|((with_reducible refine And.intro (a:=_<_) ?_ ?_);· omega)|((with_reducible refine And.intro (a:=_∧_) ?_ ?_);· constructor<;>first|omega|(simp<;>omega))|(refine brk_true ?_ ?_;· first|rfl|(simp only [q1,q2,q3,q4,q7,q8,ne_eq,q5,q6];omega))|(refine brk_false ?_ ?_;· first|rfl|(simp only [q1,q2,q3,q4,q7,q8,ne_eq,q5,q6];omega))|(intro aa uu;(try dsimp only at uu);have okk:=uu.ok;have nxx:=uu.next;have lkk:=uu.lock;have imm:=uu.imp))
  try conv=>whnf
  refine brk_of (fun hlt => ?_) (fun hge => ?_)
  · have hlt : i < T := by simpa using hlt
    obtain ⟨p, e1⟩ := hR.at (i := i) (by omega)
    have sz_ok : 0 + i * 1 + 1 ≤ O.length := by omega
    repeat ((conv=>whnf);first|((with_reducible refine Exists.intro ?_ (Exists.intro ?_ (And.intro (a:=_=some (Blk.cells _ _)) ?_ ?_)));rotate_left 2;· (try dsimp only);(repeat first|with_reducible assumption|with_reducible exact uA (by assumption)|with_reducible exact nA (by assumption)|((with_reducible refine uN (by assumption) ?_ ?_);· omega)|((with_reducible refine nN (by assumption) ?_ ?_);· omega)))|((with_reducible refine Exists.intro ?_ (And.intro ?_ ?_));rotate_left;· first|with_reducible assumption|((conv=>lhs;arg 2;whnf);with_reducible assumption)|exact rfl)|((with_reducible refine And.intro (a:=AH.may _ _=true) ?_ ?_);· (try dsimp only);(repeat first|with_reducible assumption|((with_reducible refine New.mayNew (by assumption) (by assumption) ?_ ?_ ?_)<;>omega)|refine Upd.mayOf (by assumption) ?_|refine New.mayOf (by assumption) ?_|refine Ke.mayOf (by assumption) ?_))|((with_reducible refine And.intro (a:=szOf _ _=_) ?_ ?_);· refine Eq.trans (by assumption) ?_;kernel_rfl)|((with_reducible refine And.intro (a:=List.all _ _=true) ?_ ?_);· kernel_rfl)|((with_reducible refine And.intro (a:=_=_) ?_ ?_);· first|with_reducible assumption|rfl)|((with_reducible refine And.intro (a:=_≤_) ?_ ?_);· first|omega|exact sz_ok|exact Nat.le_of_ble_eq_true (by kernel_rfl))|((with_reducible refine And.intro (a:=_<_) ?_ ?_);· omega)|((with_reducible refine And.intro (a:=_∧_) ?_ ?_);· constructor<;>first|omega|(simp<;>omega))|(refine brk_true ?_ ?_;· first|rfl|(simp only [q1,q2,q3,q4,q7,q8,ne_eq,q5,q6];omega))|(refine brk_false ?_ ?_;· first|rfl|(simp only [q1,q2,q3,q4,q7,q8,ne_eq,q5,q6];omega))|(intro aa uu;(try dsimp only at uu);have okk:=uu.ok;have nxx:=uu.next;have lkk:=uu.lock;have imm:=uu.imp))
    try conv=>whnf
    refine ⟨_, at0 (z := (i : Int)) e1, ?_⟩
    repeat ((conv=>whnf);first|((with_reducible refine Exists.intro ?_ (Exists.intro ?_ (And.intro (a:=_=some (Blk.cells _ _)) ?_ ?_)));rotate_left 2;· (try dsimp only);(repeat first|with_reducible assumption|with_reducible exact uA (by assumption)|with_reducible exact nA (by assumption)|((with_reducible refine uN (by assumption) ?_ ?_);· omega)|((with_reducible refine nN (by assumption) ?_ ?_);· omega)))|((with_reducible refine Exists.intro ?_ (And.intro ?_ ?_));rotate_left;· first|with_reducible assumption|((conv=>lhs;arg 2;whnf);with_reducible assumption)|exact rfl)|((with_reducible refine And.intro (a:=AH.may _ _=true) ?_ ?_);· (try dsimp only);(repeat first|with_reducible assumption|((with_reducible refine New.mayNew (by assumption) (by assumption) ?_ ?_ ?_)<;>omega)|refine Upd.mayOf (by assumption) ?_|refine New.mayOf (by assumption) ?_|refine Ke.mayOf (by assumption) ?_))|((with_reducible refine And.intro (a:=szOf _ _=_) ?_ ?_);· refine Eq.trans (by assumption) ?_;kernel_rfl)|((with_reducible refine And.intro (a:=List.all _ _=true) ?_ ?_);· kernel_rfl)|((with_reducible refine And.intro (a:=_=_) ?_ ?_);· first|with_reducible assumption|rfl)|((with_reducible refine And.intro (a:=_≤_) ?_ ?_);· first|omega|exact sz_ok|exact Nat.le_of_ble_eq_true (by kernel_rfl))|((with_reducible refine And.intro (a:=_<_) ?_ ?_);· omega)|((with_reducible refine And.intro (a:=_∧_) ?_ ?_);· constructor<;>first|omega|(simp<;>omega))|(refine brk_true ?_ ?_;· first|rfl|(simp only [q1,q2,q3,q4,q7,q8,ne_eq,q5,q6];omega))|(refine brk_false ?_ ?_;· first|rfl|(simp only [q1,q2,q3,q4,q7,q8,ne_eq,q5,q6];omega))|(intro aa uu;(try dsimp only at uu);have okk:=uu.ok;have nxx:=uu.next;have lkk:=uu.lock;have imm:=uu.imp))
    try conv=>whnf
    refine callB_pure ((E.fn 11).trans Tryz.func11) rfl ?_
    refine ⟨by assumption, _, (f11_ok E (by omega) (by assumption)), ?_⟩
    repeat ((conv=>whnf);first|((with_reducible refine Exists.intro ?_ (Exists.intro ?_ (And.intro (a:=_=some (Blk.cells _ _)) ?_ ?_)));rotate_left 2;· (try dsimp only);(repeat first|with_reducible assumption|with_reducible exact uA (by assumption)|with_reducible exact nA (by assumption)|((with_reducible refine uN (by assumption) ?_ ?_);· omega)|((with_reducible refine nN (by assumption) ?_ ?_);· omega)))|((with_reducible refine Exists.intro ?_ (And.intro ?_ ?_));rotate_left;· first|with_reducible assumption|((conv=>lhs;arg 2;whnf);with_reducible assumption)|exact rfl)|((with_reducible refine And.intro (a:=AH.may _ _=true) ?_ ?_);· (try dsimp only);(repeat first|with_reducible assumption|((with_reducible refine New.mayNew (by assumption) (by assumption) ?_ ?_ ?_)<;>omega)|refine Upd.mayOf (by assumption) ?_|refine New.mayOf (by assumption) ?_|refine Ke.mayOf (by assumption) ?_))|((with_reducible refine And.intro (a:=szOf _ _=_) ?_ ?_);· refine Eq.trans (by assumption) ?_;kernel_rfl)|((with_reducible refine And.intro (a:=List.all _ _=true) ?_ ?_);· kernel_rfl)|((with_reducible refine And.intro (a:=_=_) ?_ ?_);· first|with_reducible assumption|rfl)|((with_reducible refine And.intro (a:=_≤_) ?_ ?_);· first|omega|exact sz_ok|exact Nat.le_of_ble_eq_true (by kernel_rfl))|((with_reducible refine And.intro (a:=_<_) ?_ ?_);· omega)|((with_reducible refine And.intro (a:=_∧_) ?_ ?_);· constructor<;>first|omega|(simp<;>omega))|(refine brk_true ?_ ?_;· first|rfl|(simp only [q1,q2,q3,q4,q7,q8,ne_eq,q5,q6];omega))|(refine brk_false ?_ ?_;· first|rfl|(simp only [q1,q2,q3,q4,q7,q8,ne_eq,q5,q6];omega))|(intro aa uu;(try dsimp only at uu);have okk:=uu.ok;have nxx:=uu.next;have lkk:=uu.lock;have imm:=uu.imp))
    try conv=>whnf
    have w5 : aa.get (h.next + 1) = some (.cells ⟨O.set i (.int .i64 (i : Int))⟩ .no) := by
      rw [uu.at]
      show some (Blk.cells (putL ⟨O⟩ (0 + i * 1) [.int .i64 (i : Int)]) .no) = _
      rw [Nat.zero_add, Nat.mul_one, put1]
    have w6 : aa.get h.next = some (.cells #[sl br T] (tyOf P 22)) := by rw [uu.get, if_neg (by omega)]; exact r1
    have w7 : ∀ j, j < h.next → aa.get j = h.get j := fun j hj => by rw [uu.get, if_neg (by omega)]; exact r10 j hj
    exact ⟨T - (i + 1), by omega, by kernel_rfl, i + 1, O.set i (.int .i64 (i : Int)), by omega, rfl, ⟨by kernel_rfl, by kernel_rfl, by kernel_rfl, by kernel_rfl, by kernel_rfl, by kernel_rfl, trivial⟩, w6, w5, by rw [List.length_set]; exact r3, r4.set (by omega), uu.mayOf r5, by omega, by omega, by omega, uu.fl.trans r9, w7⟩
  · have hge : i = T := by have : ¬ i < T := by simpa using hge
                           omega
    subst hge
    repeat ((conv=>whnf);first|((with_reducible refine Exists.intro ?_ (Exists.intro ?_ (And.intro (a:=_=some (Blk.cells _ _)) ?_ ?_)));rotate_left 2;· (try dsimp only);(repeat first|with_reducible assumption|with_reducible exact uA (by assumption)|with_reducible exact nA (by assumption)|((with_reducible refine uN (by assumption) ?_ ?_);· omega)|((with_reducible refine nN (by assumption) ?_ ?_);· omega)))|((with_reducible refine Exists.intro ?_ (And.intro ?_ ?_));rotate_left;· first|with_reducible assumption|((conv=>lhs;arg 2;whnf);with_reducible assumption)|exact rfl)|((with_reducible refine And.intro (a:=AH.may _ _=true) ?_ ?_);· (try dsimp only);(repeat first|with_reducible assumption|((with_reducible refine New.mayNew (by assumption) (by assumption) ?_ ?_ ?_)<;>omega)|refine Upd.mayOf (by assumption) ?_|refine New.mayOf (by assumption) ?_|refine Ke.mayOf (by assumption) ?_))|((with_reducible refine And.intro (a:=szOf _ _=_) ?_ ?_);· refine Eq.trans (by assumption) ?_;kernel_rfl)|((with_reducible refine And.intro (a:=List.all _ _=true) ?_ ?_);· kernel_rfl)|((with_reducible refine And.intro (a:=_=_) ?_ ?_);· first|with_reducible assumption|rfl)|((with_reducible refine And.intro (a:=_≤_) ?_ ?_);· first|omega|exact sz_ok|exact Nat.le_of_ble_eq_true (by kernel_rfl))|((with_reducible refine And.intro (a:=_<_) ?_ ?_);· omega)|((with_reducible refine And.intro (a:=_∧_) ?_ ?_);· constructor<;>first|omega|(simp<;>omega))|(refine brk_true ?_ ?_;· first|rfl|(simp only [q1,q2,q3,q4,q7,q8,ne_eq,q5,q6];omega))|(refine brk_false ?_ ?_;· first|rfl|(simp only [q1,q2,q3,q4,q7,q8,ne_eq,q5,q6];omega))|(intro aa uu;(try dsimp only at uu);have okk:=uu.ok;have nxx:=uu.next;have lkk:=uu.lock;have imm:=uu.imp))
    try conv=>whnf
    refine callB_heap ((E.fn 12).trans Tryz.func12) rfl ?_
    refine ⟨_, (f12_ok E (by omega) (by assumption) (by omega)), ?_⟩
    rintro v h6 hok6 ⟨rfl, a1, a2, a3, a4, a5, a6⟩
    repeat ((conv=>whnf);first|((with_reducible refine Exists.intro ?_ (Exists.intro ?_ (And.intro (a:=_=some (Blk.cells _ _)) ?_ ?_)));rotate_left 2;· (try dsimp only);(repeat first|with_reducible assumption|with_reducible exact uA (by assumption)|with_reducible exact nA (by assumption)|((with_reducible refine uN (by assumption) ?_ ?_);· omega)|((with_reducible refine nN (by assumption) ?_ ?_);· omega)))|((with_reducible refine Exists.intro ?_ (And.intro ?_ ?_));rotate_left;· first|with_reducible assumption|((conv=>lhs;arg 2;whnf);with_reducible assumption)|exact rfl)|((with_reducible refine And.intro (a:=AH.may _ _=true) ?_ ?_);· (try dsimp only);(repeat first|with_reducible assumption|((with_reducible refine New.mayNew (by assumption) (by assumption) ?_ ?_ ?_)<;>omega)|refine Upd.mayOf (by assumption) ?_|refine New.mayOf (by assumption) ?_|refine Ke.mayOf (by assumption) ?_))|((with_reducible refine And.intro (a:=szOf _ _=_) ?_ ?_);· refine Eq.trans (by assumption) ?_;kernel_rfl)|((with_reducible refine And.intro (a:=List.all _ _=true) ?_ ?_);· kernel_rfl)|((with_reducible refine And.intro (a:=_=_) ?_ ?_);· first|with_reducible assumption|rfl)|((with_reducible refine And.intro (a:=_≤_) ?_ ?_);· first|omega|exact sz_ok|exact Nat.le_of_ble_eq_true (by kernel_rfl))|((with_reducible refine And.intro (a:=_<_) ?_ ?_);· omega)|((with_reducible refine And.intro (a:=_∧_) ?_ ?_);· constructor<;>first|omega|(simp<;>omega))|(refine brk_true ?_ ?_;· first|rfl|(simp only [q1,q2,q3,q4,q7,q8,ne_eq,q5,q6];omega))|(refine brk_false ?_ ?_;· first|rfl|(simp only [q1,q2,q3,q4,q7,q8,ne_eq,q5,q6];omega))|(intro aa uu;(try dsimp only at uu);have okk:=uu.ok;have nxx:=uu.next;have lkk:=uu.lock;have imm:=uu.imp))
    try conv=>whnf
    rename_i b1 u1 o1 m1 l1 i1
    have v1 : aa.get h6.next = some (.cells #[.func (.func 18) #[] #[pt h'.next]] (tyOf P 47)) := uu.at
    have v2 : aa.get h'.next = some (.cells #[.slice none 0 0] (tyOf P 32)) := by rw [uu.get, if_neg (by omega), u1.get, if_neg (by omega)]; exact a1
    have v3 : ∀ j, j < h'.next → aa.get j = h'.get j := fun j hj => by rw [uu.get, if_neg (by omega), u1.get, if_neg (by omega)]; exact a6 j hj
    have s9 : OrdS aa (h.next + 1) i h6.next h'.next h.next br i := ⟨⟨O, .no, (v3 _ (by omega)).trans r2, r3, r4⟩, ⟨_, v1⟩, ⟨_, v2⟩, ⟨_, (v3 _ (by omega)).trans r1⟩, ⟨R, gr, (v3 br (by omega)).trans hb3, hR, hl⟩⟩
    refine callB_pure ((E.fn 13).trans Tryz.func13) rfl ?_
    refine ⟨by assumption, _, (f13_ok E s9 (by omega) (by omega) (by assumption)), ?_⟩
    repeat ((conv=>whnf);first|((with_reducible refine Exists.intro ?_ (Exists.intro ?_ (And.intro (a:=_=some (Blk.cells _ _)) ?_ ?_)));rotate_left 2;· (try dsimp only);(repeat first|with_reducible assumption|with_reducible exact uA (by assumption)|with_reducible exact nA (by assumption)|((with_reducible refine uN (by assumption) ?_ ?_);· omega)|((with_reducible refine nN (by assumption) ?_ ?_);· omega)))|((with_reducible refine Exists.intro ?_ (And.intro ?_ ?_));rotate_left;· first|with_reducible assumption|((conv=>lhs;arg 2;whnf);with_reducible assumption)|exact rfl)|((with_reducible refine And.intro (a:=AH.may _ _=true) ?_ ?_);· (try dsimp only);(repeat first|with_reducible assumption|((with_reducible refine New.mayNew (by assumption) (by assumption) ?_ ?_ ?_)<;>omega)|refine Upd.mayOf (by assumption) ?_|refine New.mayOf (by assumption) ?_|refine Ke.mayOf (by assumption) ?_))|((with_reducible refine And.intro (a:=szOf _ _=_) ?_ ?_);· refine Eq.trans (by assumption) ?_;kernel_rfl)|((with_reducible refine And.intro (a:=List.all _ _=true) ?_ ?_);· kernel_rfl)|((with_reducible refine And.intro (a:=_=_) ?_ ?_);· first|with_reducible assumption|rfl)|((with_reducible refine And.intro (a:=_≤_) ?_ ?_);· first|omega|exact sz_ok|exact Nat.le_of_ble_eq_true (by kernel_rfl))|((with_reducible refine And.intro (a:=_<_) ?_ ?_);· omega)|((with_reducible refine And.intro (a:=_∧_) ?_ ?_);· constructor<;>first|omega|(simp<;>omega))|(refine brk_true ?_ ?_;· first|rfl|(simp only [q1,q2,q3,q4,q7,q8,ne_eq,q5,q6];omega))|(refine brk_false ?_ ?_;· first|rfl|(simp only [q1,q2,q3,q4,q7,q8,ne_eq,q5,q6];omega))|(intro aa uu;(try dsimp only at uu);have okk:=uu.ok;have nxx:=uu.next;have lkk:=uu.lock;have imm:=uu.imp))
    try conv=>whnf
    have x1 : ∀ j, j < h.next → aa.get j = h.get j := fun j hj => (v3 j (by omega)).trans (r10 j hj)
    have x2 : aa.fl = h.fl := ((uu.fl.trans u1.fl).trans a5).trans r9
    exact ⟨⟨O, .no, (v3 _ (by omega)).trans r2, r3, r4⟩, by show _ < aa.next; omega, by show aa.next ≤ _; omega, rfl, by show aa.imp = _; omega, x2, x1⟩
end

end
end Go.Proofs.YtokiakmpebjdfaaGreatDoor.V

namespace Go.Proofs.YtokiakmpebjdfaaGreatDoor.V
set_option linter.all false
open Go
noncomputable section

theorem infoR_ok : (match Tryz.prog.info? 23 with | some i => Nat.beq i.size 1 && Nat.ble i.bytes 1000 | none => false) = true := by kernel_rfl
theorem infR : ∃ i, Tryz.prog.info? 23 = some i ∧ i.size = 1 ∧ i.bytes ≤ 1000 := by
  have h := infoR_ok
  split at h
  · rename_i i hi
    rw [Bool.and_eq_true] at h
    exact ⟨i, hi, beq_iff.1 h.1, ble_iff.1 h.2⟩
  · cases h
theorem infoM_ok : (match Tryz.prog.info? 34 with | some i => Nat.beq i.size 2 && Nat.ble i.bytes 1000 | none => false) = true := by kernel_rfl
theorem infM : ∃ i, Tryz.prog.info? 34 = some i ∧ i.size = 2 ∧ i.bytes ≤ 1000 := by
  have h := infoM_ok
  split at h
  · rename_i i hi
    rw [Bool.and_eq_true] at h
    exact ⟨i, hi, beq_iff.1 h.1, ble_iff.1 h.2⟩
  · cases h

theorem may_ge {h : AH} {j : Nat} (h1 : h.lock ≤ j) (h2 : h.imp ≤ j) (h3 : j < 16777216) : h.may j = true := by
  unfold AH.may
  rw [Bool.and_eq_true]
  exact ⟨ble_iff.2 h1, AH.own_iff.2 ⟨h2, h3⟩⟩

theorem Acc.mono {e : Nat} {elem : TypeId} {h h' : AH} {b k : Nat} {v : Value} {cs : List Value} (a : Acc e elem h b v k cs) (hg : k ≠ 0 → h'.get b = h.get b) (hn : h.next ≤ h'.next) (hl : h'.lock = h.lock) (hi : h'.imp = h.imp) : Acc e elem h' b v k cs := by
  rcases a with a | ⟨a1, a2, a3, a4, a5⟩
  · exact .inl a
  · exact .inr ⟨a1, a2, (hg (by omega)).trans a3, may_of hl hi a4, by omega⟩

/-- Whole numbers alone. -/
def IntsA (A : List Value) : Prop := ∀ x ∈ A, ∃ z, x = .int .i64 z
theorem IntsA.at {A : List Value} (h : IntsA A) {i : Nat} (hi : i < A.length) : ∃ z, A[i]? = some (.int .i64 z) := by
  obtain ⟨z, hz⟩ := h A[i] (List.getElem_mem hi)
  exact ⟨z, by rw [List.getElem?_eq_getElem hi, hz]⟩
theorem IntsA.app {A : List Value} (h : IntsA A) (y z : Int) : IntsA (A ++ [.int .i64 y, .int .i64 z]) := by
  intro x hx
  rcases List.mem_append.1 hx with h1 | h1
  · exact h x h1
  · simp at h1
    rcases h1 with h1 | h1
    · exact ⟨y, h1⟩
    · exact ⟨z, h1⟩
theorem RowsE.app {R : List Value} (h : RowsE R) (p : Option Addr) : RowsE (R ++ [.slice p 0 0]) := by
  intro x hx
  rcases List.mem_append.1 hx with h1 | h1
  · exact h x h1
  · simp at h1
    exact ⟨p, h1⟩

/-- What Merge has collected: T rows and members. -/
structure MS (P : Program) (h h' : AH) (T br ba : Nat) (rv av : Value) (R A : List Value) : Prop where
  g1 : h'.get h.next = some (.cells #[.slice none 0 0] (tyOf P 32))
  g2 : h'.get (h.next + 1) = some (.cells #[rv] (tyOf P 22))
  ra : Acc 0 23 h' br rv T R
  aa : Acc 1 34 h' ba av T A
  rl : R.length = T
  al : A.length = T * 2
  re : RowsE R
  ae : IntsA A
  nb : h.next + 2 ≤ br ∧ h.next + 2 ≤ ba ∧ (br ≠ ba ∨ T = 0)
  n1 : h.next + 2 ≤ h'.next
  n2 : h'.next ≤ h.next + 2 + 4 * T
  lk : h'.lock = h.next
  im : h'.imp = h.imp
  fl : h'.fl = h.fl
  ag : ∀ j, j < h.next → h'.get j = h.get j

/-- One row more. -/
theorem MS.more {P : Program} {h h' a1 x2 x3 a4 x5 x6 a7 : AH} {T br ba : Nat} {rv av : Value} {R A : List Value} {o2 o5 : Option Blk} {p : Option Addr} {y z : Int} {g3 g4 : Gw} (m : MS P h h' T br ba rv av R A)
    (u1 : New h' a1 (.cells #[.slice p 0 0] g3)) (u2 : Upd a1 x2 br o2) (u3 : New x2 x3 (.cells ⟨R ++ [.slice p 0 0]⟩ (.up 0 (some 23))))
    (u4 : New x3 a4 (.cells #[.int .i64 y, .int .i64 z] g4)) (u5 : Upd a4 x5 ba o5) (u6 : New x5 x6 (.cells ⟨A ++ [.int .i64 y, .int .i64 z]⟩ (.up 1 (some 34))))
    (u7 : Upd x6 a7 (h.next + 1) (some (.cells #[sl a1.next (T + 1)] (tyOf P 22)))) (him : h.imp ≤ h.next) (hn : h.next + 4 * T + 100 < 16777216) :
    MS P h a7 (T + 1) a1.next a4.next (sl a1.next (T + 1)) (sl a4.next (T + 1)) (R ++ [.slice p 0 0]) (A ++ [.int .i64 y, .int .i64 z]) := by
  obtain ⟨g1, g2, ra, aa, rl, al, re, ae, ⟨nb1, nb2, nb3⟩, n1, n2, lk, im, fl, ag⟩ := m
  have e1 := u1.next
  have e2 := u2.next
  have e3 := u3.next
  have e4 := u4.next
  have e5 := u5.next
  have e6 := u6.next
  have e7 := u7.next
  have l7 : a7.lock = h.next := by rw [u7.lock, u6.lock, u5.lock, u4.lock, u3.lock, u2.lock, u1.lock, lk]
  have i7 : a7.imp = h.imp := by rw [u7.imp, u6.imp, u5.imp, u4.imp, u3.imp, u2.imp, u1.imp, im]
  have hlow : ∀ j, j ≠ br → j ≠ ba → j < h'.next → j ≠ h.next + 1 → a7.get j = h'.get j := by
    intro j j1 j2 j3 j4
    rw [u7.get, if_neg (by omega), u6.get, if_neg (by omega), u5.get, if_neg (by omega), u4.get, if_neg (by omega), u3.get, if_neg (by omega), u2.get, if_neg (by omega), u1.get, if_neg (by omega)]
  have hba : ba ≠ a1.next := by
    rcases aa with ⟨_, _, _, w⟩ | ⟨_, _, _, _, w⟩ <;> omega
  have hbr : br ≠ a1.next := by
    rcases ra with ⟨_, _, _, w⟩ | ⟨_, _, _, _, w⟩ <;> omega
  refine ⟨(hlow _ (by omega) (by omega) (by omega) (by omega)).trans g1, ?_, .inr ⟨by omega, rfl, ?_, ?_, by omega⟩, .inr ⟨by omega, rfl, ?_, ?_, by omega⟩, by simp [rl], by simp [al]; omega, re.app p, ae.app y z, ⟨by omega, by omega, .inl (by omega)⟩, by omega, by omega, l7, i7, ?_, ?_⟩
  · rw [u7.get, if_pos rfl]
  · rw [u7.get, if_neg (by omega), u6.get, if_neg (by omega), u5.get, if_neg (by omega), u4.get, if_neg (by omega), u3.get, if_pos (by omega)]
  · exact may_ge (by omega) (by omega) (by omega)
  · rw [u7.get, if_neg (by omega), u6.get, if_pos (by omega)]
  · exact may_ge (by omega) (by omega) (by omega)
  · rw [u7.fl, u6.fl, u5.fl, u4.fl, u3.fl, u2.fl, u1.fl, fl]
  · intro j hj
    exact (hlow j (by omega) (by omega) (by omega) (by omega)).trans (ag j hj)

end
end Go.Proofs.YtokiakmpebjdfaaGreatDoor.V
