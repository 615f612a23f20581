/- Merging: rows and members are collected, source by source. Conditions: none. -/
import Derived.Test.YtokiakmpebjdfaaGreatDoorOe
namespace Go.Proofs.YtokiakmpebjdfaaGreatDoor.V
set_option linter.all false
open Go
noncomputable section

theorem at1 {R : List Value} {o k : Nat} {v : Value} (h : R[o + k]? = some v) : (⟨R⟩ : Array Value).toList[o + (k : Int).toNat * 1]? = some v := by
  rw [Nat.mul_one]
  exact h

/-- Sources: parts of one row of rows. -/
structure Srcs (h : AH) (bs b0 K : Nat) (cut : Nat → Nat) : Prop where
  src : ∃ S g, h.get bs = some (.cells ⟨S⟩ g) ∧ ∀ i, i < K → ∃ c, S[i]? = some (.slice (some ⟨b0, cut i, none⟩) (cut (i + 1) - cut i) c)
  row : ∃ X g, h.get b0 = some (.cells ⟨X⟩ g) ∧ RowsE X ∧ cut K ≤ X.length
  c0 : cut 0 = 0
  cm : ∀ i, i < K → cut i ≤ cut (i + 1)
  kl : K ≤ 1000
  tl : cut K ≤ 1000000
  bl : bs < h.next
  rl : b0 < h.next
theorem cut_leK {K : Nat} {cut : Nat → Nat} (cm : ∀ i, i < K → cut i ≤ cut (i + 1)) : ∀ j i, i + j = K → cut i ≤ cut K
  | 0, i, h => by
    have : i = K := by omega
    rw [this]; exact Nat.le_refl _
  | j + 1, i, h => Nat.le_trans (cm i (by omega)) (cut_leK cm j (i + 1) (by omega))

section
variable {P : Program} {G : Nat} {ext : FuncId → Option Ext} {base : Orc}

set_option maxRecDepth 100000 in
set_option maxHeartbeats 4000000 in
theorem f4_long (E : Alike P Tryz.prog base walkM) {d bs b0 K c : Nat} {cut : Nat → Nat} {h : AH} (s : Srcs h bs b0 K cut) (hT : 65536 < cut K) (hd : 40 ≤ d) (hok : HOK h) (him : h.imp ≤ h.next) (hn : h.next + 5000000 < 16777216) :
    deepF P G ext 2199023255552 base mtM d 4 [.slice (some ⟨bs, 0, none⟩) K c, .slice none 0 0] h = some (.tuple #[.slice none 0 0, .int .i64 2], none) := by
  obtain ⟨⟨S, gs, hS, hSa⟩, ⟨X, gx, hX, hXR, hXl⟩, c0, cm, kl, tl, hbs, hb0⟩ := s
  obtain ⟨ir, jr1, jr2, jr3⟩ := infR
  obtain ⟨im, jm1, jm2, jm3⟩ := infM
  have u3:=U3 E;have s3:=S3 E;have a3:=A3 E
  have u4:=U4 E;have s4:=S4 E
  have u9:=U9 E;have s9:=S9 E
  have u22:=U22 E;have s22:=S22 E;have a22:=A22 E;have e22:=Z22 E
  have u23:=U23 E;have s23:=S23 E;have a23:=A23 E;have e23:=Z23 E
  have u24:=U24 E;have s24:=S24 E
  have u25:=U25 E;have s25:=S25 E
  have u26:=U26 E;have s26:=S26 E
  have u30:=U30 E;have s30:=S30 E;have a30:=A30 E;have e30:=Z30 E
  have u32:=U32 E;have s32:=S32 E;have a32:=A32 E
  have u34:=U34 E;have s34:=S34 E;have a34:=A34 E;have e34:=Z34 E
  have u35:=U35 E;have s35:=S35 E
  have u42:=U42 E;have s42:=S42 E
  have u44:=U44 E;have s44:=S44 E
  have u51:=U51 E;have s51:=S51 E
  refine over_eq (by omega) rfl (E.no 4 _ _ rfl) rfl ((E.fn 4).trans Tryz.func4) rfl hok rfl ?_
  have hokl := hok.locked
  have hnl : h.locked.next = h.next := rfl
  have hll : h.locked.lock = h.next := rfl
  have hil : h.locked.imp = h.imp := rfl
  have hfll : h.locked.fl = h.fl := rfl
  conv => whnf
  refine ⟨by simp [Tryz.f4], ?_⟩
  repeat ((conv=>whnf);first|((with_reducible refine Exists.intro ?_ (Exists.intro ?_ (And.intro (a:=_=some (Blk.cells _ _)) ?_ ?_)));rotate_left 2;· (try dsimp only);(repeat first|with_reducible assumption|with_reducible exact uA (by assumption)|with_reducible exact nA (by assumption)|((with_reducible refine uN (by assumption) ?_ ?_);· omega)|((with_reducible refine nN (by assumption) ?_ ?_);· omega)))|((with_reducible refine Exists.intro ?_ (And.intro ?_ ?_));rotate_left;· first|with_reducible assumption|((conv=>lhs;arg 2;whnf);with_reducible assumption)|exact rfl)|((with_reducible refine And.intro (a:=AH.may _ _=true) ?_ ?_);· (try dsimp only);(repeat first|with_reducible assumption|((with_reducible refine New.mayNew (by assumption) (by assumption) ?_ ?_ ?_)<;>omega)|refine Upd.mayOf (by assumption) ?_|refine New.mayOf (by assumption) ?_|refine Ke.mayOf (by assumption) ?_))|((with_reducible refine And.intro (a:=szOf _ _=_) ?_ ?_);· refine Eq.trans (by assumption) ?_;kernel_rfl)|((with_reducible refine And.intro (a:=List.all _ _=true) ?_ ?_);· kernel_rfl)|((with_reducible refine And.intro (a:=_=_) ?_ ?_);· first|with_reducible assumption|rfl)|((with_reducible refine And.intro (a:=_≤_) ?_ ?_);· first|omega|exact sz_ok|exact Nat.le_of_ble_eq_true (by kernel_rfl))|((with_reducible refine And.intro (a:=_<_) ?_ ?_);· omega)|((with_reducible refine And.intro (a:=_∧_) ?_ ?_);· constructor<;>first|omega|(simp<;>omega))|(refine brk_true ?_ ?_;· first|rfl|(simp only [q1,q2,q3,q4,q7,q8,ne_eq,q5,q6];omega))|(refine brk_false ?_ ?_;· first|rfl|(simp only [q1,q2,q3,q4,q7,q8,ne_eq,q5,q6];omega))|(intro aa uu;(try dsimp only at uu);have okk:=uu.ok;have nxx:=uu.next;have lkk:=uu.lock;have imm:=uu.imp))
  try conv=>whnf
  rename_i b1 u1 o1 m1 l1 i1
  have an : aa.next = h.next + 2 := by omega
  have bn : pt b1.next = pt (h.next + 1) := by rw [show b1.next = h.next + 1 by omega]
  refine .inl ⟨fun mm env h' => sh 7 env = true ∧ ∃ (i br ba : Nat) (rv av : Value) (R A : List Value), i ≤ K ∧ mm = K - i ∧ has env [(0, .slice (some ⟨bs, 0, none⟩) K c), (3, pt h.next), (4, .slice none 0 0), (5, .int .i64 0), (6, pt (h.next + 1)), (7, av), (17, .int .i64 K), (18, .int .i64 i)] ∧ cut i ≤ 65536 ∧ MS P h h' (cut i) br ba rv av R A, K, by omega,
    ⟨by kernel_rfl, 0, 33554432, 33554432, .slice none 0 0, .slice none 0 0, [], [], by omega, rfl, ⟨by kernel_rfl, by kernel_rfl, by kernel_rfl, by kernel_rfl, ?_, by kernel_rfl, by kernel_rfl, by kernel_rfl, trivial⟩, by omega, ?_⟩, ?_⟩
  · exact (show _ = some (pt b1.next) by kernel_rfl).trans (by rw [bn])
  · have w1 : aa.get h.next = some (.cells #[.slice none 0 0] (tyOf P 32)) := by
      rw [uu.get, if_neg (by omega)]
      exact u1.at
    have w2 : aa.get (h.next + 1) = some (.cells #[.slice none 0 0] (tyOf P 22)) := by
      rw [uu.get, if_pos (by omega)]
      rfl
    have w3 : ∀ j, j < h.next → aa.get j = h.get j := (fun j hj => by repeat first|((with_reducible refine uN (by assumption) ?_ ?_);· omega)|((with_reducible refine nN (by assumption) ?_ ?_);· omega)|exact rfl)
    have w4 : aa.fl = h.fl := (by repeat first|with_reducible assumption|refine Upd.flOf (by assumption) ?_|refine New.flOf (by assumption) ?_|refine Ke.flOf (by assumption) ?_|exact hfl|exact rfl)
    rw [c0]
    exact ⟨w1, w2, .inl ⟨rfl, rfl, rfl, rfl⟩, .inl ⟨rfl, rfl, rfl, rfl⟩, rfl, rfl, (fun x hx => by cases hx), (fun x hx => by cases hx), ⟨by omega, by omega, .inr rfl⟩, by omega, by omega, by omega, by omega, w4, w3⟩
  rintro mm env h' hok' ⟨hsh, i, br, ba, rv, av, R, A, hi, hmm, hhas, hc1, ms⟩
  rw [env_form hsh hhas]
  have hS2 : h'.get bs = some (.cells ⟨S⟩ gs) := (ms.ag bs hbs).trans hS
  repeat ((conv=>whnf);first|((with_reducible refine Exists.intro ?_ (Exists.intro ?_ (And.intro (a:=_=some (Blk.cells _ _)) ?_ ?_)));rotate_left 2;· (try dsimp only);(repeat first|with_reducible assumption|with_reducible exact uA (by assumption)|with_reducible exact nA (by assumption)|((with_reducible refine uN (by assumption) ?_ ?_);· omega)|((with_reducible refine nN (by assumption) ?_ ?_);· omega)))|((with_reducible refine Exists.intro ?_ (And.intro ?_ ?_));rotate_left;· first|with_reducible assumption|((conv=>lhs;arg 2;whnf);with_reducible assumption)|exact rfl)|((with_reducible refine And.intro (a:=AH.may _ _=true) ?_ ?_);· (try dsimp only);(repeat first|with_reducible assumption|((with_reducible refine New.mayNew (by assumption) (by assumption) ?_ ?_ ?_)<;>omega)|refine Upd.mayOf (by assumption) ?_|refine New.mayOf (by assumption) ?_|refine Ke.mayOf (by assumption) ?_))|((with_reducible refine And.intro (a:=szOf _ _=_) ?_ ?_);· refine Eq.trans (by assumption) ?_;kernel_rfl)|((with_reducible refine And.intro (a:=List.all _ _=true) ?_ ?_);· kernel_rfl)|((with_reducible refine And.intro (a:=_=_) ?_ ?_);· first|with_reducible assumption|rfl)|((with_reducible refine And.intro (a:=_≤_) ?_ ?_);· first|omega|exact sz_ok|exact Nat.le_of_ble_eq_true (by kernel_rfl))|((with_reducible refine And.intro (a:=_<_) ?_ ?_);· omega)|((with_reducible refine And.intro (a:=_∧_) ?_ ?_);· constructor<;>first|omega|(simp<;>omega))|(refine brk_true ?_ ?_;· first|rfl|(simp only [q1,q2,q3,q4,q7,q8,ne_eq,q5,q6];omega))|(refine brk_false ?_ ?_;· first|rfl|(simp only [q1,q2,q3,q4,q7,q8,ne_eq,q5,q6];omega))|(intro aa uu;(try dsimp only at uu);have okk:=uu.ok;have nxx:=uu.next;have lkk:=uu.lock;have imm:=uu.imp))
  try conv=>whnf
  refine brk_of (fun hlt => ?_) (fun hge => ?_)
  · have hlt : i < K := by simpa using hlt
    obtain ⟨ci, hsi⟩ := hSa i hlt
    have hcm := cm i hlt
    have hcK := cut_leK cm (K - (i + 1)) (i + 1) (by omega)
    repeat ((conv=>whnf);first|((with_reducible refine Exists.intro ?_ (Exists.intro ?_ (And.intro (a:=_=some (Blk.cells _ _)) ?_ ?_)));rotate_left 2;· (try dsimp only);(repeat first|with_reducible assumption|with_reducible exact uA (by assumption)|with_reducible exact nA (by assumption)|((with_reducible refine uN (by assumption) ?_ ?_);· omega)|((with_reducible refine nN (by assumption) ?_ ?_);· omega)))|((with_reducible refine Exists.intro ?_ (And.intro ?_ ?_));rotate_left;· first|with_reducible assumption|((conv=>lhs;arg 2;whnf);with_reducible assumption)|exact rfl)|((with_reducible refine And.intro (a:=AH.may _ _=true) ?_ ?_);· (try dsimp only);(repeat first|with_reducible assumption|((with_reducible refine New.mayNew (by assumption) (by assumption) ?_ ?_ ?_)<;>omega)|refine Upd.mayOf (by assumption) ?_|refine New.mayOf (by assumption) ?_|refine Ke.mayOf (by assumption) ?_))|((with_reducible refine And.intro (a:=szOf _ _=_) ?_ ?_);· refine Eq.trans (by assumption) ?_;kernel_rfl)|((with_reducible refine And.intro (a:=List.all _ _=true) ?_ ?_);· kernel_rfl)|((with_reducible refine And.intro (a:=_=_) ?_ ?_);· first|with_reducible assumption|rfl)|((with_reducible refine And.intro (a:=_≤_) ?_ ?_);· first|omega|exact sz_ok|exact Nat.le_of_ble_eq_true (by kernel_rfl))|((with_reducible refine And.intro (a:=_<_) ?_ ?_);· omega)|((with_reducible refine And.intro (a:=_∧_) ?_ ?_);· constructor<;>first|omega|(simp<;>omega))|(refine brk_true ?_ ?_;· first|rfl|(simp only [q1,q2,q3,q4,q7,q8,ne_eq,q5,q6];omega))|(refine brk_false ?_ ?_;· first|rfl|(simp only [q1,q2,q3,q4,q7,q8,ne_eq,q5,q6];omega))|(intro aa uu;(try dsimp only at uu);have okk:=uu.ok;have nxx:=uu.next;have lkk:=uu.lock;have imm:=uu.imp))
    try conv=>whnf
    refine ⟨_, at0 (z := (i : Int)) hsi, ?_⟩
    repeat ((conv=>whnf);first|((with_reducible refine Exists.intro ?_ (Exists.intro ?_ (And.intro (a:=_=some (Blk.cells _ _)) ?_ ?_)));rotate_left 2;· (try dsimp only);(repeat first|with_reducible assumption|with_reducible exact uA (by assumption)|with_reducible exact nA (by assumption)|((with_reducible refine uN (by assumption) ?_ ?_);· omega)|((with_reducible refine nN (by assumption) ?_ ?_);· omega)))|((with_reducible refine Exists.intro ?_ (And.intro ?_ ?_));rotate_left;· first|with_reducible assumption|((conv=>lhs;arg 2;whnf);with_reducible assumption)|exact rfl)|((with_reducible refine And.intro (a:=AH.may _ _=true) ?_ ?_);· (try dsimp only);(repeat first|with_reducible assumption|((with_reducible refine New.mayNew (by assumption) (by assumption) ?_ ?_ ?_)<;>omega)|refine Upd.mayOf (by assumption) ?_|refine New.mayOf (by assumption) ?_|refine Ke.mayOf (by assumption) ?_))|((with_reducible refine And.intro (a:=szOf _ _=_) ?_ ?_);· refine Eq.trans (by assumption) ?_;kernel_rfl)|((with_reducible refine And.intro (a:=List.all _ _=true) ?_ ?_);· kernel_rfl)|((with_reducible refine And.intro (a:=_=_) ?_ ?_);· first|with_reducible assumption|rfl)|((with_reducible refine And.intro (a:=_≤_) ?_ ?_);· first|omega|exact sz_ok|exact Nat.le_of_ble_eq_true (by kernel_rfl))|((with_reducible refine And.intro (a:=_<_) ?_ ?_);· omega)|((with_reducible refine And.intro (a:=_∧_) ?_ ?_);· constructor<;>first|omega|(simp<;>omega))|(refine brk_true ?_ ?_;· first|rfl|(simp only [q1,q2,q3,q4,q7,q8,ne_eq,q5,q6];omega))|(refine brk_false ?_ ?_;· first|rfl|(simp only [q1,q2,q3,q4,q7,q8,ne_eq,q5,q6];omega))|(intro aa uu;(try dsimp only at uu);have okk:=uu.ok;have nxx:=uu.next;have lkk:=uu.lock;have imm:=uu.imp))
    try conv=>whnf
    refine .inl ⟨fun mm env h'' => sh 7 env = true ∧ ∃ (k br ba : Nat) (rv av : Value) (R A : List Value), k ≤ cut (i + 1) - cut i ∧ mm = cut (i + 1) - cut i - k ∧ has env [(0, .slice (some ⟨bs, 0, none⟩) K c), (3, pt h.next), (4, .slice none 0 0), (5, .int .i64 0), (6, pt (h.next + 1)), (7, av), (8, .int .i64 i), (17, .int .i64 K), (18, .int .i64 i), (24, .slice (some ⟨b0, cut i, none⟩) (cut (i + 1) - cut i) ci), (25, .int .i64 (cut (i + 1) - cut i : Nat)), (26, .int .i64 k)] ∧ MS P h h'' (cut i + k) br ba rv av R A, cut (i + 1) - cut i, by omega,
      ⟨by kernel_rfl, 0, br, ba, rv, av, R, A, by omega, rfl, ⟨by kernel_rfl, by kernel_rfl, by kernel_rfl, by kernel_rfl, by kernel_rfl, by kernel_rfl, by kernel_rfl, by kernel_rfl, by kernel_rfl, by kernel_rfl, by kernel_rfl, by kernel_rfl, trivial⟩, ms⟩, ?_⟩
    rintro mm env h'' hok'' ⟨hsh, k, br, ba, rv, av, R, A, hk, hmm, hhas, ms2⟩
    rw [env_form hsh hhas]
    repeat ((conv=>whnf);first|((with_reducible refine Exists.intro ?_ (Exists.intro ?_ (And.intro (a:=_=some (Blk.cells _ _)) ?_ ?_)));rotate_left 2;· (try dsimp only);(repeat first|with_reducible assumption|with_reducible exact uA (by assumption)|with_reducible exact nA (by assumption)|((with_reducible refine uN (by assumption) ?_ ?_);· omega)|((with_reducible refine nN (by assumption) ?_ ?_);· omega)))|((with_reducible refine Exists.intro ?_ (And.intro ?_ ?_));rotate_left;· first|with_reducible assumption|((conv=>lhs;arg 2;whnf);with_reducible assumption)|exact rfl)|((with_reducible refine And.intro (a:=AH.may _ _=true) ?_ ?_);· (try dsimp only);(repeat first|with_reducible assumption|((with_reducible refine New.mayNew (by assumption) (by assumption) ?_ ?_ ?_)<;>omega)|refine Upd.mayOf (by assumption) ?_|refine New.mayOf (by assumption) ?_|refine Ke.mayOf (by assumption) ?_))|((with_reducible refine And.intro (a:=szOf _ _=_) ?_ ?_);· refine Eq.trans (by assumption) ?_;kernel_rfl)|((with_reducible refine And.intro (a:=List.all _ _=true) ?_ ?_);· kernel_rfl)|((with_reducible refine And.intro (a:=_=_) ?_ ?_);· first|with_reducible assumption|rfl)|((with_reducible refine And.intro (a:=_≤_) ?_ ?_);· first|omega|exact sz_ok|exact Nat.le_of_ble_eq_true (by kernel_rfl))|((with_reducible refine And.intro (a:=_<_) ?_ ?_);· omega)|((with_reducible refine And.intro (a:=_∧_) ?_ ?_);· constructor<;>first|omega|(simp<;>omega))|(refine brk_true ?_ ?_;· first|rfl|(simp only [q1,q2,q3,q4,q7,q8,ne_eq,q5,q6];omega))|(refine brk_false ?_ ?_;· first|rfl|(simp only [q1,q2,q3,q4,q7,q8,ne_eq,q5,q6];omega))|(intro aa uu;(try dsimp only at uu);have okk:=uu.ok;have nxx:=uu.next;have lkk:=uu.lock;have imm:=uu.imp))
    try conv=>whnf
    refine brk_of (fun hlk => ?_) (fun hgk => ?_)
    · have hlk : k < cut (i + 1) - cut i := by simpa using hlk
      obtain ⟨p, hp⟩ := hXR.at (i := cut i + k) (by omega)
      have hX2 : h''.get b0 = some (.cells ⟨X⟩ gx) := (ms2.ag b0 hb0).trans hX
      have hg2 := ms2.g2
      repeat ((conv=>whnf);first|((with_reducible refine Exists.intro ?_ (Exists.intro ?_ (And.intro (a:=_=some (Blk.cells _ _)) ?_ ?_)));rotate_left 2;· (try dsimp only);(repeat first|with_reducible assumption|with_reducible exact uA (by assumption)|with_reducible exact nA (by assumption)|((with_reducible refine uN (by assumption) ?_ ?_);· omega)|((with_reducible refine nN (by assumption) ?_ ?_);· omega)))|((with_reducible refine Exists.intro ?_ (And.intro ?_ ?_));rotate_left;· first|with_reducible assumption|((conv=>lhs;arg 2;whnf);with_reducible assumption)|exact rfl)|((with_reducible refine And.intro (a:=AH.may _ _=true) ?_ ?_);· (try dsimp only);(repeat first|with_reducible assumption|((with_reducible refine New.mayNew (by assumption) (by assumption) ?_ ?_ ?_)<;>omega)|refine Upd.mayOf (by assumption) ?_|refine New.mayOf (by assumption) ?_|refine Ke.mayOf (by assumption) ?_))|((with_reducible refine And.intro (a:=szOf _ _=_) ?_ ?_);· refine Eq.trans (by assumption) ?_;kernel_rfl)|((with_reducible refine And.intro (a:=List.all _ _=true) ?_ ?_);· kernel_rfl)|((with_reducible refine And.intro (a:=_=_) ?_ ?_);· first|with_reducible assumption|rfl)|((with_reducible refine And.intro (a:=_≤_) ?_ ?_);· first|omega|exact sz_ok|exact Nat.le_of_ble_eq_true (by kernel_rfl))|((with_reducible refine And.intro (a:=_<_) ?_ ?_);· omega)|((with_reducible refine And.intro (a:=_∧_) ?_ ?_);· constructor<;>first|omega|(simp<;>omega))|(refine brk_true ?_ ?_;· first|rfl|(simp only [q1,q2,q3,q4,q7,q8,ne_eq,q5,q6];omega))|(refine brk_false ?_ ?_;· first|rfl|(simp only [q1,q2,q3,q4,q7,q8,ne_eq,q5,q6];omega))|(intro aa uu;(try dsimp only at uu);have okk:=uu.ok;have nxx:=uu.next;have lkk:=uu.lock;have imm:=uu.imp))
      try conv=>whnf
      obtain ⟨nb1, nb2, nb3⟩ := ms2.nb
      have mn1 := ms2.n1
      have mn2 := ms2.n2
      have mlk := ms2.lk
      have mim := ms2.im
      have mra := ms2.ra
      have maa := ms2.aa
      have mrl := ms2.rl
      have mal := ms2.al
      refine ⟨_, at1 hp, ?_⟩
      repeat ((conv=>whnf);first|((with_reducible refine Exists.intro ?_ (Exists.intro ?_ (And.intro (a:=_=some (Blk.cells _ _)) ?_ ?_)));rotate_left 2;· (try dsimp only);(repeat first|with_reducible assumption|with_reducible exact uA (by assumption)|with_reducible exact nA (by assumption)|((with_reducible refine uN (by assumption) ?_ ?_);· omega)|((with_reducible refine nN (by assumption) ?_ ?_);· omega)))|((with_reducible refine Exists.intro ?_ (And.intro ?_ ?_));rotate_left;· first|with_reducible assumption|((conv=>lhs;arg 2;whnf);with_reducible assumption)|exact rfl)|((with_reducible refine And.intro (a:=AH.may _ _=true) ?_ ?_);· (try dsimp only);(repeat first|with_reducible assumption|((with_reducible refine New.mayNew (by assumption) (by assumption) ?_ ?_ ?_)<;>omega)|refine Upd.mayOf (by assumption) ?_|refine New.mayOf (by assumption) ?_|refine Ke.mayOf (by assumption) ?_))|((with_reducible refine And.intro (a:=szOf _ _=_) ?_ ?_);· refine Eq.trans (by assumption) ?_;kernel_rfl)|((with_reducible refine And.intro (a:=List.all _ _=true) ?_ ?_);· kernel_rfl)|((with_reducible refine And.intro (a:=_=_) ?_ ?_);· first|with_reducible assumption|rfl)|((with_reducible refine And.intro (a:=_≤_) ?_ ?_);· first|omega|exact sz_ok|exact Nat.le_of_ble_eq_true (by kernel_rfl))|((with_reducible refine And.intro (a:=_<_) ?_ ?_);· omega)|((with_reducible refine And.intro (a:=_∧_) ?_ ?_);· constructor<;>first|omega|(simp<;>omega))|(refine brk_true ?_ ?_;· first|rfl|(simp only [q1,q2,q3,q4,q7,q8,ne_eq,q5,q6];omega))|(refine brk_false ?_ ?_;· first|rfl|(simp only [q1,q2,q3,q4,q7,q8,ne_eq,q5,q6];omega))|(intro aa uu;(try dsimp only at uu);have okk:=uu.ok;have nxx:=uu.next;have lkk:=uu.lock;have imm:=uu.imp))
      try conv=>whnf
      have d1 : (cut i + k + 1) * (ir.bytes + 1) ≤ 1000000 * 1001 := Nat.mul_le_mul (by omega) (by omega)
      have d2 : (cut i + k + 1) * (im.bytes + 1) ≤ 1000000 * 1001 := Nat.mul_le_mul (by omega) (by omega)
      have mra1 : Acc 0 23 aa br rv (cut i + k) R := mra.mono (fun hz => by rw [uu.get, if_neg (by rcases mra with ⟨z, _⟩ | ⟨_, _, _, _, z⟩ <;> omega)]) (by omega) (by omega) (by omega)
      obtain ⟨o2, x2, x3, e3, u2, u3⟩ := app1 (c2 := 1) (b2 := h''.next) (c := [.slice p 0 0]) (g := .no) okk u22 ((E.inf 23).trans jr1) (Z23 E) (by rw [jr2]; rfl) (e := 0) (by rw [jr2]) (by (repeat first|with_reducible assumption|with_reducible exact uA (by assumption)|with_reducible exact nA (by assumption)|((with_reducible refine Eq.trans (uA (by assumption)) ?_);kernel_rfl)|((with_reducible refine Eq.trans (nA (by assumption)) ?_);kernel_rfl)|((with_reducible refine uN (by assumption) ?_ ?_);· omega)|((with_reducible refine nN (by assumption) ?_ ?_);· omega))) rfl rfl mra1 (by omega) (by omega) (by omega)
      refine ⟨_, _, append_of e3, u3.ok, ?_⟩
      have y1 := u2.next
      have y2 := u2.lock
      have y3 := u2.imp
      have y4 := u3.next
      have y5 := u3.lock
      have y6 := u3.imp
      have y7 := u3.ok
      repeat ((conv=>whnf);first|((with_reducible refine Exists.intro ?_ (Exists.intro ?_ (And.intro (a:=_=some (Blk.cells _ _)) ?_ ?_)));rotate_left 2;· (try dsimp only);(repeat first|with_reducible assumption|with_reducible exact uA (by assumption)|with_reducible exact nA (by assumption)|((with_reducible refine uN (by assumption) ?_ ?_);· omega)|((with_reducible refine nN (by assumption) ?_ ?_);· omega)))|((with_reducible refine Exists.intro ?_ (And.intro ?_ ?_));rotate_left;· first|with_reducible assumption|((conv=>lhs;arg 2;whnf);with_reducible assumption)|exact rfl)|((with_reducible refine And.intro (a:=AH.may _ _=true) ?_ ?_);· (try dsimp only);(repeat first|with_reducible assumption|((with_reducible refine New.mayNew (by assumption) (by assumption) ?_ ?_ ?_)<;>omega)|refine Upd.mayOf (by assumption) ?_|refine New.mayOf (by assumption) ?_|refine Ke.mayOf (by assumption) ?_))|((with_reducible refine And.intro (a:=szOf _ _=_) ?_ ?_);· refine Eq.trans (by assumption) ?_;kernel_rfl)|((with_reducible refine And.intro (a:=List.all _ _=true) ?_ ?_);· kernel_rfl)|((with_reducible refine And.intro (a:=_=_) ?_ ?_);· first|with_reducible assumption|rfl)|((with_reducible refine And.intro (a:=_≤_) ?_ ?_);· first|omega|exact sz_ok|exact Nat.le_of_ble_eq_true (by kernel_rfl))|((with_reducible refine And.intro (a:=_<_) ?_ ?_);· omega)|((with_reducible refine And.intro (a:=_∧_) ?_ ?_);· constructor<;>first|omega|(simp<;>omega))|(refine brk_true ?_ ?_;· first|rfl|(simp only [q1,q2,q3,q4,q7,q8,ne_eq,q5,q6];omega))|(refine brk_false ?_ ?_;· first|rfl|(simp only [q1,q2,q3,q4,q7,q8,ne_eq,q5,q6];omega))|(intro aa uu;(try dsimp only at uu);have okk:=uu.ok;have nxx:=uu.next;have lkk:=uu.lock;have imm:=uu.imp))
      try conv=>whnf
      rename_i a1 v1 o1 n1 l1 i1
      have u4 : New x3 aa (.cells ⟨[.int .i64 (i : Int), .int .i64 (k : Int)]⟩ .no) := uu
      have mab : k + cut i ≠ 0 → ba ≠ br ∧ ba < h''.next := fun hz => by
        rcases maa with ⟨z, _⟩ | ⟨_, _, _, _, z⟩
        · omega
        · exact ⟨by omega, z⟩
      have maa1 : Acc 1 34 aa ba av (cut i + k) A := maa.mono (fun hz => by
        have := mab (by omega)
        rw [u4.get, if_neg (by omega), u3.get, if_neg (by omega), u2.get, if_neg this.1, v1.get, if_neg (by omega)]) (by omega) (by omega) (by omega)
      obtain ⟨o5, x5, x6, e6, u5, u6⟩ := app1 (c2 := 1) (b2 := x3.next) (c := [.int .i64 (i : Int), .int .i64 (k : Int)]) (g := .no) okk u30 ((E.inf 34).trans jm1) (Z34 E) (by rw [jm2]; rfl) (e := 1) (by rw [jm2]) u4.at rfl rfl maa1 (by omega) (by omega) (by omega)
      refine ⟨_, _, append_of e6, u6.ok, ?_⟩
      have y11 := u5.next
      have y12 := u5.lock
      have y13 := u5.imp
      have y14 := u6.next
      have y15 := u6.lock
      have y16 := u6.imp
      have y17 := u6.ok
      have y18 : x6.may (h.next + 1) = true := may_ge (by omega) (by omega) (by omega)
      have y19 : x6.get (h.next + 1) = some (.cells #[rv] (tyOf P 22)) := by
        rw [u6.get, if_neg (by omega), u5.get, if_neg (by omega), u4.get, if_neg (by omega), u3.get, if_neg (by omega), u2.get, if_neg (by omega), v1.get, if_neg (by omega)]
        exact hg2
      repeat ((conv=>whnf);first|((with_reducible refine Exists.intro ?_ (Exists.intro ?_ (And.intro (a:=_=some (Blk.cells _ _)) ?_ ?_)));rotate_left 2;· (try dsimp only);(repeat first|with_reducible assumption|with_reducible exact uA (by assumption)|with_reducible exact nA (by assumption)|((with_reducible refine uN (by assumption) ?_ ?_);· omega)|((with_reducible refine nN (by assumption) ?_ ?_);· omega)))|((with_reducible refine Exists.intro ?_ (And.intro ?_ ?_));rotate_left;· first|with_reducible assumption|((conv=>lhs;arg 2;whnf);with_reducible assumption)|exact rfl)|((with_reducible refine And.intro (a:=AH.may _ _=true) ?_ ?_);· (try dsimp only);(repeat first|with_reducible assumption|((with_reducible refine New.mayNew (by assumption) (by assumption) ?_ ?_ ?_)<;>omega)|refine Upd.mayOf (by assumption) ?_|refine New.mayOf (by assumption) ?_|refine Ke.mayOf (by assumption) ?_))|((with_reducible refine And.intro (a:=szOf _ _=_) ?_ ?_);· refine Eq.trans (by assumption) ?_;kernel_rfl)|((with_reducible refine And.intro (a:=List.all _ _=true) ?_ ?_);· kernel_rfl)|((with_reducible refine And.intro (a:=_=_) ?_ ?_);· first|with_reducible assumption|rfl)|((with_reducible refine And.intro (a:=_≤_) ?_ ?_);· first|omega|exact sz_ok|exact Nat.le_of_ble_eq_true (by kernel_rfl))|((with_reducible refine And.intro (a:=_<_) ?_ ?_);· omega)|((with_reducible refine And.intro (a:=_∧_) ?_ ?_);· constructor<;>first|omega|(simp<;>omega))|(refine brk_true ?_ ?_;· first|rfl|(simp only [q1,q2,q3,q4,q7,q8,ne_eq,q5,q6];omega))|(refine brk_false ?_ ?_;· first|rfl|(simp only [q1,q2,q3,q4,q7,q8,ne_eq,q5,q6];omega))|(intro aa uu;(try dsimp only at uu);have okk:=uu.ok;have nxx:=uu.next;have lkk:=uu.lock;have imm:=uu.imp))
      try conv=>whnf
      rename_i a4 v4 o4 n4 l4 i4
      have ms3 := ms2.more (show New h'' a1 (.cells #[.slice p 0 0] .no) from v1) u2 u3 u4 u5 u6 (show Upd x6 aa (h.next + 1) (some (.cells #[sl a1.next (cut i + k + 1)] (tyOf P 22))) from uu) him (by omega)
      exact ⟨cut (i + 1) - cut i - (k + 1), by omega, by kernel_rfl, k + 1, a1.next, a4.next, sl a1.next (cut i + k + 1), sl a4.next (cut i + k + 1), R ++ [.slice p 0 0], A ++ [.int .i64 (i : Int), .int .i64 (k : Int)], by omega, rfl, ⟨by kernel_rfl, by kernel_rfl, by kernel_rfl, by kernel_rfl, by kernel_rfl, by kernel_rfl, by kernel_rfl, by kernel_rfl, by kernel_rfl, by kernel_rfl, by kernel_rfl, by kernel_rfl, trivial⟩, ms3⟩
    · have hgk : k = cut (i + 1) - cut i := by have : ¬ k < cut (i + 1) - cut i := by simpa using hgk
                                               omega
      have hg2 := ms2.g2
      have mrl := ms2.ra
      obtain ⟨c2, hrv⟩ : ∃ p, rv = .slice p (cut (i + 1)) (cut (i + 1)) := by
        rcases mrl with ⟨z, rfl, _⟩ | ⟨_, rfl, _⟩
        · exact ⟨none, by rw [show cut (i + 1) = 0 from by omega]⟩
        · exact ⟨_, by rw [show cut i + k = cut (i + 1) from by omega]⟩
      subst hrv
      rcases (show 65536 < cut (i + 1) ∨ cut (i + 1) ≤ 65536 by omega) with hz | hz
      · repeat ((conv=>whnf);first|((with_reducible refine Exists.intro ?_ (Exists.intro ?_ (And.intro (a:=_=some (Blk.cells _ _)) ?_ ?_)));rotate_left 2;· (try dsimp only);(repeat first|with_reducible assumption|with_reducible exact uA (by assumption)|with_reducible exact nA (by assumption)|((with_reducible refine uN (by assumption) ?_ ?_);· omega)|((with_reducible refine nN (by assumption) ?_ ?_);· omega)))|((with_reducible refine Exists.intro ?_ (And.intro ?_ ?_));rotate_left;· first|with_reducible assumption|((conv=>lhs;arg 2;whnf);with_reducible assumption)|exact rfl)|((with_reducible refine And.intro (a:=AH.may _ _=true) ?_ ?_);· (try dsimp only);(repeat first|with_reducible assumption|((with_reducible refine New.mayNew (by assumption) (by assumption) ?_ ?_ ?_)<;>omega)|refine Upd.mayOf (by assumption) ?_|refine New.mayOf (by assumption) ?_|refine Ke.mayOf (by assumption) ?_))|((with_reducible refine And.intro (a:=szOf _ _=_) ?_ ?_);· refine Eq.trans (by assumption) ?_;kernel_rfl)|((with_reducible refine And.intro (a:=List.all _ _=true) ?_ ?_);· kernel_rfl)|((with_reducible refine And.intro (a:=_=_) ?_ ?_);· first|with_reducible assumption|rfl)|((with_reducible refine And.intro (a:=_≤_) ?_ ?_);· first|omega|exact sz_ok|exact Nat.le_of_ble_eq_true (by kernel_rfl))|((with_reducible refine And.intro (a:=_<_) ?_ ?_);· omega)|((with_reducible refine And.intro (a:=_∧_) ?_ ?_);· constructor<;>first|omega|(simp<;>omega))|(refine brk_true ?_ ?_;· first|rfl|(simp only [q1,q2,q3,q4,q7,q8,ne_eq,q5,q6];omega))|(refine brk_false ?_ ?_;· first|rfl|(simp only [q1,q2,q3,q4,q7,q8,ne_eq,q5,q6];omega))|(intro aa uu;(try dsimp only at uu);have okk:=uu.ok;have nxx:=uu.next;have lkk:=uu.lock;have imm:=uu.imp))
        try conv=>whnf
        rfl
      · have ms4 : MS P h h'' (cut (i + 1)) br ba (.slice c2 (cut (i + 1)) (cut (i + 1))) av R A := by
          have := ms2
          rw [show cut i + k = cut (i + 1) by omega] at this
          exact this
        repeat ((conv=>whnf);first|((with_reducible refine Exists.intro ?_ (Exists.intro ?_ (And.intro (a:=_=some (Blk.cells _ _)) ?_ ?_)));rotate_left 2;· (try dsimp only);(repeat first|with_reducible assumption|with_reducible exact uA (by assumption)|with_reducible exact nA (by assumption)|((with_reducible refine uN (by assumption) ?_ ?_);· omega)|((with_reducible refine nN (by assumption) ?_ ?_);· omega)))|((with_reducible refine Exists.intro ?_ (And.intro ?_ ?_));rotate_left;· first|with_reducible assumption|((conv=>lhs;arg 2;whnf);with_reducible assumption)|exact rfl)|((with_reducible refine And.intro (a:=AH.may _ _=true) ?_ ?_);· (try dsimp only);(repeat first|with_reducible assumption|((with_reducible refine New.mayNew (by assumption) (by assumption) ?_ ?_ ?_)<;>omega)|refine Upd.mayOf (by assumption) ?_|refine New.mayOf (by assumption) ?_|refine Ke.mayOf (by assumption) ?_))|((with_reducible refine And.intro (a:=szOf _ _=_) ?_ ?_);· refine Eq.trans (by assumption) ?_;kernel_rfl)|((with_reducible refine And.intro (a:=List.all _ _=true) ?_ ?_);· kernel_rfl)|((with_reducible refine And.intro (a:=_=_) ?_ ?_);· first|with_reducible assumption|rfl)|((with_reducible refine And.intro (a:=_≤_) ?_ ?_);· first|omega|exact sz_ok|exact Nat.le_of_ble_eq_true (by kernel_rfl))|((with_reducible refine And.intro (a:=_<_) ?_ ?_);· omega)|((with_reducible refine And.intro (a:=_∧_) ?_ ?_);· constructor<;>first|omega|(simp<;>omega))|(refine brk_true ?_ ?_;· first|rfl|(simp only [q1,q2,q3,q4,q7,q8,ne_eq,q5,q6];omega))|(refine brk_false ?_ ?_;· first|rfl|(simp only [q1,q2,q3,q4,q7,q8,ne_eq,q5,q6];omega))|(intro aa uu;(try dsimp only at uu);have okk:=uu.ok;have nxx:=uu.next;have lkk:=uu.lock;have imm:=uu.imp))
        try conv=>whnf
        exact ⟨K - (i + 1), by omega, by kernel_rfl, i + 1, br, ba, .slice c2 (cut (i + 1)) (cut (i + 1)), av, R, A, by omega, rfl, ⟨by kernel_rfl, by kernel_rfl, by kernel_rfl, by kernel_rfl, by kernel_rfl, by kernel_rfl, by kernel_rfl, by kernel_rfl, trivial⟩, hz, ms4⟩
  · have hge : i = K := by have : ¬ i < K := by simpa using hge
                           omega
    subst hge
    omega
end

end
end Go.Proofs.YtokiakmpebjdfaaGreatDoor.V
