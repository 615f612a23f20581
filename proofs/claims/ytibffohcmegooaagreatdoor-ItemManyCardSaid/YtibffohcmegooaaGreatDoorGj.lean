/- ItemMany: an array of two rows, and atoms behind it. Conditions: none. -/
import Derived.Test.YtibffohcmegooaaGreatDoorGi
namespace Go.Proofs.YtibffohcmegooaaGreatDoor.V
set_option linter.all false
open Go
noncomputable section

theorem zeros_len (l : List Value) : ∀ n, (zerosB l n).length = n * l.length
  | 0 => by simp [zerosB]
  | n + 1 => by
    show (l ++ zerosB l n).length = _
    rw [List.length_append, zeros_len l n, Nat.succ_mul]
    omega

theorem two_row {K b : Nat} {h : AH} {g : Gw} {v1 v2 : Value} (hb : b < K) (hg : h.get b = some (.cells ⟨[v1, v2]⟩ g)) : Row K 1 h (some ⟨b, 0, none⟩) [[v1], [v2]] := by
  intro i x hx
  match i, hx with
  | 0, hx => cases hx; exact ⟨b, 0, _, g, rfl, hb, hg, by show _ ≤ 2; omega, rfl⟩
  | 1, hx => cases hx; exact ⟨b, 0, _, g, rfl, hb, hg, by show _ ≤ 2; omega, rfl⟩
  | i + 2, hx => simp at hx

theorem fold_cons {σ : Type} (g : σ → Option σ) (gs : List (σ → Option σ)) (s : σ) : foldO (g :: gs) s = (match g s with | none => none | some s' => foldO gs s') := rfl
/-- All atoms of the array, then those behind it. -/
theorem top_fold {k k' : Int} {s s' : ByteArray} (hs : bl s = 1) (hs' : bl s' = 1) (N1 N2 m : Nat) (hN1 : N1 = 32768) (hN2 : N2 = 32767) (hm : m ≤ 1) : ∃ A, foldO (foldO [foldO (List.replicate N1 (gA k s)), foldO (List.replicate N2 (gA k s))] :: List.replicate m (gA k' s')) [] = some A ∧ A.length = 65535 + m := by
  obtain ⟨a, rfl⟩ : ∃ a, N1 = a + 1 := ⟨N1 - 1, by omega⟩
  obtain ⟨b, rfl⟩ : ∃ b, N2 = b + 1 := ⟨N2 - 1, by omega⟩
  have f1 := fold_gA k s a []
  rw [if_pos (by rw [hs]; show 0 + (a + 1) ≤ _ ∧ 0 + (a + 1) * 1 ≤ _; omega)] at f1
  have hb1 : byA (([] : List (Int × ByteArray)) ++ List.replicate (a + 1) (k, s)) = a + 1 := by
    show sumF _ (List.replicate (a + 1) (k, s)) = _
    rw [sumF_rep]
    show (a + 1) * bl s = _
    rw [hs]
    omega
  have f2 := fold_gA k s b ([] ++ List.replicate (a + 1) (k, s))
  rw [hb1, if_pos (by rw [hs]; simp; omega)] at f2
  have f3 : foldO [foldO (List.replicate (a + 1) (gA k s)), foldO (List.replicate (b + 1) (gA k s))] [] = some (([] ++ List.replicate (a + 1) (k, s)) ++ List.replicate (b + 1) (k, s)) := by
    rw [fold_cons, f1]
    show foldO [foldO (List.replicate (b + 1) (gA k s))] _ = _
    rw [fold_cons, f2]
    rfl
  generalize hB : ([] ++ List.replicate (a + 1) (k, s)) ++ List.replicate (b + 1) (k, s) = B at f3
  have hBl : B.length = 65535 := by
    rw [← hB]
    simp
    omega
  have hBb : byA B = 65535 := by
    have h2 : ∀ (j : Nat) (C : List (Int × ByteArray)), byA (C ++ List.replicate j (k, s)) = byA C + j := by
      intro j
      induction j with
      | zero => intro C; simp
      | succ j ih =>
        intro C
        rw [List.replicate_succ', ← List.append_assoc, byA_app, ih]
        show byA C + j + bl s = _
        rw [hs]
        omega
    rw [← hB, h2, hb1]
    omega
  rcases (show m = 0 ∨ m = 1 by omega) with rfl | rfl
  · refine ⟨B, ?_, by omega⟩
    rw [fold_cons, f3]
    rfl
  · refine ⟨B ++ [(k', s')], ?_, by simp; omega⟩
    have hg : gA k' s' B = some (B ++ [(k', s')]) := if_pos (by omega)
    rw [fold_cons, f3]
    show foldO [gA k' s'] B = _
    rw [fold_cons, hg]
    rfl
theorem top_none {k k' : Int} {s s' : ByteArray} (hs : bl s = 1) (hs' : bl s' = 1) (N1 N2 : Nat) (hN1 : N1 = 32768) (hN2 : N2 = 32767) : foldO (foldO [foldO (List.replicate N1 (gA k s)), foldO (List.replicate N2 (gA k s))] :: List.replicate 2 (gA k' s')) [] = none := by
  obtain ⟨A, h1, h2⟩ := top_fold (k := k) (k' := k') hs hs' N1 N2 1 hN1 hN2 (by omega)
  have e : foldO [foldO (List.replicate N1 (gA k s)), foldO (List.replicate N2 (gA k s))] :: List.replicate 2 (gA k' s') = (foldO [foldO (List.replicate N1 (gA k s)), foldO (List.replicate N2 (gA k s))] :: List.replicate 1 (gA k' s')) ++ [gA k' s'] := rfl
  have hg : gA k' s' A = none := if_neg (by omega)
  rw [e, fold_app, h1]
  show foldO [gA k' s'] A = _
  rw [fold_cons, hg]
theorem top_unit (N1 N2 m : Nat) : foldO (foldO [foldO (List.replicate N1 (gU false)), foldO (List.replicate N2 (gU false))] :: List.replicate m (gU false)) () = some () := by
  have h : foldO [foldO (List.replicate N1 (gU false)), foldO (List.replicate N2 (gU false))] () = some () := by
    rw [fold_cons, fold_gU]
    show foldO [foldO (List.replicate N2 (gU false))] () = _
    rw [fold_cons, fold_gU]
    rfl
  rw [fold_cons, h]
  exact fold_gU m

section
variable {P : Program} {G : Nat} {ext : FuncId → Option Ext} {base : Orc}

theorem array_ok (E : Alike P Tryz.prog base walkG) {d c bm : Nat} {h : AH} (hok : HOK h) (hi : h.imp ≤ h.next) (hn : h.next < 15000000) (hd : 1 ≤ d) :
    ∃ v h', deepF P G ext 2199023255552 base mtG d 6 [.slice (some ⟨bm, 0, none⟩) 2 c] h = some (v, some h') ∧ HOK h' ∧ (v = .agg ⟨itM (.slice (some ⟨bm, 0, none⟩) 2 c)⟩ ∧ h'.next = h.next + 1 ∧ h'.lock = h.lock ∧ h'.imp = h.imp ∧ h'.fl = h.fl ∧ (∀ j, j < h.next → h'.get j = h.get j)) := by
  have u3:=U3 E;have s3:=S3 E
  have u9:=U9 E;have s9:=S9 E
  have u22:=U22 E;have s22:=S22 E
  have u24:=U24 E;have s24:=S24 E
  have u25:=U25 E;have s25:=S25 E
  have u26:=U26 E;have s26:=S26 E
  have u27:=U27 E;have s27:=S27 E
  have u29:=U29 E;have s29:=S29 E;have a29:=A29 E;have e29:=Z29 E
  have u41:=U41 E;have s41:=S41 E
  have u54:=U54 E;have s54:=S54 E
  refine over_to (by omega) rfl (E.no 6 _ _ rfl) rfl ((E.fn 6).trans Tryz.func6) rfl hok ?_
  have hokl := hok.locked
  have hnl : h.locked.next = h.next := rfl
  have hll : h.locked.lock = h.next := rfl
  have hil : h.locked.imp = h.imp := rfl
  have hfll : h.locked.fl = h.fl := rfl
  conv => whnf
  refine ⟨by simp [Tryz.f6], ?_⟩
  repeat ((conv=>whnf);first|((with_reducible refine Exists.intro ?_ (Exists.intro ?_ (And.intro (a:=_=some (Blk.cells _ _)) ?_ ?_)));rotate_left 2;· (try dsimp only);(repeat first|with_reducible assumption|with_reducible exact uA (by assumption)|with_reducible exact nA (by assumption)|((with_reducible refine uN (by assumption) ?_ ?_);· omega)|((with_reducible refine nN (by assumption) ?_ ?_);· omega)))|((with_reducible refine Exists.intro ?_ (And.intro ?_ ?_));rotate_left;· first|with_reducible assumption|((conv=>lhs;arg 2;whnf);with_reducible assumption)|exact rfl)|((with_reducible refine And.intro (a:=AH.may _ _=true) ?_ ?_);· (try dsimp only);(repeat first|with_reducible assumption|((with_reducible refine New.mayNew (by assumption) (by assumption) ?_ ?_ ?_)<;>omega)|refine Upd.mayOf (by assumption) ?_|refine New.mayOf (by assumption) ?_|refine Ke.mayOf (by assumption) ?_))|((with_reducible refine And.intro (a:=szOf _ _=_) ?_ ?_);· refine Eq.trans (by assumption) ?_;kernel_rfl)|((with_reducible refine And.intro (a:=List.all _ _=true) ?_ ?_);· kernel_rfl)|((with_reducible refine And.intro (a:=_=_) ?_ ?_);· first|with_reducible assumption|rfl)|((with_reducible refine And.intro (a:=_≤_) ?_ ?_);· first|omega|exact sz_ok|exact Nat.le_of_ble_eq_true (by kernel_rfl))|((with_reducible refine And.intro (a:=_<_) ?_ ?_);· omega)|((with_reducible refine And.intro (a:=_∧_) ?_ ?_);· constructor<;>first|omega|(simp<;>omega))|(refine brk_true ?_ ?_;· first|rfl|(simp only [q1,q2,q3,q4,q7,q8,ne_eq,q5,q6];omega))|(refine brk_false ?_ ?_;· first|rfl|(simp only [q1,q2,q3,q4,q7,q8,ne_eq,q5,q6];omega))|(intro aa uu;(try dsimp only at uu);have okk:=uu.ok;have nxx:=uu.next;have lkk:=uu.lock;have imm:=uu.imp))
  try conv=>whnf
  have w1 : ∀ j, j < h.next → aa.get j = h.get j := (fun j hj => by repeat first|((with_reducible refine uN (by assumption) ?_ ?_);· omega)|((with_reducible refine nN (by assumption) ?_ ?_);· omega)|exact rfl)
  have w2 : aa.fl = h.fl := (by repeat first|with_reducible assumption|refine Upd.flOf (by assumption) ?_|refine New.flOf (by assumption) ?_|refine Ke.flOf (by assumption) ?_|exact hfl|exact rfl)
  refine ⟨?_, rfl, ?_, w2, w1⟩
  · show aa.next = _; omega
  · show aa.imp = _; omega

theorem flat1 (a b : List Value) : (a :: List.replicate 1 b).flatten = a ++ b := by simp
theorem flat2 (a b : List Value) : (a :: List.replicate 2 b).flatten = a ++ b ++ b := by simp [List.replicate]
/-- The sequence that is made. -/
structure Top (hf : AH) (b0 bm b N1 m : Nat) : Prop where
  row : ∃ C g, hf.get b0 = some (.cells ⟨C⟩ g) ∧ 8 * N1 ≤ C.length ∧ Many C N1 (itA 3 t1B)
  two : ∃ g, hf.get bm = some (.cells ⟨[sl b0 N1, .slice (some ⟨b0, 8 * 1, none⟩) (N1 - 1) (N1 - 1)]⟩ g)
  top : ∃ g, hf.get b = some (.cells ⟨(itM (.slice (some ⟨bm, 0, none⟩) 2 2) :: List.replicate m (itA 3 t2B)).flatten⟩ g)
  l1 : b0 < hf.next
  l2 : bm < hf.next
  l3 : b < hf.next


theorem pack_ok (E : Alike P Tryz.prog base walkG) (B : BeforeG base) {d b0 bm b N1 m cap : Nat} {hf : AH} (T : Top hf b0 bm b N1 m) (hN1 : N1 = 32768) (hm : m ≤ 1) (hok : HOK hf) (hfl : hf.fl = true) (hi : hf.imp ≤ hf.next) (hx : hf.next ≤ 1000000) (hd : 50 ≤ d) :
    ∃ v' h', deepF P G ext 2199023255552 base mtG d 7 [.slice none 0 0, .slice (some ⟨b, 0, none⟩) (m + 1) cap] hf = some (v', some h') ∧ HOK h' ∧ ((∃ c, v' = .tuple #[sl c (65535 + m), .int .i64 0]) ∧ h'.fl = true ∧ deepF P G ext 2199023255552 base mtG d 8 [.slice none 0 0, .slice (some ⟨b, 0, none⟩) (m + 1) cap] h' = some (.int .i64 0, none)) := by
  obtain ⟨⟨C, gc, c1, c2, c3⟩, ⟨gm, m1⟩, ⟨gt, p1⟩, l1, l2, l3⟩ := T
  have hr1 : Row hf.next 8 hf (some ⟨b0, 0, none⟩) (List.replicate N1 (itA 3 t1B)) := Many.row (o := 0) (n := N1) rfl c3 c2 (by omega) l1 c1
  have hr2 : Row hf.next 8 hf (some ⟨b0, 8 * 1, none⟩) (List.replicate (N1 - 1) (itA 3 t1B)) := Many.row (o := 1) (n := N1 - 1) rfl c3 c2 (by omega) l1 c1
  have hrm := two_row l2 m1
  have hr := flat_row (fun x hx => by
    rcases List.mem_cons.1 hx with rfl | hx
    · rfl
    · obtain ⟨_, rfl⟩ := List.mem_replicate.1 hx
      rfl) l3 p1
  have ha := top_add (G := G) (ext := ext) (c := cap) E (by omega) (by omega) (by omega) hr1 hr2 (by decide) (by decide) hrm hr
  obtain ⟨r, hr200, hs⟩ := top_seq (G := G) (ext := ext) (c := cap) E (by omega) (by omega) (by omega) hr1 hr2 B.val1 B.val2 hrm hr
  have hb1 : (N1 + (N1 - 1)) * bl t1B + m * bl t2B ≤ 100000 := by
    show (N1 + (N1 - 1)) * 1 + m * 1 ≤ _
    omega
  obtain ⟨A, hg2, hA⟩ := top_fold (k := 3) (k' := 3) (s := t1B) (s' := t2B) rfl rfl N1 (N1 - 1) m hN1 (by omega) hm
  obtain ⟨v', h', e1, e2, ⟨cc, e3⟩, p1, p2, p3, p4, p5, p6⟩ := atoms_ok (d := d) E hr200 ha hs (fun L hL => top_one E hL (by omega) (by omega) (by omega) hr1 hr2 hrm hr) (top_unit N1 (N1 - 1) m) (fun L bo bt y q1 q2 q3 q4 q5 => top_two E (by omega) (by omega) (by omega) (by omega) hr1 hr2 hrm hr q1 q2 q3 q4 q5 (by decide) (by decide) (by decide) (by decide)) hg2 (by omega) (Ag.refl _ _) rfl (by omega) (by omega) hok hfl hi (by omega) (by omega) (by omega) (by omega) (by omega) (by omega) (by omega)
  refine ⟨v', h', e1, e2, ⟨cc, by rw [e3, hA]⟩, p5, ?_⟩
  have hc := check_ok (d := d) E ha hs p6 (by omega) (by omega) (by omega) e2 p5 (by omega) (by omega) (by omega) (by omega) (by omega)
  rw [hr200] at hc
  exact hc
theorem pack_full (E : Alike P Tryz.prog base walkG) (B : BeforeG base) {d b0 bm b N1 cap m : Nat} {hf : AH} (T : Top hf b0 bm b N1 m) (hN1 : N1 = 32768) (hm : m = 2) (hok : HOK hf) (hfl : hf.fl = true) (hi : hf.imp ≤ hf.next) (hx : hf.next ≤ 1000000) (hd : 50 ≤ d) :
    deepF P G ext 2199023255552 base mtG d 7 [.slice none 0 0, .slice (some ⟨b, 0, none⟩) (m + 1) cap] hf = some (.tuple #[.slice none 0 0, .int .i64 7], none) ∧ deepF P G ext 2199023255552 base mtG d 8 [.slice none 0 0, .slice (some ⟨b, 0, none⟩) (m + 1) cap] hf = some (.int .i64 0, none) := by
  obtain ⟨⟨C, gc, c1, c2, c3⟩, ⟨gm, m1⟩, ⟨gt, p1⟩, l1, l2, l3⟩ := T
  have hr1 : Row hf.next 8 hf (some ⟨b0, 0, none⟩) (List.replicate N1 (itA 3 t1B)) := Many.row (o := 0) (n := N1) rfl c3 c2 (by omega) l1 c1
  have hr2 : Row hf.next 8 hf (some ⟨b0, 8 * 1, none⟩) (List.replicate (N1 - 1) (itA 3 t1B)) := Many.row (o := 1) (n := N1 - 1) rfl c3 c2 (by omega) l1 c1
  have hrm := two_row l2 m1
  have hr := flat_row (fun x hx => by
    rcases List.mem_cons.1 hx with rfl | hx
    · rfl
    · obtain ⟨_, rfl⟩ := List.mem_replicate.1 hx
      rfl) l3 p1
  have ha := top_add (G := G) (ext := ext) (c := cap) E (by omega) (by omega) (by omega) hr1 hr2 (by decide) (by decide) hrm hr
  obtain ⟨r, hr200, hs⟩ := top_seq (G := G) (ext := ext) (c := cap) E (by omega) (by omega) (by omega) hr1 hr2 B.val1 B.val2 hrm hr
  have hb1 : (N1 + (N1 - 1)) * bl t1B + m * bl t2B ≤ 100000 := by
    show (N1 + (N1 - 1)) * 1 + m * 1 ≤ _
    omega
  have hg2 := top_none (k := 3) (k' := 3) (s := t1B) (s' := t2B) rfl rfl N1 (N1 - 1) hN1 (by omega)
  rw [← hm] at hg2
  have hc := check_ok (d := d) E ha hs (Ag.refl _ _) (Nat.le_refl _) (by omega) (by omega) hok hfl hi (by omega) (by omega) (by omega) (by omega)
  rw [hr200] at hc
  exact ⟨atoms_full (d := d) E hr200 ha hs (fun L hL => top_one E hL (by omega) (by omega) (by omega) hr1 hr2 hrm hr) (top_unit N1 (N1 - 1) m) (fun L bo bt y q1 q2 q3 q4 q5 => top_two E (by omega) (by omega) (by omega) (by omega) hr1 hr2 hrm hr q1 q2 q3 q4 q5 (by decide) (by decide) (by decide) (by decide)) hg2 (Ag.refl _ _) rfl (by omega) (by omega) hok hfl hi (by omega) (by omega) (by omega) (by omega) (by omega) (by omega) (by omega), hc⟩

set_option maxRecDepth 100000 in
set_option maxHeartbeats 4000000 in
theorem many_arr (E : Alike P Tryz.prog base walkG) (B : BeforeG base) {d mm : Nat} {h : AH} (hok : HOK h) (hfl : h.fl = true) (hi : h.imp ≤ h.next) (hn : h.next < 1000) (hd : 100 ≤ d) (hm : mm < 256) :
    deepF P G ext 2199023255552 base mtG d 3 [.int .u8 mm, .bool true] h = some (.bool true, none) := by
  have e1 : ∀ z, z = IntKind.i64.wrap ((mm : Int).tmod 3) → z = ((mm % 3 : Nat) : Int) := by
    intro z hz
    rw [Int.tmod_eq_emod_of_nonneg (by omega), wrap_i64 (by omega) (by omega)] at hz
    omega
  have e2 : (mm : Int).tmod 3 = ((mm % 3 : Nat) : Int) := by
    rw [Int.tmod_eq_emod_of_nonneg (by omega)]; omega
  obtain ⟨ii, ji1, ji2, ji3⟩ := infI
  have u3:=U3 E;have s3:=S3 E
  have u4:=U4 E;have s4:=S4 E
  have u5:=U5 E;have s5:=S5 E
  have u9:=U9 E;have s9:=S9 E
  have u22:=U22 E;have s22:=S22 E;have e22:=Z22 E
  have u24:=U24 E;have s24:=S24 E
  have u25:=U25 E;have s25:=S25 E
  have u26:=U26 E;have s26:=S26 E
  have u27:=U27 E;have s27:=S27 E
  have u29:=U29 E;have s29:=S29 E;have e29:=Z29 E
  have u32:=U32 E;have s32:=S32 E
  have u33:=U33 E;have s33:=S33 E
  have u41:=U41 E;have s41:=S41 E
  have u54:=U54 E;have s54:=S54 E
  have u61:=U61 E;have s61:=S61 E
  have u65:=U65 E;have s65:=S65 E
  have u67:=U67 E;have s67:=S67 E
  refine over_eq (by omega) rfl (E.no 3 _ _ rfl) rfl ((E.fn 3).trans Tryz.func3) rfl hok rfl ?_
  have hokl := hok.locked
  have hnl : h.locked.next = h.next := rfl
  have hll : h.locked.lock = h.next := rfl
  have hil : h.locked.imp = h.imp := rfl
  have hfll : h.locked.fl = h.fl := rfl
  conv => whnf
  refine ⟨by simp [Tryz.f3], ?_⟩
  repeat ((conv=>whnf);first|((with_reducible refine Exists.intro ?_ (Exists.intro ?_ (And.intro (a:=_=some (Blk.cells _ _)) ?_ ?_)));rotate_left 2;· (try dsimp only);(repeat first|with_reducible assumption|with_reducible exact uA (by assumption)|with_reducible exact nA (by assumption)|((with_reducible refine uN (by assumption) ?_ ?_);· omega)|((with_reducible refine nN (by assumption) ?_ ?_);· omega)))|((with_reducible refine Exists.intro ?_ (And.intro ?_ ?_));rotate_left;· first|with_reducible assumption|((conv=>lhs;arg 2;whnf);with_reducible assumption)|exact rfl)|((with_reducible refine And.intro (a:=AH.may _ _=true) ?_ ?_);· (try dsimp only);(repeat first|with_reducible assumption|((with_reducible refine New.mayNew (by assumption) (by assumption) ?_ ?_ ?_)<;>omega)|refine Upd.mayOf (by assumption) ?_|refine New.mayOf (by assumption) ?_|refine Ke.mayOf (by assumption) ?_))|((with_reducible refine And.intro (a:=szOf _ _=_) ?_ ?_);· refine Eq.trans (by assumption) ?_;kernel_rfl)|((with_reducible refine And.intro (a:=List.all _ _=true) ?_ ?_);· kernel_rfl)|((with_reducible refine And.intro (a:=_=_) ?_ ?_);· first|with_reducible assumption|rfl)|((with_reducible refine And.intro (a:=_≤_) ?_ ?_);· first|omega|exact sz_ok|exact Nat.le_of_ble_eq_true (by kernel_rfl))|((with_reducible refine And.intro (a:=_<_) ?_ ?_);· omega)|((with_reducible refine And.intro (a:=_∧_) ?_ ?_);· constructor<;>first|omega|(simp<;>omega))|(refine brk_true ?_ ?_;· first|rfl|(simp only [q1,q2,q3,q4,q7,q8,ne_eq,q5,q6];omega))|(refine brk_false ?_ ?_;· first|rfl|(simp only [q1,q2,q3,q4,q7,q8,ne_eq,q5,q6];omega))|(intro aa uu;(try dsimp only at uu);have okk:=uu.ok;have nxx:=uu.next;have lkk:=uu.lock;have imm:=uu.imp))
  try conv=>whnf
  intro z hz
  have hz := e1 z hz
  obtain ⟨n, hN⟩ : ∃ n, n = 65535 + mm % 3 := ⟨_, rfl⟩
  have hn2 : 65535 ≤ n ∧ n ≤ 65537 := by omega
  obtain ⟨n2, hN2⟩ : ∃ n2, n2 = mm % 3 := ⟨_, rfl⟩
  rw [← hN2] at hz
  subst hz
  repeat ((conv=>whnf);first|((with_reducible refine Exists.intro ?_ (Exists.intro ?_ (And.intro (a:=_=some (Blk.cells _ _)) ?_ ?_)));rotate_left 2;· (try dsimp only);(repeat first|with_reducible assumption|with_reducible exact uA (by assumption)|with_reducible exact nA (by assumption)|((with_reducible refine uN (by assumption) ?_ ?_);· omega)|((with_reducible refine nN (by assumption) ?_ ?_);· omega)))|((with_reducible refine Exists.intro ?_ (And.intro ?_ ?_));rotate_left;· first|with_reducible assumption|((conv=>lhs;arg 2;whnf);with_reducible assumption)|exact rfl)|((with_reducible refine And.intro (a:=AH.may _ _=true) ?_ ?_);· (try dsimp only);(repeat first|with_reducible assumption|((with_reducible refine New.mayNew (by assumption) (by assumption) ?_ ?_ ?_)<;>omega)|refine Upd.mayOf (by assumption) ?_|refine New.mayOf (by assumption) ?_|refine Ke.mayOf (by assumption) ?_))|((with_reducible refine And.intro (a:=szOf _ _=_) ?_ ?_);· refine Eq.trans (by assumption) ?_;kernel_rfl)|((with_reducible refine And.intro (a:=List.all _ _=true) ?_ ?_);· kernel_rfl)|((with_reducible refine And.intro (a:=_=_) ?_ ?_);· first|with_reducible assumption|rfl)|((with_reducible refine And.intro (a:=_≤_) ?_ ?_);· first|omega|exact sz_ok|exact Nat.le_of_ble_eq_true (by kernel_rfl))|((with_reducible refine And.intro (a:=_<_) ?_ ?_);· omega)|((with_reducible refine And.intro (a:=_∧_) ?_ ?_);· constructor<;>first|omega|(simp<;>omega))|(refine brk_true ?_ ?_;· first|rfl|(simp only [q1,q2,q3,q4,q7,q8,ne_eq,q5,q6];omega))|(refine brk_false ?_ ?_;· first|rfl|(simp only [q1,q2,q3,q4,q7,q8,ne_eq,q5,q6];omega))|(intro aa uu;(try dsimp only at uu);have okk:=uu.ok;have nxx:=uu.next;have lkk:=uu.lock;have imm:=uu.imp))
  try conv=>whnf
  rw [show (65535 + (n2 : Int)) = (n : Int) by omega]
  obtain ⟨N1, hN1⟩ : ∃ N1, N1 = 32768 := ⟨_, rfl⟩
  have hmul : N1 * (ii.bytes + 1) ≤ 32768 * 1001 := Nat.mul_le_mul (by omega) (by omega)
  obtain ⟨h5, e5, n5⟩ := makeS_new (k1 := .i64) (k2 := .i64) (l := N1) (c := N1) hokl u22 ((E.inf 29).trans ji1) (Z29 E) (by rw [ji2]; rfl) (Nat.le_refl _) (by omega) (by omega)
  rw [show (N1 : Int) = 32768 by omega] at e5
  refine ⟨_, _, e5, n5.ok, ?_⟩
  have okk5 := n5.ok
  have nxx5 := n5.next
  have lkk5 := n5.lock
  have imm5 := n5.imp
  have fl5 : h5.fl = true := n5.fl.trans hfl
  obtain ⟨C0, hC0, hCl⟩ : ∃ C, h5.get h.next = some (.cells ⟨C⟩ .no) ∧ C.length = 8 * N1 := ⟨_, n5.at, by rw [zeros_len]; show N1 * 8 = _; omega⟩
  have hag5 : ∀ j, j < h.next → h5.get j = h.get j := fun j hj => by rw [n5.get, if_neg (by show ¬ j = h.next; omega)]; rfl
  repeat ((conv=>whnf);first|((with_reducible refine Exists.intro ?_ (Exists.intro ?_ (And.intro (a:=_=some (Blk.cells _ _)) ?_ ?_)));rotate_left 2;· (try dsimp only);(repeat first|with_reducible assumption|with_reducible exact uA (by assumption)|with_reducible exact nA (by assumption)|((with_reducible refine uN (by assumption) ?_ ?_);· omega)|((with_reducible refine nN (by assumption) ?_ ?_);· omega)))|((with_reducible refine Exists.intro ?_ (And.intro ?_ ?_));rotate_left;· first|with_reducible assumption|((conv=>lhs;arg 2;whnf);with_reducible assumption)|exact rfl)|((with_reducible refine And.intro (a:=AH.may _ _=true) ?_ ?_);· (try dsimp only);(repeat first|with_reducible assumption|((with_reducible refine New.mayNew (by assumption) (by assumption) ?_ ?_ ?_)<;>omega)|refine Upd.mayOf (by assumption) ?_|refine New.mayOf (by assumption) ?_|refine Ke.mayOf (by assumption) ?_))|((with_reducible refine And.intro (a:=szOf _ _=_) ?_ ?_);· refine Eq.trans (by assumption) ?_;kernel_rfl)|((with_reducible refine And.intro (a:=List.all _ _=true) ?_ ?_);· kernel_rfl)|((with_reducible refine And.intro (a:=_=_) ?_ ?_);· first|with_reducible assumption|rfl)|((with_reducible refine And.intro (a:=_≤_) ?_ ?_);· first|omega|exact sz_ok|exact Nat.le_of_ble_eq_true (by kernel_rfl))|((with_reducible refine And.intro (a:=_<_) ?_ ?_);· omega)|((with_reducible refine And.intro (a:=_∧_) ?_ ?_);· constructor<;>first|omega|(simp<;>omega))|(refine brk_true ?_ ?_;· first|rfl|(simp only [q1,q2,q3,q4,q7,q8,ne_eq,q5,q6];omega))|(refine brk_false ?_ ?_;· first|rfl|(simp only [q1,q2,q3,q4,q7,q8,ne_eq,q5,q6];omega))|(intro aa uu;(try dsimp only at uu);have okk:=uu.ok;have nxx:=uu.next;have lkk:=uu.lock;have imm:=uu.imp))
  try conv=>whnf
  refine .inl ⟨fun mz env h' => sh 7 env = true ∧ ∃ (i : Nat) (C : List Value), i ≤ N1 ∧ mz = N1 - i ∧ has env [(0, .int .u8 mm), (4, .bool false), (5, .int .i64 n), (6, .slice none 0 0), (7, sl h.next N1), (20, .int .i64 N1), (21, .int .i64 i)] ∧ h'.get h.next = some (.cells ⟨C⟩ .no) ∧ C.length = 8 * N1 ∧ Many C i (itA 3 t1B) ∧ h'.next = h.next + 1 ∧ h'.lock = h.next ∧ h'.imp = h.imp ∧ h'.fl = true, N1, by omega,
    ⟨by kernel_rfl, 0, C0, by omega, by omega, ⟨by kernel_rfl, by kernel_rfl, by kernel_rfl, by kernel_rfl, by kernel_rfl, by kernel_rfl, by kernel_rfl, trivial⟩, hC0, hCl, (fun j hj => by omega), by omega, by omega, by omega, fl5⟩, ?_⟩
  rintro mz env h' hok' ⟨hsh, i, C, hi1, hmz, hhas, r1, r2, r3, r4, r5, r6, r7⟩
  rw [env_form hsh hhas]
  repeat ((conv=>whnf);first|((with_reducible refine Exists.intro ?_ (Exists.intro ?_ (And.intro (a:=_=some (Blk.cells _ _)) ?_ ?_)));rotate_left 2;· (try dsimp only);(repeat first|with_reducible assumption|with_reducible exact uA (by assumption)|with_reducible exact nA (by assumption)|((with_reducible refine uN (by assumption) ?_ ?_);· omega)|((with_reducible refine nN (by assumption) ?_ ?_);· omega)))|((with_reducible refine Exists.intro ?_ (And.intro ?_ ?_));rotate_left;· first|with_reducible assumption|((conv=>lhs;arg 2;whnf);with_reducible assumption)|exact rfl)|((with_reducible refine And.intro (a:=AH.may _ _=true) ?_ ?_);· (try dsimp only);(repeat first|with_reducible assumption|((with_reducible refine New.mayNew (by assumption) (by assumption) ?_ ?_ ?_)<;>omega)|refine Upd.mayOf (by assumption) ?_|refine New.mayOf (by assumption) ?_|refine Ke.mayOf (by assumption) ?_))|((with_reducible refine And.intro (a:=szOf _ _=_) ?_ ?_);· refine Eq.trans (by assumption) ?_;kernel_rfl)|((with_reducible refine And.intro (a:=List.all _ _=true) ?_ ?_);· kernel_rfl)|((with_reducible refine And.intro (a:=_=_) ?_ ?_);· first|with_reducible assumption|rfl)|((with_reducible refine And.intro (a:=_≤_) ?_ ?_);· first|omega|exact sz_ok|exact Nat.le_of_ble_eq_true (by kernel_rfl))|((with_reducible refine And.intro (a:=_<_) ?_ ?_);· omega)|((with_reducible refine And.intro (a:=_∧_) ?_ ?_);· constructor<;>first|omega|(simp<;>omega))|(refine brk_true ?_ ?_;· first|rfl|(simp only [q1,q2,q3,q4,q7,q8,ne_eq,q5,q6];omega))|(refine brk_false ?_ ?_;· first|rfl|(simp only [q1,q2,q3,q4,q7,q8,ne_eq,q5,q6];omega))|(intro aa uu;(try dsimp only at uu);have okk:=uu.ok;have nxx:=uu.next;have lkk:=uu.lock;have imm:=uu.imp))
  try conv=>whnf
  refine brk_of (fun hlt => ?_) (fun hge => ?_)
  · have hlt : i < N1 := by simpa using hlt
    have sz_ok : 0 + i * 8 + 8 ≤ C.length := by omega
    have r8 : h'.may h.next = true := may_ge (by omega) (by omega) (by omega)
    repeat ((conv=>whnf);first|((with_reducible refine Exists.intro ?_ (Exists.intro ?_ (And.intro (a:=_=some (Blk.cells _ _)) ?_ ?_)));rotate_left 2;· (try dsimp only);(repeat first|with_reducible assumption|with_reducible exact uA (by assumption)|with_reducible exact nA (by assumption)|((with_reducible refine uN (by assumption) ?_ ?_);· omega)|((with_reducible refine nN (by assumption) ?_ ?_);· omega)))|((with_reducible refine Exists.intro ?_ (And.intro ?_ ?_));rotate_left;· first|with_reducible assumption|((conv=>lhs;arg 2;whnf);with_reducible assumption)|exact rfl)|((with_reducible refine And.intro (a:=AH.may _ _=true) ?_ ?_);· (try dsimp only);(repeat first|with_reducible assumption|((with_reducible refine New.mayNew (by assumption) (by assumption) ?_ ?_ ?_)<;>omega)|refine Upd.mayOf (by assumption) ?_|refine New.mayOf (by assumption) ?_|refine Ke.mayOf (by assumption) ?_))|((with_reducible refine And.intro (a:=szOf _ _=_) ?_ ?_);· refine Eq.trans (by assumption) ?_;kernel_rfl)|((with_reducible refine And.intro (a:=List.all _ _=true) ?_ ?_);· kernel_rfl)|((with_reducible refine And.intro (a:=_=_) ?_ ?_);· first|with_reducible assumption|rfl)|((with_reducible refine And.intro (a:=_≤_) ?_ ?_);· first|omega|exact sz_ok|exact Nat.le_of_ble_eq_true (by kernel_rfl))|((with_reducible refine And.intro (a:=_<_) ?_ ?_);· omega)|((with_reducible refine And.intro (a:=_∧_) ?_ ?_);· constructor<;>first|omega|(simp<;>omega))|(refine brk_true ?_ ?_;· first|rfl|(simp only [q1,q2,q3,q4,q7,q8,ne_eq,q5,q6];omega))|(refine brk_false ?_ ?_;· first|rfl|(simp only [q1,q2,q3,q4,q7,q8,ne_eq,q5,q6];omega))|(intro aa uu;(try dsimp only at uu);have okk:=uu.ok;have nxx:=uu.next;have lkk:=uu.lock;have imm:=uu.imp))
    try conv=>whnf
    refine callB_pure ((E.fn 5).trans Tryz.func5) rfl ?_
    refine ⟨by assumption, _, (base_eq rfl (B.num1 _ r7) _), ?_⟩
    repeat ((conv=>whnf);first|((with_reducible refine Exists.intro ?_ (Exists.intro ?_ (And.intro (a:=_=some (Blk.cells _ _)) ?_ ?_)));rotate_left 2;· (try dsimp only);(repeat first|with_reducible assumption|with_reducible exact uA (by assumption)|with_reducible exact nA (by assumption)|((with_reducible refine uN (by assumption) ?_ ?_);· omega)|((with_reducible refine nN (by assumption) ?_ ?_);· omega)))|((with_reducible refine Exists.intro ?_ (And.intro ?_ ?_));rotate_left;· first|with_reducible assumption|((conv=>lhs;arg 2;whnf);with_reducible assumption)|exact rfl)|((with_reducible refine And.intro (a:=AH.may _ _=true) ?_ ?_);· (try dsimp only);(repeat first|with_reducible assumption|((with_reducible refine New.mayNew (by assumption) (by assumption) ?_ ?_ ?_)<;>omega)|refine Upd.mayOf (by assumption) ?_|refine New.mayOf (by assumption) ?_|refine Ke.mayOf (by assumption) ?_))|((with_reducible refine And.intro (a:=szOf _ _=_) ?_ ?_);· refine Eq.trans (by assumption) ?_;kernel_rfl)|((with_reducible refine And.intro (a:=List.all _ _=true) ?_ ?_);· kernel_rfl)|((with_reducible refine And.intro (a:=_=_) ?_ ?_);· first|with_reducible assumption|rfl)|((with_reducible refine And.intro (a:=_≤_) ?_ ?_);· first|omega|exact sz_ok|exact Nat.le_of_ble_eq_true (by kernel_rfl))|((with_reducible refine And.intro (a:=_<_) ?_ ?_);· omega)|((with_reducible refine And.intro (a:=_∧_) ?_ ?_);· constructor<;>first|omega|(simp<;>omega))|(refine brk_true ?_ ?_;· first|rfl|(simp only [q1,q2,q3,q4,q7,q8,ne_eq,q5,q6];omega))|(refine brk_false ?_ ?_;· first|rfl|(simp only [q1,q2,q3,q4,q7,q8,ne_eq,q5,q6];omega))|(intro aa uu;(try dsimp only at uu);have okk:=uu.ok;have nxx:=uu.next;have lkk:=uu.lock;have imm:=uu.imp))
    try conv=>whnf
    have w5 : aa.get h.next = some (.cells ⟨(putL ⟨C⟩ (8 * i) (itA 3 t1B)).toList⟩ .no) := by
      rw [uu.at]
      show some (Blk.cells (putL ⟨C⟩ (0 + i * 8) (itA 3 t1B)) .no) = _
      rw [Nat.zero_add, Nat.mul_comm]
    have w6 : (putL ⟨C⟩ (8 * i) (itA 3 t1B)).toList.length = 8 * N1 := by
      rw [Array.length_toList, putL_size]
      exact r2
    have w7 : aa.fl = true := uu.fl.trans r7
    exact ⟨N1 - (i + 1), by omega, by kernel_rfl, i + 1, (putL ⟨C⟩ (8 * i) (itA 3 t1B)).toList, by omega, rfl, ⟨by kernel_rfl, by kernel_rfl, by kernel_rfl, by kernel_rfl, by kernel_rfl, by kernel_rfl, by kernel_rfl, trivial⟩, w5, w6, r3.put rfl (by omega), by omega, by omega, by omega, w7⟩
  · have hge2 : ¬ i < N1 := by simpa using hge
    have hge : i = N1 := by omega
    repeat ((conv=>whnf);first|((with_reducible refine Exists.intro ?_ (And.intro (a:=_=some (Blk.cells _ .no)) ?_ ?_));rotate_left;· (try dsimp only);(repeat first|with_reducible assumption|with_reducible exact uA (by assumption)|with_reducible exact nA (by assumption)|((with_reducible refine uN (by assumption) ?_ ?_);· omega)|((with_reducible refine nN (by assumption) ?_ ?_);· omega)))|((with_reducible refine Exists.intro ?_ (Exists.intro ?_ (And.intro (a:=_=some (Blk.cells _ _)) ?_ ?_)));rotate_left 2;· (try dsimp only);(repeat first|with_reducible assumption|with_reducible exact uA (by assumption)|with_reducible exact nA (by assumption)|((with_reducible refine uN (by assumption) ?_ ?_);· omega)|((with_reducible refine nN (by assumption) ?_ ?_);· omega)))|((with_reducible refine Exists.intro ?_ (And.intro ?_ ?_));rotate_left;· first|with_reducible assumption|((conv=>lhs;arg 2;whnf);with_reducible assumption)|exact rfl)|((with_reducible refine And.intro (a:=AH.may _ _=true) ?_ ?_);· (try dsimp only);(repeat first|with_reducible assumption|((with_reducible refine New.mayNew (by assumption) (by assumption) ?_ ?_ ?_)<;>omega)|refine Upd.mayOf (by assumption) ?_|refine New.mayOf (by assumption) ?_|refine Ke.mayOf (by assumption) ?_))|((with_reducible refine And.intro (a:=szOf _ _=_) ?_ ?_);· refine Eq.trans (by assumption) ?_;kernel_rfl)|((with_reducible refine And.intro (a:=List.all _ _=true) ?_ ?_);· kernel_rfl)|((with_reducible refine And.intro (a:=_=_) ?_ ?_);· first|with_reducible assumption|rfl)|((with_reducible refine And.intro (a:=_≤_) ?_ ?_);· first|omega|exact sz_ok|exact Nat.le_of_ble_eq_true (by kernel_rfl))|((with_reducible refine And.intro (a:=_<_) ?_ ?_);· omega)|((with_reducible refine And.intro (a:=_∧_) ?_ ?_);· constructor<;>first|omega|(simp<;>omega))|(refine brk_true ?_ ?_;· first|rfl|(simp only [q1,q2,q3,q4,q7,q8,ne_eq,q5,q6];omega))|(refine brk_false ?_ ?_;· first|rfl|(simp only [q1,q2,q3,q4,q7,q8,ne_eq,q5,q6];omega))|(intro aa uu;(try dsimp only at uu);have okk:=uu.ok;have nxx:=uu.next;have lkk:=uu.lock;have imm:=uu.imp))
    try conv=>whnf
    have hb : Nat.beq N1 (Int.toNat 1) = false := by
      cases hb : Nat.beq N1 (Int.toNat 1) with
      | false => rfl
      | true =>
        have := beq_iff.1 hb
        have : N1 = 1 := this
        omega
    rw [hb] at uu
    have v5 : New h' aa (.cells ⟨[sl h.next N1, .slice (some ⟨h.next, 8 * 1, none⟩) (N1 - 1) (N1 - 1)]⟩ .no) := uu
    refine callB_heap ((E.fn 6).trans Tryz.func6) rfl ?_
    refine ⟨_, (array_ok E (by assumption) (by omega) (by omega) (by omega)), ?_⟩
    rintro v6 h6 hok6 ⟨rfl, p1, p2, p3, p4, p5⟩
    repeat ((conv=>whnf);first|((with_reducible refine Exists.intro ?_ (Exists.intro ?_ (And.intro (a:=_=some (Blk.cells _ _)) ?_ ?_)));rotate_left 2;· (try dsimp only);(repeat first|with_reducible assumption|with_reducible exact uA (by assumption)|with_reducible exact nA (by assumption)|((with_reducible refine uN (by assumption) ?_ ?_);· omega)|((with_reducible refine nN (by assumption) ?_ ?_);· omega)))|((with_reducible refine Exists.intro ?_ (And.intro ?_ ?_));rotate_left;· first|with_reducible assumption|((conv=>lhs;arg 2;whnf);with_reducible assumption)|exact rfl)|((with_reducible refine And.intro (a:=AH.may _ _=true) ?_ ?_);· (try dsimp only);(repeat first|with_reducible assumption|((with_reducible refine New.mayNew (by assumption) (by assumption) ?_ ?_ ?_)<;>omega)|refine Upd.mayOf (by assumption) ?_|refine New.mayOf (by assumption) ?_|refine Ke.mayOf (by assumption) ?_))|((with_reducible refine And.intro (a:=szOf _ _=_) ?_ ?_);· refine Eq.trans (by assumption) ?_;kernel_rfl)|((with_reducible refine And.intro (a:=List.all _ _=true) ?_ ?_);· kernel_rfl)|((with_reducible refine And.intro (a:=_=_) ?_ ?_);· first|with_reducible assumption|rfl)|((with_reducible refine And.intro (a:=_≤_) ?_ ?_);· first|omega|exact sz_ok|exact Nat.le_of_ble_eq_true (by kernel_rfl))|((with_reducible refine And.intro (a:=_<_) ?_ ?_);· omega)|((with_reducible refine And.intro (a:=_∧_) ?_ ?_);· constructor<;>first|omega|(simp<;>omega))|(refine brk_true ?_ ?_;· first|rfl|(simp only [q1,q2,q3,q4,q7,q8,ne_eq,q5,q6];omega))|(refine brk_false ?_ ?_;· first|rfl|(simp only [q1,q2,q3,q4,q7,q8,ne_eq,q5,q6];omega))|(intro aa uu;(try dsimp only at uu);have okk:=uu.ok;have nxx:=uu.next;have lkk:=uu.lock;have imm:=uu.imp))
    try conv=>whnf
    rename_i a1 u1 o1 n1 l1 i1
    have g0 : aa.get h.next = some (.cells ⟨C⟩ .no) := by
      rw [uu.get, if_neg (by omega), p5 _ (by omega), v5.get, if_neg (by omega)]
      exact r1
    have gm : aa.get h'.next = some (.cells ⟨[sl h.next N1, .slice (some ⟨h.next, 8 * 1, none⟩) (N1 - 1) (N1 - 1)]⟩ .no) := by
      rw [uu.get, if_neg (by omega), p5 _ (by omega)]
      exact v5.at
    have gl : aa.get h6.next = some (.cells ⟨itM (.slice (some ⟨h'.next, 0, none⟩) 2 2)⟩ .no) := uu.at
    have hfa : aa.fl = true := by rw [uu.fl, p4, u1.fl]; exact r7
    have r3' : Many C N1 (itA 3 t1B) := by rw [← hge]; exact r3
    rcases (show n2 = 0 ∨ n2 = 1 ∨ n2 = 2 by omega) with hm0 | hm0 | hm0
    · have ht : (mm : Int).tmod 3 = 0 := by rw [e2]; omega
      rw [ht]
      refine .inr ⟨1, by omega, ?_⟩
      repeat ((conv=>whnf);first|((with_reducible refine Exists.intro ?_ (Exists.intro ?_ (And.intro (a:=_=some (Blk.cells _ _)) ?_ ?_)));rotate_left 2;· (try dsimp only);(repeat first|with_reducible assumption|with_reducible exact uA (by assumption)|with_reducible exact nA (by assumption)|((with_reducible refine uN (by assumption) ?_ ?_);· omega)|((with_reducible refine nN (by assumption) ?_ ?_);· omega)))|((with_reducible refine Exists.intro ?_ (And.intro ?_ ?_));rotate_left;· first|with_reducible assumption|((conv=>lhs;arg 2;whnf);with_reducible assumption)|exact rfl)|((with_reducible refine And.intro (a:=AH.may _ _=true) ?_ ?_);· (try dsimp only);(repeat first|with_reducible assumption|((with_reducible refine New.mayNew (by assumption) (by assumption) ?_ ?_ ?_)<;>omega)|refine Upd.mayOf (by assumption) ?_|refine New.mayOf (by assumption) ?_|refine Ke.mayOf (by assumption) ?_))|((with_reducible refine And.intro (a:=szOf _ _=_) ?_ ?_);· refine Eq.trans (by assumption) ?_;kernel_rfl)|((with_reducible refine And.intro (a:=List.all _ _=true) ?_ ?_);· kernel_rfl)|((with_reducible refine And.intro (a:=_=_) ?_ ?_);· first|with_reducible assumption|rfl)|((with_reducible refine And.intro (a:=_≤_) ?_ ?_);· first|omega|exact sz_ok|exact Nat.le_of_ble_eq_true (by kernel_rfl))|((with_reducible refine And.intro (a:=_<_) ?_ ?_);· omega)|((with_reducible refine And.intro (a:=_∧_) ?_ ?_);· constructor<;>first|omega|(simp<;>omega))|(refine brk_true ?_ ?_;· first|rfl|(simp only [q1,q2,q3,q4,q7,q8,ne_eq,q5,q6];omega))|(refine brk_false ?_ ?_;· first|rfl|(simp only [q1,q2,q3,q4,q7,q8,ne_eq,q5,q6];omega))|(intro aa uu;(try dsimp only at uu);have okk:=uu.ok;have nxx:=uu.next;have lkk:=uu.lock;have imm:=uu.imp))
      try conv=>whnf
      have T : Top aa h.next h'.next h6.next N1 0 := ⟨⟨C, .no, g0, by omega, r3'⟩, ⟨_, gm⟩, ⟨.no, gl⟩, by omega, by omega, by omega⟩
      obtain ⟨v', h9, q1, q2, ⟨cc, rfl⟩, q3, q4⟩ := pack_ok (d := d - 1) (cap := 1) (ext := ext) (G := G) E B T hN1 (by omega) (by assumption) hfa (by omega) (by omega) (by omega)
      have hdec : decide ((n : Int) ≤ 65536) = true := decide_eq_true (by omega)
      have heq : (((65535 + 0 : Nat) : Int) == (n : Int)) = true := by rw [beq_iff_eq]; omega
      refine callB_heap ((E.fn 7).trans Tryz.func7) rfl ?_
      refine ⟨fun v hz => v = .tuple #[sl cc (65535 + 0), .int .i64 0] ∧ hz = h9, ⟨_, _, q1, q2, rfl, rfl⟩, ?_⟩
      rintro v3 h10 hok10 ⟨rfl, rfl⟩
      repeat ((conv=>whnf);first|((with_reducible refine Exists.intro ?_ (Exists.intro ?_ (And.intro (a:=_=some (Blk.cells _ _)) ?_ ?_)));rotate_left 2;· (try dsimp only);(repeat first|with_reducible assumption|with_reducible exact uA (by assumption)|with_reducible exact nA (by assumption)|((with_reducible refine uN (by assumption) ?_ ?_);· omega)|((with_reducible refine nN (by assumption) ?_ ?_);· omega)))|((with_reducible refine Exists.intro ?_ (And.intro ?_ ?_));rotate_left;· first|with_reducible assumption|((conv=>lhs;arg 2;whnf);with_reducible assumption)|exact rfl)|((with_reducible refine And.intro (a:=AH.may _ _=true) ?_ ?_);· (try dsimp only);(repeat first|with_reducible assumption|((with_reducible refine New.mayNew (by assumption) (by assumption) ?_ ?_ ?_)<;>omega)|refine Upd.mayOf (by assumption) ?_|refine New.mayOf (by assumption) ?_|refine Ke.mayOf (by assumption) ?_))|((with_reducible refine And.intro (a:=szOf _ _=_) ?_ ?_);· refine Eq.trans (by assumption) ?_;kernel_rfl)|((with_reducible refine And.intro (a:=List.all _ _=true) ?_ ?_);· kernel_rfl)|((with_reducible refine And.intro (a:=_=_) ?_ ?_);· first|with_reducible assumption|rfl)|((with_reducible refine And.intro (a:=_≤_) ?_ ?_);· first|omega|exact sz_ok|exact Nat.le_of_ble_eq_true (by kernel_rfl))|((with_reducible refine And.intro (a:=_<_) ?_ ?_);· omega)|((with_reducible refine And.intro (a:=_∧_) ?_ ?_);· constructor<;>first|omega|(simp<;>omega))|(refine brk_true ?_ ?_;· first|rfl|(simp only [q1,q2,q3,q4,q7,q8,ne_eq,q5,q6];omega))|(refine brk_false ?_ ?_;· first|rfl|(simp only [q1,q2,q3,q4,q7,q8,ne_eq,q5,q6];omega))|(intro aa uu;(try dsimp only at uu);have okk:=uu.ok;have nxx:=uu.next;have lkk:=uu.lock;have imm:=uu.imp))
      try conv=>whnf
      refine callB_pure ((E.fn 8).trans Tryz.func8) rfl ?_
      refine ⟨by assumption, _, (q4), ?_⟩
      repeat ((conv=>whnf);first|((with_reducible refine Exists.intro ?_ (Exists.intro ?_ (And.intro (a:=_=some (Blk.cells _ _)) ?_ ?_)));rotate_left 2;· (try dsimp only);(repeat first|with_reducible assumption|with_reducible exact uA (by assumption)|with_reducible exact nA (by assumption)|((with_reducible refine uN (by assumption) ?_ ?_);· omega)|((with_reducible refine nN (by assumption) ?_ ?_);· omega)))|((with_reducible refine Exists.intro ?_ (And.intro ?_ ?_));rotate_left;· first|with_reducible assumption|((conv=>lhs;arg 2;whnf);with_reducible assumption)|exact rfl)|((with_reducible refine And.intro (a:=AH.may _ _=true) ?_ ?_);· (try dsimp only);(repeat first|with_reducible assumption|((with_reducible refine New.mayNew (by assumption) (by assumption) ?_ ?_ ?_)<;>omega)|refine Upd.mayOf (by assumption) ?_|refine New.mayOf (by assumption) ?_|refine Ke.mayOf (by assumption) ?_))|((with_reducible refine And.intro (a:=szOf _ _=_) ?_ ?_);· refine Eq.trans (by assumption) ?_;kernel_rfl)|((with_reducible refine And.intro (a:=List.all _ _=true) ?_ ?_);· kernel_rfl)|((with_reducible refine And.intro (a:=_=_) ?_ ?_);· first|with_reducible assumption|rfl)|((with_reducible refine And.intro (a:=_≤_) ?_ ?_);· first|omega|exact sz_ok|exact Nat.le_of_ble_eq_true (by kernel_rfl))|((with_reducible refine And.intro (a:=_<_) ?_ ?_);· omega)|((with_reducible refine And.intro (a:=_∧_) ?_ ?_);· constructor<;>first|omega|(simp<;>omega))|(refine brk_true ?_ ?_;· first|rfl|(simp only [q1,q2,q3,q4,q7,q8,ne_eq,q5,q6];omega))|(refine brk_false ?_ ?_;· first|rfl|(simp only [q1,q2,q3,q4,q7,q8,ne_eq,q5,q6];omega))|(intro aa uu;(try dsimp only at uu);have okk:=uu.ok;have nxx:=uu.next;have lkk:=uu.lock;have imm:=uu.imp))
      try conv=>whnf
      rw [hdec]
      repeat ((conv=>whnf);first|((with_reducible refine Exists.intro ?_ (Exists.intro ?_ (And.intro (a:=_=some (Blk.cells _ _)) ?_ ?_)));rotate_left 2;· (try dsimp only);(repeat first|with_reducible assumption|with_reducible exact uA (by assumption)|with_reducible exact nA (by assumption)|((with_reducible refine uN (by assumption) ?_ ?_);· omega)|((with_reducible refine nN (by assumption) ?_ ?_);· omega)))|((with_reducible refine Exists.intro ?_ (And.intro ?_ ?_));rotate_left;· first|with_reducible assumption|((conv=>lhs;arg 2;whnf);with_reducible assumption)|exact rfl)|((with_reducible refine And.intro (a:=AH.may _ _=true) ?_ ?_);· (try dsimp only);(repeat first|with_reducible assumption|((with_reducible refine New.mayNew (by assumption) (by assumption) ?_ ?_ ?_)<;>omega)|refine Upd.mayOf (by assumption) ?_|refine New.mayOf (by assumption) ?_|refine Ke.mayOf (by assumption) ?_))|((with_reducible refine And.intro (a:=szOf _ _=_) ?_ ?_);· refine Eq.trans (by assumption) ?_;kernel_rfl)|((with_reducible refine And.intro (a:=List.all _ _=true) ?_ ?_);· kernel_rfl)|((with_reducible refine And.intro (a:=_=_) ?_ ?_);· first|with_reducible assumption|rfl)|((with_reducible refine And.intro (a:=_≤_) ?_ ?_);· first|omega|exact sz_ok|exact Nat.le_of_ble_eq_true (by kernel_rfl))|((with_reducible refine And.intro (a:=_<_) ?_ ?_);· omega)|((with_reducible refine And.intro (a:=_∧_) ?_ ?_);· constructor<;>first|omega|(simp<;>omega))|(refine brk_true ?_ ?_;· first|rfl|(simp only [q1,q2,q3,q4,q7,q8,ne_eq,q5,q6];omega))|(refine brk_false ?_ ?_;· first|rfl|(simp only [q1,q2,q3,q4,q7,q8,ne_eq,q5,q6];omega))|(intro aa uu;(try dsimp only at uu);have okk:=uu.ok;have nxx:=uu.next;have lkk:=uu.lock;have imm:=uu.imp))
      try conv=>whnf
      rw [heq]
      repeat ((conv=>whnf);first|((with_reducible refine Exists.intro ?_ (Exists.intro ?_ (And.intro (a:=_=some (Blk.cells _ _)) ?_ ?_)));rotate_left 2;· (try dsimp only);(repeat first|with_reducible assumption|with_reducible exact uA (by assumption)|with_reducible exact nA (by assumption)|((with_reducible refine uN (by assumption) ?_ ?_);· omega)|((with_reducible refine nN (by assumption) ?_ ?_);· omega)))|((with_reducible refine Exists.intro ?_ (And.intro ?_ ?_));rotate_left;· first|with_reducible assumption|((conv=>lhs;arg 2;whnf);with_reducible assumption)|exact rfl)|((with_reducible refine And.intro (a:=AH.may _ _=true) ?_ ?_);· (try dsimp only);(repeat first|with_reducible assumption|((with_reducible refine New.mayNew (by assumption) (by assumption) ?_ ?_ ?_)<;>omega)|refine Upd.mayOf (by assumption) ?_|refine New.mayOf (by assumption) ?_|refine Ke.mayOf (by assumption) ?_))|((with_reducible refine And.intro (a:=szOf _ _=_) ?_ ?_);· refine Eq.trans (by assumption) ?_;kernel_rfl)|((with_reducible refine And.intro (a:=List.all _ _=true) ?_ ?_);· kernel_rfl)|((with_reducible refine And.intro (a:=_=_) ?_ ?_);· first|with_reducible assumption|rfl)|((with_reducible refine And.intro (a:=_≤_) ?_ ?_);· first|omega|exact sz_ok|exact Nat.le_of_ble_eq_true (by kernel_rfl))|((with_reducible refine And.intro (a:=_<_) ?_ ?_);· omega)|((with_reducible refine And.intro (a:=_∧_) ?_ ?_);· constructor<;>first|omega|(simp<;>omega))|(refine brk_true ?_ ?_;· first|rfl|(simp only [q1,q2,q3,q4,q7,q8,ne_eq,q5,q6];omega))|(refine brk_false ?_ ?_;· first|rfl|(simp only [q1,q2,q3,q4,q7,q8,ne_eq,q5,q6];omega))|(intro aa uu;(try dsimp only at uu);have okk:=uu.ok;have nxx:=uu.next;have lkk:=uu.lock;have imm:=uu.imp))
      try conv=>whnf
      refine callB_pure ((E.fn 9).trans Tryz.func9) rfl ?_
      refine ⟨by assumption, _, (base_eq rfl (B.works _ q3) _), ?_⟩
      repeat ((conv=>whnf);first|((with_reducible refine Exists.intro ?_ (Exists.intro ?_ (And.intro (a:=_=some (Blk.cells _ _)) ?_ ?_)));rotate_left 2;· (try dsimp only);(repeat first|with_reducible assumption|with_reducible exact uA (by assumption)|with_reducible exact nA (by assumption)|((with_reducible refine uN (by assumption) ?_ ?_);· omega)|((with_reducible refine nN (by assumption) ?_ ?_);· omega)))|((with_reducible refine Exists.intro ?_ (And.intro ?_ ?_));rotate_left;· first|with_reducible assumption|((conv=>lhs;arg 2;whnf);with_reducible assumption)|exact rfl)|((with_reducible refine And.intro (a:=AH.may _ _=true) ?_ ?_);· (try dsimp only);(repeat first|with_reducible assumption|((with_reducible refine New.mayNew (by assumption) (by assumption) ?_ ?_ ?_)<;>omega)|refine Upd.mayOf (by assumption) ?_|refine New.mayOf (by assumption) ?_|refine Ke.mayOf (by assumption) ?_))|((with_reducible refine And.intro (a:=szOf _ _=_) ?_ ?_);· refine Eq.trans (by assumption) ?_;kernel_rfl)|((with_reducible refine And.intro (a:=List.all _ _=true) ?_ ?_);· kernel_rfl)|((with_reducible refine And.intro (a:=_=_) ?_ ?_);· first|with_reducible assumption|rfl)|((with_reducible refine And.intro (a:=_≤_) ?_ ?_);· first|omega|exact sz_ok|exact Nat.le_of_ble_eq_true (by kernel_rfl))|((with_reducible refine And.intro (a:=_<_) ?_ ?_);· omega)|((with_reducible refine And.intro (a:=_∧_) ?_ ?_);· constructor<;>first|omega|(simp<;>omega))|(refine brk_true ?_ ?_;· first|rfl|(simp only [q1,q2,q3,q4,q7,q8,ne_eq,q5,q6];omega))|(refine brk_false ?_ ?_;· first|rfl|(simp only [q1,q2,q3,q4,q7,q8,ne_eq,q5,q6];omega))|(intro aa uu;(try dsimp only at uu);have okk:=uu.ok;have nxx:=uu.next;have lkk:=uu.lock;have imm:=uu.imp))
      try conv=>whnf
      rfl
    · have ht : (mm : Int).tmod 3 = 1 := by rw [e2]; omega
      rw [ht]
      refine .inr ⟨2, by omega, ?_⟩
      repeat ((conv=>whnf);first|((with_reducible refine Exists.intro ?_ (Exists.intro ?_ (And.intro (a:=_=some (Blk.cells _ _)) ?_ ?_)));rotate_left 2;· (try dsimp only);(repeat first|with_reducible assumption|with_reducible exact uA (by assumption)|with_reducible exact nA (by assumption)|((with_reducible refine uN (by assumption) ?_ ?_);· omega)|((with_reducible refine nN (by assumption) ?_ ?_);· omega)))|((with_reducible refine Exists.intro ?_ (And.intro ?_ ?_));rotate_left;· first|with_reducible assumption|((conv=>lhs;arg 2;whnf);with_reducible assumption)|exact rfl)|((with_reducible refine And.intro (a:=AH.may _ _=true) ?_ ?_);· (try dsimp only);(repeat first|with_reducible assumption|((with_reducible refine New.mayNew (by assumption) (by assumption) ?_ ?_ ?_)<;>omega)|refine Upd.mayOf (by assumption) ?_|refine New.mayOf (by assumption) ?_|refine Ke.mayOf (by assumption) ?_))|((with_reducible refine And.intro (a:=szOf _ _=_) ?_ ?_);· refine Eq.trans (by assumption) ?_;kernel_rfl)|((with_reducible refine And.intro (a:=List.all _ _=true) ?_ ?_);· kernel_rfl)|((with_reducible refine And.intro (a:=_=_) ?_ ?_);· first|with_reducible assumption|rfl)|((with_reducible refine And.intro (a:=_≤_) ?_ ?_);· first|omega|exact sz_ok|exact Nat.le_of_ble_eq_true (by kernel_rfl))|((with_reducible refine And.intro (a:=_<_) ?_ ?_);· omega)|((with_reducible refine And.intro (a:=_∧_) ?_ ?_);· constructor<;>first|omega|(simp<;>omega))|(refine brk_true ?_ ?_;· first|rfl|(simp only [q1,q2,q3,q4,q7,q8,ne_eq,q5,q6];omega))|(refine brk_false ?_ ?_;· first|rfl|(simp only [q1,q2,q3,q4,q7,q8,ne_eq,q5,q6];omega))|(intro aa uu;(try dsimp only at uu);have okk:=uu.ok;have nxx:=uu.next;have lkk:=uu.lock;have imm:=uu.imp))
      try conv=>whnf
      refine callB_pure ((E.fn 5).trans Tryz.func5) rfl ?_
      refine ⟨by assumption, _, (base_eq rfl (B.num2 _ hfa) _), ?_⟩
      repeat ((conv=>whnf);first|((with_reducible refine Exists.intro ?_ (Exists.intro ?_ (And.intro (a:=_=some (Blk.cells _ _)) ?_ ?_)));rotate_left 2;· (try dsimp only);(repeat first|with_reducible assumption|with_reducible exact uA (by assumption)|with_reducible exact nA (by assumption)|((with_reducible refine uN (by assumption) ?_ ?_);· omega)|((with_reducible refine nN (by assumption) ?_ ?_);· omega)))|((with_reducible refine Exists.intro ?_ (And.intro ?_ ?_));rotate_left;· first|with_reducible assumption|((conv=>lhs;arg 2;whnf);with_reducible assumption)|exact rfl)|((with_reducible refine And.intro (a:=AH.may _ _=true) ?_ ?_);· (try dsimp only);(repeat first|with_reducible assumption|((with_reducible refine New.mayNew (by assumption) (by assumption) ?_ ?_ ?_)<;>omega)|refine Upd.mayOf (by assumption) ?_|refine New.mayOf (by assumption) ?_|refine Ke.mayOf (by assumption) ?_))|((with_reducible refine And.intro (a:=szOf _ _=_) ?_ ?_);· refine Eq.trans (by assumption) ?_;kernel_rfl)|((with_reducible refine And.intro (a:=List.all _ _=true) ?_ ?_);· kernel_rfl)|((with_reducible refine And.intro (a:=_=_) ?_ ?_);· first|with_reducible assumption|rfl)|((with_reducible refine And.intro (a:=_≤_) ?_ ?_);· first|omega|exact sz_ok|exact Nat.le_of_ble_eq_true (by kernel_rfl))|((with_reducible refine And.intro (a:=_<_) ?_ ?_);· omega)|((with_reducible refine And.intro (a:=_∧_) ?_ ?_);· constructor<;>first|omega|(simp<;>omega))|(refine brk_true ?_ ?_;· first|rfl|(simp only [q1,q2,q3,q4,q7,q8,ne_eq,q5,q6];omega))|(refine brk_false ?_ ?_;· first|rfl|(simp only [q1,q2,q3,q4,q7,q8,ne_eq,q5,q6];omega))|(intro aa uu;(try dsimp only at uu);have okk:=uu.ok;have nxx:=uu.next;have lkk:=uu.lock;have imm:=uu.imp))
      try conv=>whnf
      rename_i a2 u2 o2 n2' l2 i2
      have v7 : New a2 aa (.cells ⟨itA 3 t2B⟩ .no) := uu
      have v8 := v7.at
      have g7 : aa.get h6.next = some (.cells ⟨itM (.slice (some ⟨h'.next, 0, none⟩) 2 2)⟩ .no) := by rw [v7.get, if_neg (by omega)]; exact gl
      obtain ⟨x6, q5, q6⟩ := appendS_no (c2 := 1) (k := 1) okk u22 ((E.inf 29).trans ji1) (Z29 E) (by rw [ji2]; rfl) (e := 7) (by rw [ji2]) v8 rfl g7 rfl (by omega) (by omega)
      refine ⟨_, _, append_of q5, q6.ok, ?_⟩
      have y1 := q6.next
      have y2 := q6.lock
      have y3 := q6.imp
      have y4 := q6.ok
      have g0x : x6.get h.next = some (.cells ⟨C⟩ .no) := by rw [q6.get, if_neg (by omega), v7.get, if_neg (by omega)]; exact g0
      have gmx : x6.get h'.next = some (.cells ⟨[sl h.next N1, .slice (some ⟨h.next, 8 * 1, none⟩) (N1 - 1) (N1 - 1)]⟩ .no) := by rw [q6.get, if_neg (by omega), v7.get, if_neg (by omega)]; exact gm
      have hfx : x6.fl = true := by rw [q6.fl, v7.fl]; exact hfa
      repeat ((conv=>whnf);first|((with_reducible refine Exists.intro ?_ (Exists.intro ?_ (And.intro (a:=_=some (Blk.cells _ _)) ?_ ?_)));rotate_left 2;· (try dsimp only);(repeat first|with_reducible assumption|with_reducible exact uA (by assumption)|with_reducible exact nA (by assumption)|((with_reducible refine uN (by assumption) ?_ ?_);· omega)|((with_reducible refine nN (by assumption) ?_ ?_);· omega)))|((with_reducible refine Exists.intro ?_ (And.intro ?_ ?_));rotate_left;· first|with_reducible assumption|((conv=>lhs;arg 2;whnf);with_reducible assumption)|exact rfl)|((with_reducible refine And.intro (a:=AH.may _ _=true) ?_ ?_);· (try dsimp only);(repeat first|with_reducible assumption|((with_reducible refine New.mayNew (by assumption) (by assumption) ?_ ?_ ?_)<;>omega)|refine Upd.mayOf (by assumption) ?_|refine New.mayOf (by assumption) ?_|refine Ke.mayOf (by assumption) ?_))|((with_reducible refine And.intro (a:=szOf _ _=_) ?_ ?_);· refine Eq.trans (by assumption) ?_;kernel_rfl)|((with_reducible refine And.intro (a:=List.all _ _=true) ?_ ?_);· kernel_rfl)|((with_reducible refine And.intro (a:=_=_) ?_ ?_);· first|with_reducible assumption|rfl)|((with_reducible refine And.intro (a:=_≤_) ?_ ?_);· first|omega|exact sz_ok|exact Nat.le_of_ble_eq_true (by kernel_rfl))|((with_reducible refine And.intro (a:=_<_) ?_ ?_);· omega)|((with_reducible refine And.intro (a:=_∧_) ?_ ?_);· constructor<;>first|omega|(simp<;>omega))|(refine brk_true ?_ ?_;· first|rfl|(simp only [q1,q2,q3,q4,q7,q8,ne_eq,q5,q6];omega))|(refine brk_false ?_ ?_;· first|rfl|(simp only [q1,q2,q3,q4,q7,q8,ne_eq,q5,q6];omega))|(intro aa uu;(try dsimp only at uu);have okk:=uu.ok;have nxx:=uu.next;have lkk:=uu.lock;have imm:=uu.imp))
      try conv=>whnf
      have T : Top x6 h.next h'.next aa.next N1 1 := ⟨⟨C, .no, g0x, by omega, r3'⟩, ⟨_, gmx⟩, ⟨_, by rw [flat1]; exact q6.at⟩, by omega, by omega, by omega⟩
      obtain ⟨v', h9, q1, q2, ⟨cc, rfl⟩, q3, q4⟩ := pack_ok (d := d - 1) (cap := 2) (ext := ext) (G := G) E B T hN1 (by omega) y4 hfx (by omega) (by omega) (by omega)
      have hdec : decide ((n : Int) ≤ 65536) = true := decide_eq_true (by omega)
      have heq : (((65535 + 1 : Nat) : Int) == (n : Int)) = true := by rw [beq_iff_eq]; omega
      refine callB_heap ((E.fn 7).trans Tryz.func7) rfl ?_
      refine ⟨fun v hz => v = .tuple #[sl cc (65535 + 1), .int .i64 0] ∧ hz = h9, ⟨_, _, q1, q2, rfl, rfl⟩, ?_⟩
      rintro v3 h10 hok10 ⟨rfl, rfl⟩
      repeat ((conv=>whnf);first|((with_reducible refine Exists.intro ?_ (Exists.intro ?_ (And.intro (a:=_=some (Blk.cells _ _)) ?_ ?_)));rotate_left 2;· (try dsimp only);(repeat first|with_reducible assumption|with_reducible exact uA (by assumption)|with_reducible exact nA (by assumption)|((with_reducible refine uN (by assumption) ?_ ?_);· omega)|((with_reducible refine nN (by assumption) ?_ ?_);· omega)))|((with_reducible refine Exists.intro ?_ (And.intro ?_ ?_));rotate_left;· first|with_reducible assumption|((conv=>lhs;arg 2;whnf);with_reducible assumption)|exact rfl)|((with_reducible refine And.intro (a:=AH.may _ _=true) ?_ ?_);· (try dsimp only);(repeat first|with_reducible assumption|((with_reducible refine New.mayNew (by assumption) (by assumption) ?_ ?_ ?_)<;>omega)|refine Upd.mayOf (by assumption) ?_|refine New.mayOf (by assumption) ?_|refine Ke.mayOf (by assumption) ?_))|((with_reducible refine And.intro (a:=szOf _ _=_) ?_ ?_);· refine Eq.trans (by assumption) ?_;kernel_rfl)|((with_reducible refine And.intro (a:=List.all _ _=true) ?_ ?_);· kernel_rfl)|((with_reducible refine And.intro (a:=_=_) ?_ ?_);· first|with_reducible assumption|rfl)|((with_reducible refine And.intro (a:=_≤_) ?_ ?_);· first|omega|exact sz_ok|exact Nat.le_of_ble_eq_true (by kernel_rfl))|((with_reducible refine And.intro (a:=_<_) ?_ ?_);· omega)|((with_reducible refine And.intro (a:=_∧_) ?_ ?_);· constructor<;>first|omega|(simp<;>omega))|(refine brk_true ?_ ?_;· first|rfl|(simp only [q1,q2,q3,q4,q7,q8,ne_eq,q5,q6];omega))|(refine brk_false ?_ ?_;· first|rfl|(simp only [q1,q2,q3,q4,q7,q8,ne_eq,q5,q6];omega))|(intro aa uu;(try dsimp only at uu);have okk:=uu.ok;have nxx:=uu.next;have lkk:=uu.lock;have imm:=uu.imp))
      try conv=>whnf
      refine callB_pure ((E.fn 8).trans Tryz.func8) rfl ?_
      refine ⟨by assumption, _, (q4), ?_⟩
      repeat ((conv=>whnf);first|((with_reducible refine Exists.intro ?_ (Exists.intro ?_ (And.intro (a:=_=some (Blk.cells _ _)) ?_ ?_)));rotate_left 2;· (try dsimp only);(repeat first|with_reducible assumption|with_reducible exact uA (by assumption)|with_reducible exact nA (by assumption)|((with_reducible refine uN (by assumption) ?_ ?_);· omega)|((with_reducible refine nN (by assumption) ?_ ?_);· omega)))|((with_reducible refine Exists.intro ?_ (And.intro ?_ ?_));rotate_left;· first|with_reducible assumption|((conv=>lhs;arg 2;whnf);with_reducible assumption)|exact rfl)|((with_reducible refine And.intro (a:=AH.may _ _=true) ?_ ?_);· (try dsimp only);(repeat first|with_reducible assumption|((with_reducible refine New.mayNew (by assumption) (by assumption) ?_ ?_ ?_)<;>omega)|refine Upd.mayOf (by assumption) ?_|refine New.mayOf (by assumption) ?_|refine Ke.mayOf (by assumption) ?_))|((with_reducible refine And.intro (a:=szOf _ _=_) ?_ ?_);· refine Eq.trans (by assumption) ?_;kernel_rfl)|((with_reducible refine And.intro (a:=List.all _ _=true) ?_ ?_);· kernel_rfl)|((with_reducible refine And.intro (a:=_=_) ?_ ?_);· first|with_reducible assumption|rfl)|((with_reducible refine And.intro (a:=_≤_) ?_ ?_);· first|omega|exact sz_ok|exact Nat.le_of_ble_eq_true (by kernel_rfl))|((with_reducible refine And.intro (a:=_<_) ?_ ?_);· omega)|((with_reducible refine And.intro (a:=_∧_) ?_ ?_);· constructor<;>first|omega|(simp<;>omega))|(refine brk_true ?_ ?_;· first|rfl|(simp only [q1,q2,q3,q4,q7,q8,ne_eq,q5,q6];omega))|(refine brk_false ?_ ?_;· first|rfl|(simp only [q1,q2,q3,q4,q7,q8,ne_eq,q5,q6];omega))|(intro aa uu;(try dsimp only at uu);have okk:=uu.ok;have nxx:=uu.next;have lkk:=uu.lock;have imm:=uu.imp))
      try conv=>whnf
      rw [hdec]
      repeat ((conv=>whnf);first|((with_reducible refine Exists.intro ?_ (Exists.intro ?_ (And.intro (a:=_=some (Blk.cells _ _)) ?_ ?_)));rotate_left 2;· (try dsimp only);(repeat first|with_reducible assumption|with_reducible exact uA (by assumption)|with_reducible exact nA (by assumption)|((with_reducible refine uN (by assumption) ?_ ?_);· omega)|((with_reducible refine nN (by assumption) ?_ ?_);· omega)))|((with_reducible refine Exists.intro ?_ (And.intro ?_ ?_));rotate_left;· first|with_reducible assumption|((conv=>lhs;arg 2;whnf);with_reducible assumption)|exact rfl)|((with_reducible refine And.intro (a:=AH.may _ _=true) ?_ ?_);· (try dsimp only);(repeat first|with_reducible assumption|((with_reducible refine New.mayNew (by assumption) (by assumption) ?_ ?_ ?_)<;>omega)|refine Upd.mayOf (by assumption) ?_|refine New.mayOf (by assumption) ?_|refine Ke.mayOf (by assumption) ?_))|((with_reducible refine And.intro (a:=szOf _ _=_) ?_ ?_);· refine Eq.trans (by assumption) ?_;kernel_rfl)|((with_reducible refine And.intro (a:=List.all _ _=true) ?_ ?_);· kernel_rfl)|((with_reducible refine And.intro (a:=_=_) ?_ ?_);· first|with_reducible assumption|rfl)|((with_reducible refine And.intro (a:=_≤_) ?_ ?_);· first|omega|exact sz_ok|exact Nat.le_of_ble_eq_true (by kernel_rfl))|((with_reducible refine And.intro (a:=_<_) ?_ ?_);· omega)|((with_reducible refine And.intro (a:=_∧_) ?_ ?_);· constructor<;>first|omega|(simp<;>omega))|(refine brk_true ?_ ?_;· first|rfl|(simp only [q1,q2,q3,q4,q7,q8,ne_eq,q5,q6];omega))|(refine brk_false ?_ ?_;· first|rfl|(simp only [q1,q2,q3,q4,q7,q8,ne_eq,q5,q6];omega))|(intro aa uu;(try dsimp only at uu);have okk:=uu.ok;have nxx:=uu.next;have lkk:=uu.lock;have imm:=uu.imp))
      try conv=>whnf
      rw [heq]
      repeat ((conv=>whnf);first|((with_reducible refine Exists.intro ?_ (Exists.intro ?_ (And.intro (a:=_=some (Blk.cells _ _)) ?_ ?_)));rotate_left 2;· (try dsimp only);(repeat first|with_reducible assumption|with_reducible exact uA (by assumption)|with_reducible exact nA (by assumption)|((with_reducible refine uN (by assumption) ?_ ?_);· omega)|((with_reducible refine nN (by assumption) ?_ ?_);· omega)))|((with_reducible refine Exists.intro ?_ (And.intro ?_ ?_));rotate_left;· first|with_reducible assumption|((conv=>lhs;arg 2;whnf);with_reducible assumption)|exact rfl)|((with_reducible refine And.intro (a:=AH.may _ _=true) ?_ ?_);· (try dsimp only);(repeat first|with_reducible assumption|((with_reducible refine New.mayNew (by assumption) (by assumption) ?_ ?_ ?_)<;>omega)|refine Upd.mayOf (by assumption) ?_|refine New.mayOf (by assumption) ?_|refine Ke.mayOf (by assumption) ?_))|((with_reducible refine And.intro (a:=szOf _ _=_) ?_ ?_);· refine Eq.trans (by assumption) ?_;kernel_rfl)|((with_reducible refine And.intro (a:=List.all _ _=true) ?_ ?_);· kernel_rfl)|((with_reducible refine And.intro (a:=_=_) ?_ ?_);· first|with_reducible assumption|rfl)|((with_reducible refine And.intro (a:=_≤_) ?_ ?_);· first|omega|exact sz_ok|exact Nat.le_of_ble_eq_true (by kernel_rfl))|((with_reducible refine And.intro (a:=_<_) ?_ ?_);· omega)|((with_reducible refine And.intro (a:=_∧_) ?_ ?_);· constructor<;>first|omega|(simp<;>omega))|(refine brk_true ?_ ?_;· first|rfl|(simp only [q1,q2,q3,q4,q7,q8,ne_eq,q5,q6];omega))|(refine brk_false ?_ ?_;· first|rfl|(simp only [q1,q2,q3,q4,q7,q8,ne_eq,q5,q6];omega))|(intro aa uu;(try dsimp only at uu);have okk:=uu.ok;have nxx:=uu.next;have lkk:=uu.lock;have imm:=uu.imp))
      try conv=>whnf
      refine callB_pure ((E.fn 9).trans Tryz.func9) rfl ?_
      refine ⟨by assumption, _, (base_eq rfl (B.works _ q3) _), ?_⟩
      repeat ((conv=>whnf);first|((with_reducible refine Exists.intro ?_ (Exists.intro ?_ (And.intro (a:=_=some (Blk.cells _ _)) ?_ ?_)));rotate_left 2;· (try dsimp only);(repeat first|with_reducible assumption|with_reducible exact uA (by assumption)|with_reducible exact nA (by assumption)|((with_reducible refine uN (by assumption) ?_ ?_);· omega)|((with_reducible refine nN (by assumption) ?_ ?_);· omega)))|((with_reducible refine Exists.intro ?_ (And.intro ?_ ?_));rotate_left;· first|with_reducible assumption|((conv=>lhs;arg 2;whnf);with_reducible assumption)|exact rfl)|((with_reducible refine And.intro (a:=AH.may _ _=true) ?_ ?_);· (try dsimp only);(repeat first|with_reducible assumption|((with_reducible refine New.mayNew (by assumption) (by assumption) ?_ ?_ ?_)<;>omega)|refine Upd.mayOf (by assumption) ?_|refine New.mayOf (by assumption) ?_|refine Ke.mayOf (by assumption) ?_))|((with_reducible refine And.intro (a:=szOf _ _=_) ?_ ?_);· refine Eq.trans (by assumption) ?_;kernel_rfl)|((with_reducible refine And.intro (a:=List.all _ _=true) ?_ ?_);· kernel_rfl)|((with_reducible refine And.intro (a:=_=_) ?_ ?_);· first|with_reducible assumption|rfl)|((with_reducible refine And.intro (a:=_≤_) ?_ ?_);· first|omega|exact sz_ok|exact Nat.le_of_ble_eq_true (by kernel_rfl))|((with_reducible refine And.intro (a:=_<_) ?_ ?_);· omega)|((with_reducible refine And.intro (a:=_∧_) ?_ ?_);· constructor<;>first|omega|(simp<;>omega))|(refine brk_true ?_ ?_;· first|rfl|(simp only [q1,q2,q3,q4,q7,q8,ne_eq,q5,q6];omega))|(refine brk_false ?_ ?_;· first|rfl|(simp only [q1,q2,q3,q4,q7,q8,ne_eq,q5,q6];omega))|(intro aa uu;(try dsimp only at uu);have okk:=uu.ok;have nxx:=uu.next;have lkk:=uu.lock;have imm:=uu.imp))
      try conv=>whnf
      rfl
    · have ht : (mm : Int).tmod 3 = 2 := by rw [e2]; omega
      rw [ht]
      refine .inr ⟨3, by omega, ?_⟩
      repeat ((conv=>whnf);first|((with_reducible refine Exists.intro ?_ (Exists.intro ?_ (And.intro (a:=_=some (Blk.cells _ _)) ?_ ?_)));rotate_left 2;· (try dsimp only);(repeat first|with_reducible assumption|with_reducible exact uA (by assumption)|with_reducible exact nA (by assumption)|((with_reducible refine uN (by assumption) ?_ ?_);· omega)|((with_reducible refine nN (by assumption) ?_ ?_);· omega)))|((with_reducible refine Exists.intro ?_ (And.intro ?_ ?_));rotate_left;· first|with_reducible assumption|((conv=>lhs;arg 2;whnf);with_reducible assumption)|exact rfl)|((with_reducible refine And.intro (a:=AH.may _ _=true) ?_ ?_);· (try dsimp only);(repeat first|with_reducible assumption|((with_reducible refine New.mayNew (by assumption) (by assumption) ?_ ?_ ?_)<;>omega)|refine Upd.mayOf (by assumption) ?_|refine New.mayOf (by assumption) ?_|refine Ke.mayOf (by assumption) ?_))|((with_reducible refine And.intro (a:=szOf _ _=_) ?_ ?_);· refine Eq.trans (by assumption) ?_;kernel_rfl)|((with_reducible refine And.intro (a:=List.all _ _=true) ?_ ?_);· kernel_rfl)|((with_reducible refine And.intro (a:=_=_) ?_ ?_);· first|with_reducible assumption|rfl)|((with_reducible refine And.intro (a:=_≤_) ?_ ?_);· first|omega|exact sz_ok|exact Nat.le_of_ble_eq_true (by kernel_rfl))|((with_reducible refine And.intro (a:=_<_) ?_ ?_);· omega)|((with_reducible refine And.intro (a:=_∧_) ?_ ?_);· constructor<;>first|omega|(simp<;>omega))|(refine brk_true ?_ ?_;· first|rfl|(simp only [q1,q2,q3,q4,q7,q8,ne_eq,q5,q6];omega))|(refine brk_false ?_ ?_;· first|rfl|(simp only [q1,q2,q3,q4,q7,q8,ne_eq,q5,q6];omega))|(intro aa uu;(try dsimp only at uu);have okk:=uu.ok;have nxx:=uu.next;have lkk:=uu.lock;have imm:=uu.imp))
      try conv=>whnf
      refine callB_pure ((E.fn 5).trans Tryz.func5) rfl ?_
      refine ⟨by assumption, _, (base_eq rfl (B.num2 _ hfa) _), ?_⟩
      repeat ((conv=>whnf);first|((with_reducible refine Exists.intro ?_ (Exists.intro ?_ (And.intro (a:=_=some (Blk.cells _ _)) ?_ ?_)));rotate_left 2;· (try dsimp only);(repeat first|with_reducible assumption|with_reducible exact uA (by assumption)|with_reducible exact nA (by assumption)|((with_reducible refine uN (by assumption) ?_ ?_);· omega)|((with_reducible refine nN (by assumption) ?_ ?_);· omega)))|((with_reducible refine Exists.intro ?_ (And.intro ?_ ?_));rotate_left;· first|with_reducible assumption|((conv=>lhs;arg 2;whnf);with_reducible assumption)|exact rfl)|((with_reducible refine And.intro (a:=AH.may _ _=true) ?_ ?_);· (try dsimp only);(repeat first|with_reducible assumption|((with_reducible refine New.mayNew (by assumption) (by assumption) ?_ ?_ ?_)<;>omega)|refine Upd.mayOf (by assumption) ?_|refine New.mayOf (by assumption) ?_|refine Ke.mayOf (by assumption) ?_))|((with_reducible refine And.intro (a:=szOf _ _=_) ?_ ?_);· refine Eq.trans (by assumption) ?_;kernel_rfl)|((with_reducible refine And.intro (a:=List.all _ _=true) ?_ ?_);· kernel_rfl)|((with_reducible refine And.intro (a:=_=_) ?_ ?_);· first|with_reducible assumption|rfl)|((with_reducible refine And.intro (a:=_≤_) ?_ ?_);· first|omega|exact sz_ok|exact Nat.le_of_ble_eq_true (by kernel_rfl))|((with_reducible refine And.intro (a:=_<_) ?_ ?_);· omega)|((with_reducible refine And.intro (a:=_∧_) ?_ ?_);· constructor<;>first|omega|(simp<;>omega))|(refine brk_true ?_ ?_;· first|rfl|(simp only [q1,q2,q3,q4,q7,q8,ne_eq,q5,q6];omega))|(refine brk_false ?_ ?_;· first|rfl|(simp only [q1,q2,q3,q4,q7,q8,ne_eq,q5,q6];omega))|(intro aa uu;(try dsimp only at uu);have okk:=uu.ok;have nxx:=uu.next;have lkk:=uu.lock;have imm:=uu.imp))
      try conv=>whnf
      rename_i a2 u2 o2 n2' l2 i2
      have v7 : New a2 aa (.cells ⟨itA 3 t2B⟩ .no) := uu
      have v8 := v7.at
      have g7 : aa.get h6.next = some (.cells ⟨itM (.slice (some ⟨h'.next, 0, none⟩) 2 2)⟩ .no) := by rw [v7.get, if_neg (by omega)]; exact gl
      obtain ⟨x6, q5, q6⟩ := appendS_no (c2 := 1) (k := 1) okk u22 ((E.inf 29).trans ji1) (Z29 E) (by rw [ji2]; rfl) (e := 7) (by rw [ji2]) v8 rfl g7 rfl (by omega) (by omega)
      refine ⟨_, _, append_of q5, q6.ok, ?_⟩
      have y1 := q6.next
      have y2 := q6.lock
      have y3 := q6.imp
      have y4 := q6.ok
      have g0x : x6.get h.next = some (.cells ⟨C⟩ .no) := by rw [q6.get, if_neg (by omega), v7.get, if_neg (by omega)]; exact g0
      have gmx : x6.get h'.next = some (.cells ⟨[sl h.next N1, .slice (some ⟨h.next, 8 * 1, none⟩) (N1 - 1) (N1 - 1)]⟩ .no) := by rw [q6.get, if_neg (by omega), v7.get, if_neg (by omega)]; exact gm
      have hfx : x6.fl = true := by rw [q6.fl, v7.fl]; exact hfa
      repeat ((conv=>whnf);first|((with_reducible refine Exists.intro ?_ (Exists.intro ?_ (And.intro (a:=_=some (Blk.cells _ _)) ?_ ?_)));rotate_left 2;· (try dsimp only);(repeat first|with_reducible assumption|with_reducible exact uA (by assumption)|with_reducible exact nA (by assumption)|((with_reducible refine uN (by assumption) ?_ ?_);· omega)|((with_reducible refine nN (by assumption) ?_ ?_);· omega)))|((with_reducible refine Exists.intro ?_ (And.intro ?_ ?_));rotate_left;· first|with_reducible assumption|((conv=>lhs;arg 2;whnf);with_reducible assumption)|exact rfl)|((with_reducible refine And.intro (a:=AH.may _ _=true) ?_ ?_);· (try dsimp only);(repeat first|with_reducible assumption|((with_reducible refine New.mayNew (by assumption) (by assumption) ?_ ?_ ?_)<;>omega)|refine Upd.mayOf (by assumption) ?_|refine New.mayOf (by assumption) ?_|refine Ke.mayOf (by assumption) ?_))|((with_reducible refine And.intro (a:=szOf _ _=_) ?_ ?_);· refine Eq.trans (by assumption) ?_;kernel_rfl)|((with_reducible refine And.intro (a:=List.all _ _=true) ?_ ?_);· kernel_rfl)|((with_reducible refine And.intro (a:=_=_) ?_ ?_);· first|with_reducible assumption|rfl)|((with_reducible refine And.intro (a:=_≤_) ?_ ?_);· first|omega|exact sz_ok|exact Nat.le_of_ble_eq_true (by kernel_rfl))|((with_reducible refine And.intro (a:=_<_) ?_ ?_);· omega)|((with_reducible refine And.intro (a:=_∧_) ?_ ?_);· constructor<;>first|omega|(simp<;>omega))|(refine brk_true ?_ ?_;· first|rfl|(simp only [q1,q2,q3,q4,q7,q8,ne_eq,q5,q6];omega))|(refine brk_false ?_ ?_;· first|rfl|(simp only [q1,q2,q3,q4,q7,q8,ne_eq,q5,q6];omega))|(intro aa uu;(try dsimp only at uu);have okk:=uu.ok;have nxx:=uu.next;have lkk:=uu.lock;have imm:=uu.imp))
      try conv=>whnf
      refine callB_pure ((E.fn 5).trans Tryz.func5) rfl ?_
      refine ⟨by assumption, _, (base_eq rfl (B.num2 _ hfx) _), ?_⟩
      repeat ((conv=>whnf);first|((with_reducible refine Exists.intro ?_ (Exists.intro ?_ (And.intro (a:=_=some (Blk.cells _ _)) ?_ ?_)));rotate_left 2;· (try dsimp only);(repeat first|with_reducible assumption|with_reducible exact uA (by assumption)|with_reducible exact nA (by assumption)|((with_reducible refine uN (by assumption) ?_ ?_);· omega)|((with_reducible refine nN (by assumption) ?_ ?_);· omega)))|((with_reducible refine Exists.intro ?_ (And.intro ?_ ?_));rotate_left;· first|with_reducible assumption|((conv=>lhs;arg 2;whnf);with_reducible assumption)|exact rfl)|((with_reducible refine And.intro (a:=AH.may _ _=true) ?_ ?_);· (try dsimp only);(repeat first|with_reducible assumption|((with_reducible refine New.mayNew (by assumption) (by assumption) ?_ ?_ ?_)<;>omega)|refine Upd.mayOf (by assumption) ?_|refine New.mayOf (by assumption) ?_|refine Ke.mayOf (by assumption) ?_))|((with_reducible refine And.intro (a:=szOf _ _=_) ?_ ?_);· refine Eq.trans (by assumption) ?_;kernel_rfl)|((with_reducible refine And.intro (a:=List.all _ _=true) ?_ ?_);· kernel_rfl)|((with_reducible refine And.intro (a:=_=_) ?_ ?_);· first|with_reducible assumption|rfl)|((with_reducible refine And.intro (a:=_≤_) ?_ ?_);· first|omega|exact sz_ok|exact Nat.le_of_ble_eq_true (by kernel_rfl))|((with_reducible refine And.intro (a:=_<_) ?_ ?_);· omega)|((with_reducible refine And.intro (a:=_∧_) ?_ ?_);· constructor<;>first|omega|(simp<;>omega))|(refine brk_true ?_ ?_;· first|rfl|(simp only [q1,q2,q3,q4,q7,q8,ne_eq,q5,q6];omega))|(refine brk_false ?_ ?_;· first|rfl|(simp only [q1,q2,q3,q4,q7,q8,ne_eq,q5,q6];omega))|(intro aa uu;(try dsimp only at uu);have okk:=uu.ok;have nxx:=uu.next;have lkk:=uu.lock;have imm:=uu.imp))
      try conv=>whnf
      rename_i a3 u3 o3 n3 l3 i3
      have w7 : New x6 aa (.cells ⟨itA 3 t2B⟩ .no) := uu
      have w8 := w7.at
      have ac : Acc 7 29 aa a3.next (sl a3.next (1 + 1)) (1 + 1) (itM (.slice (some ⟨h'.next, 0, none⟩) 2 2) ++ itA 3 t2B) := .inr ⟨by omega, rfl, by rw [w7.get, if_neg (by omega)]; exact q6.at, may_ge (by omega) (by omega) (by omega), by omega⟩
      have hd3 : (1 + 1 + 1) * (ii.bytes + 1) ≤ 3 * 1001 := Nat.mul_le_mul (by omega) (by omega)
      obtain ⟨o7, x7, x8, q7, u7, q8⟩ := app1 (c2 := 1) okk u22 ((E.inf 29).trans ji1) (Z29 E) (by rw [ji2]; rfl) (e := 7) (by rw [ji2]) w8 rfl rfl ac rfl (by omega) (by omega)
      refine ⟨_, _, append_of q7, q8.ok, ?_⟩
      have z1 := u7.next
      have z2 := u7.lock
      have z3 := u7.imp
      have z4 := q8.next
      have z5 := q8.lock
      have z6 := q8.imp
      have z7 := q8.ok
      have g0y : x8.get h.next = some (.cells ⟨C⟩ .no) := by rw [q8.get, if_neg (by omega), u7.get, if_neg (by omega), w7.get, if_neg (by omega)]; exact g0x
      have gmy : x8.get h'.next = some (.cells ⟨[sl h.next N1, .slice (some ⟨h.next, 8 * 1, none⟩) (N1 - 1) (N1 - 1)]⟩ .no) := by rw [q8.get, if_neg (by omega), u7.get, if_neg (by omega), w7.get, if_neg (by omega)]; exact gmx
      have hfy : x8.fl = true := by rw [q8.fl, u7.fl, w7.fl]; exact hfx
      have T : Top x8 h.next h'.next aa.next N1 2 := ⟨⟨C, .no, g0y, by omega, r3'⟩, ⟨_, gmy⟩, ⟨_, by rw [flat2, q8.get, if_pos (by omega)]⟩, by omega, by omega, by omega⟩
      obtain ⟨q1, q4⟩ := pack_full (d := d - 1) (cap := 3) (ext := ext) (G := G) E B T hN1 rfl z7 hfy (by omega) (by omega) (by omega)
      have hdec : decide ((n : Int) ≤ 65536) = false := decide_eq_false (by omega)
      repeat ((conv=>whnf);first|((with_reducible refine Exists.intro ?_ (Exists.intro ?_ (And.intro (a:=_=some (Blk.cells _ _)) ?_ ?_)));rotate_left 2;· (try dsimp only);(repeat first|with_reducible assumption|with_reducible exact uA (by assumption)|with_reducible exact nA (by assumption)|((with_reducible refine uN (by assumption) ?_ ?_);· omega)|((with_reducible refine nN (by assumption) ?_ ?_);· omega)))|((with_reducible refine Exists.intro ?_ (And.intro ?_ ?_));rotate_left;· first|with_reducible assumption|((conv=>lhs;arg 2;whnf);with_reducible assumption)|exact rfl)|((with_reducible refine And.intro (a:=AH.may _ _=true) ?_ ?_);· (try dsimp only);(repeat first|with_reducible assumption|((with_reducible refine New.mayNew (by assumption) (by assumption) ?_ ?_ ?_)<;>omega)|refine Upd.mayOf (by assumption) ?_|refine New.mayOf (by assumption) ?_|refine Ke.mayOf (by assumption) ?_))|((with_reducible refine And.intro (a:=szOf _ _=_) ?_ ?_);· refine Eq.trans (by assumption) ?_;kernel_rfl)|((with_reducible refine And.intro (a:=List.all _ _=true) ?_ ?_);· kernel_rfl)|((with_reducible refine And.intro (a:=_=_) ?_ ?_);· first|with_reducible assumption|rfl)|((with_reducible refine And.intro (a:=_≤_) ?_ ?_);· first|omega|exact sz_ok|exact Nat.le_of_ble_eq_true (by kernel_rfl))|((with_reducible refine And.intro (a:=_<_) ?_ ?_);· omega)|((with_reducible refine And.intro (a:=_∧_) ?_ ?_);· constructor<;>first|omega|(simp<;>omega))|(refine brk_true ?_ ?_;· first|rfl|(simp only [q1,q2,q3,q4,q7,q8,ne_eq,q5,q6];omega))|(refine brk_false ?_ ?_;· first|rfl|(simp only [q1,q2,q3,q4,q7,q8,ne_eq,q5,q6];omega))|(intro aa uu;(try dsimp only at uu);have okk:=uu.ok;have nxx:=uu.next;have lkk:=uu.lock;have imm:=uu.imp))
      try conv=>whnf
      refine callB_pure ((E.fn 7).trans Tryz.func7) rfl ?_
      refine ⟨by assumption, _, (q1), ?_⟩
      repeat ((conv=>whnf);first|((with_reducible refine Exists.intro ?_ (Exists.intro ?_ (And.intro (a:=_=some (Blk.cells _ _)) ?_ ?_)));rotate_left 2;· (try dsimp only);(repeat first|with_reducible assumption|with_reducible exact uA (by assumption)|with_reducible exact nA (by assumption)|((with_reducible refine uN (by assumption) ?_ ?_);· omega)|((with_reducible refine nN (by assumption) ?_ ?_);· omega)))|((with_reducible refine Exists.intro ?_ (And.intro ?_ ?_));rotate_left;· first|with_reducible assumption|((conv=>lhs;arg 2;whnf);with_reducible assumption)|exact rfl)|((with_reducible refine And.intro (a:=AH.may _ _=true) ?_ ?_);· (try dsimp only);(repeat first|with_reducible assumption|((with_reducible refine New.mayNew (by assumption) (by assumption) ?_ ?_ ?_)<;>omega)|refine Upd.mayOf (by assumption) ?_|refine New.mayOf (by assumption) ?_|refine Ke.mayOf (by assumption) ?_))|((with_reducible refine And.intro (a:=szOf _ _=_) ?_ ?_);· refine Eq.trans (by assumption) ?_;kernel_rfl)|((with_reducible refine And.intro (a:=List.all _ _=true) ?_ ?_);· kernel_rfl)|((with_reducible refine And.intro (a:=_=_) ?_ ?_);· first|with_reducible assumption|rfl)|((with_reducible refine And.intro (a:=_≤_) ?_ ?_);· first|omega|exact sz_ok|exact Nat.le_of_ble_eq_true (by kernel_rfl))|((with_reducible refine And.intro (a:=_<_) ?_ ?_);· omega)|((with_reducible refine And.intro (a:=_∧_) ?_ ?_);· constructor<;>first|omega|(simp<;>omega))|(refine brk_true ?_ ?_;· first|rfl|(simp only [q1,q2,q3,q4,q7,q8,ne_eq,q5,q6];omega))|(refine brk_false ?_ ?_;· first|rfl|(simp only [q1,q2,q3,q4,q7,q8,ne_eq,q5,q6];omega))|(intro aa uu;(try dsimp only at uu);have okk:=uu.ok;have nxx:=uu.next;have lkk:=uu.lock;have imm:=uu.imp))
      try conv=>whnf
      refine callB_pure ((E.fn 8).trans Tryz.func8) rfl ?_
      refine ⟨by assumption, _, (q4), ?_⟩
      repeat ((conv=>whnf);first|((with_reducible refine Exists.intro ?_ (Exists.intro ?_ (And.intro (a:=_=some (Blk.cells _ _)) ?_ ?_)));rotate_left 2;· (try dsimp only);(repeat first|with_reducible assumption|with_reducible exact uA (by assumption)|with_reducible exact nA (by assumption)|((with_reducible refine uN (by assumption) ?_ ?_);· omega)|((with_reducible refine nN (by assumption) ?_ ?_);· omega)))|((with_reducible refine Exists.intro ?_ (And.intro ?_ ?_));rotate_left;· first|with_reducible assumption|((conv=>lhs;arg 2;whnf);with_reducible assumption)|exact rfl)|((with_reducible refine And.intro (a:=AH.may _ _=true) ?_ ?_);· (try dsimp only);(repeat first|with_reducible assumption|((with_reducible refine New.mayNew (by assumption) (by assumption) ?_ ?_ ?_)<;>omega)|refine Upd.mayOf (by assumption) ?_|refine New.mayOf (by assumption) ?_|refine Ke.mayOf (by assumption) ?_))|((with_reducible refine And.intro (a:=szOf _ _=_) ?_ ?_);· refine Eq.trans (by assumption) ?_;kernel_rfl)|((with_reducible refine And.intro (a:=List.all _ _=true) ?_ ?_);· kernel_rfl)|((with_reducible refine And.intro (a:=_=_) ?_ ?_);· first|with_reducible assumption|rfl)|((with_reducible refine And.intro (a:=_≤_) ?_ ?_);· first|omega|exact sz_ok|exact Nat.le_of_ble_eq_true (by kernel_rfl))|((with_reducible refine And.intro (a:=_<_) ?_ ?_);· omega)|((with_reducible refine And.intro (a:=_∧_) ?_ ?_);· constructor<;>first|omega|(simp<;>omega))|(refine brk_true ?_ ?_;· first|rfl|(simp only [q1,q2,q3,q4,q7,q8,ne_eq,q5,q6];omega))|(refine brk_false ?_ ?_;· first|rfl|(simp only [q1,q2,q3,q4,q7,q8,ne_eq,q5,q6];omega))|(intro aa uu;(try dsimp only at uu);have okk:=uu.ok;have nxx:=uu.next;have lkk:=uu.lock;have imm:=uu.imp))
      try conv=>whnf
      rw [hdec]
      repeat ((conv=>whnf);first|((with_reducible refine Exists.intro ?_ (Exists.intro ?_ (And.intro (a:=_=some (Blk.cells _ _)) ?_ ?_)));rotate_left 2;· (try dsimp only);(repeat first|with_reducible assumption|with_reducible exact uA (by assumption)|with_reducible exact nA (by assumption)|((with_reducible refine uN (by assumption) ?_ ?_);· omega)|((with_reducible refine nN (by assumption) ?_ ?_);· omega)))|((with_reducible refine Exists.intro ?_ (And.intro ?_ ?_));rotate_left;· first|with_reducible assumption|((conv=>lhs;arg 2;whnf);with_reducible assumption)|exact rfl)|((with_reducible refine And.intro (a:=AH.may _ _=true) ?_ ?_);· (try dsimp only);(repeat first|with_reducible assumption|((with_reducible refine New.mayNew (by assumption) (by assumption) ?_ ?_ ?_)<;>omega)|refine Upd.mayOf (by assumption) ?_|refine New.mayOf (by assumption) ?_|refine Ke.mayOf (by assumption) ?_))|((with_reducible refine And.intro (a:=szOf _ _=_) ?_ ?_);· refine Eq.trans (by assumption) ?_;kernel_rfl)|((with_reducible refine And.intro (a:=List.all _ _=true) ?_ ?_);· kernel_rfl)|((with_reducible refine And.intro (a:=_=_) ?_ ?_);· first|with_reducible assumption|rfl)|((with_reducible refine And.intro (a:=_≤_) ?_ ?_);· first|omega|exact sz_ok|exact Nat.le_of_ble_eq_true (by kernel_rfl))|((with_reducible refine And.intro (a:=_<_) ?_ ?_);· omega)|((with_reducible refine And.intro (a:=_∧_) ?_ ?_);· constructor<;>first|omega|(simp<;>omega))|(refine brk_true ?_ ?_;· first|rfl|(simp only [q1,q2,q3,q4,q7,q8,ne_eq,q5,q6];omega))|(refine brk_false ?_ ?_;· first|rfl|(simp only [q1,q2,q3,q4,q7,q8,ne_eq,q5,q6];omega))|(intro aa uu;(try dsimp only at uu);have okk:=uu.ok;have nxx:=uu.next;have lkk:=uu.lock;have imm:=uu.imp))
      try conv=>whnf
      refine callB_pure ((E.fn 9).trans Tryz.func9) rfl ?_
      refine ⟨by assumption, _, (base_eq rfl (B.works _ hfy) _), ?_⟩
      repeat ((conv=>whnf);first|((with_reducible refine Exists.intro ?_ (Exists.intro ?_ (And.intro (a:=_=some (Blk.cells _ _)) ?_ ?_)));rotate_left 2;· (try dsimp only);(repeat first|with_reducible assumption|with_reducible exact uA (by assumption)|with_reducible exact nA (by assumption)|((with_reducible refine uN (by assumption) ?_ ?_);· omega)|((with_reducible refine nN (by assumption) ?_ ?_);· omega)))|((with_reducible refine Exists.intro ?_ (And.intro ?_ ?_));rotate_left;· first|with_reducible assumption|((conv=>lhs;arg 2;whnf);with_reducible assumption)|exact rfl)|((with_reducible refine And.intro (a:=AH.may _ _=true) ?_ ?_);· (try dsimp only);(repeat first|with_reducible assumption|((with_reducible refine New.mayNew (by assumption) (by assumption) ?_ ?_ ?_)<;>omega)|refine Upd.mayOf (by assumption) ?_|refine New.mayOf (by assumption) ?_|refine Ke.mayOf (by assumption) ?_))|((with_reducible refine And.intro (a:=szOf _ _=_) ?_ ?_);· refine Eq.trans (by assumption) ?_;kernel_rfl)|((with_reducible refine And.intro (a:=List.all _ _=true) ?_ ?_);· kernel_rfl)|((with_reducible refine And.intro (a:=_=_) ?_ ?_);· first|with_reducible assumption|rfl)|((with_reducible refine And.intro (a:=_≤_) ?_ ?_);· first|omega|exact sz_ok|exact Nat.le_of_ble_eq_true (by kernel_rfl))|((with_reducible refine And.intro (a:=_<_) ?_ ?_);· omega)|((with_reducible refine And.intro (a:=_∧_) ?_ ?_);· constructor<;>first|omega|(simp<;>omega))|(refine brk_true ?_ ?_;· first|rfl|(simp only [q1,q2,q3,q4,q7,q8,ne_eq,q5,q6];omega))|(refine brk_false ?_ ?_;· first|rfl|(simp only [q1,q2,q3,q4,q7,q8,ne_eq,q5,q6];omega))|(intro aa uu;(try dsimp only at uu);have okk:=uu.ok;have nxx:=uu.next;have lkk:=uu.lock;have imm:=uu.imp))
      try conv=>whnf
      rfl
end

end
end Go.Proofs.YtibffohcmegooaaGreatDoor.V
