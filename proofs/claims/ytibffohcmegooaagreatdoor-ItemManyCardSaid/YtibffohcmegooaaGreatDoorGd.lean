/- What is asked of each item of a sequence, and of those in its arrays. Conditions: none. -/
import Derived.Test.YtibffohcmegooaaGreatDoorGa
namespace Go.Proofs.YtibffohcmegooaaGreatDoor.V
set_option linter.all false
open Go
noncomputable section

/-- A row that may grow is let go of; all else stays. -/
def closedG : Gw → Bool
  | .up _ _ => false
  | _ => true
def closedB : Option Blk → Bool
  | some (.cells _ g) => closedG g
  | _ => true
theorem closed_ty (P : Program) (t : TypeId) : closedG (tyOf P t) = true := by
  unfold tyOf
  split <;> rfl

/-- Memory behind a call: below K as it was, and from L on, but for rows that may grow; at most w new blocks. -/
def LimG (K L w : Nat) (h h' : AH) : Prop := h.next ≤ h'.next ∧ h'.next ≤ h.next + w ∧ h'.lock = h.lock ∧ h'.imp = h.imp ∧ h'.fl = h.fl ∧ (∀ j, j < h.next → (j < K ∨ (L ≤ j ∧ closedB (h.get j) = true)) → h'.get j = h.get j)
theorem LimG.refl (K L w : Nat) (h : AH) : LimG K L w h h := ⟨Nat.le_refl _, by omega, rfl, rfl, rfl, fun _ _ _ => rfl⟩
theorem LimG.trans {K L w w' : Nat} {h h1 h2 : AH} (x : LimG K L w h h1) (y : LimG K L w' h1 h2) : LimG K L (w + w') h h2 := by
  obtain ⟨a1, a2, a3, a4, a5, a6⟩ := x
  obtain ⟨b1, b2, b3, b4, b5, b6⟩ := y
  refine ⟨by omega, by omega, b3.trans a3, b4.trans a4, b5.trans a5, fun j hj hk => ?_⟩
  have e := a6 j hj hk
  exact (b6 j (by omega) (by rw [e]; exact hk)).trans e
theorem LimG.more {K L w w' : Nat} {h h' : AH} (x : LimG K L w h h') (hw : w ≤ w') : LimG K L w' h h' := by
  obtain ⟨a1, a2, a3, a4, a5, a6⟩ := x
  exact ⟨a1, by omega, a3, a4, a5, a6⟩
/-- Memory with new blocks alone. -/
def ExtG (h h' : AH) : Prop := HOK h' ∧ h.next ≤ h'.next ∧ h'.lock = h.lock ∧ h'.imp = h.imp ∧ h'.fl = h.fl ∧ ∀ j, j < h.next → h'.get j = h.get j
theorem ExtG.lim {K L w : Nat} {h h' : AH} (x : ExtG h h') (hw : h'.next ≤ h.next + w) : LimG K L w h h' := ⟨x.2.1, hw, x.2.2.1, x.2.2.2.1, x.2.2.2.2.1, fun j hj _ => x.2.2.2.2.2 j hj⟩
/-- Memory that the calls go through. -/
structure OpG (K : Nat) (h0 : AH) (L : Nat) (h : AH) : Prop where
  ok : HOK h
  lk : h.lock < h.next
  im : h.imp ≤ h.next
  ln : L ≤ h.next
  fl : h.fl = true
  ag : Ag K h0 h
theorem OpG.ext {K L : Nat} {h0 h h' : AH} (o : OpG K h0 L h) (x : ExtG h h') (hKL : K ≤ L) : OpG K h0 L h' := by
  obtain ⟨x1, x2, x3, x4, x5, x6⟩ := x
  have h1 := o.lk
  have h2 := o.im
  have h3 := o.ln
  exact ⟨x1, by omega, by omega, by omega, x5.trans o.fl, fun j hj => (x6 j (by omega)).trans (o.ag j hj)⟩
theorem OpG.lim {K L w : Nat} {h0 h h' : AH} (o : OpG K h0 L h) (ok : HOK h') (x : LimG K L w h h') (hKL : K ≤ L) : OpG K h0 L h' := by
  obtain ⟨x2, _, x3, x4, x5, x6⟩ := x
  have h1 := o.lk
  have h2 := o.im
  have h3 := o.ln
  exact ⟨ok, by omega, by omega, by omega, x5.trans o.fl, fun j hj => (x6 j (by omega) (.inl hj)).trans (o.ag j hj)⟩

/-- One after the other, until one says yes. -/
def foldO {σ : Type} : List (σ → Option σ) → σ → Option σ
  | [], s => some s
  | g :: gs, s => match g s with | none => none | some s' => foldO gs s'
theorem foldO_at {σ : Type} : ∀ (L : List (σ → Option σ)) (i : Nat) (g : σ → Option σ) (s si : σ), L[i]? = some g → foldO (L.take i) s = some si → foldO (L.take (i + 1)) s = g si ∧ (g si = none → foldO L s = none)
  | [], i, g, s, si, h, _ => by simp at h
  | x :: xs, 0, g, s, si, h, h2 => by
    simp at h; subst h
    simp [foldO] at h2; subst h2
    refine ⟨?_, fun hn => by simp [foldO, hn]⟩
    simp only [List.take_succ_cons, List.take_zero, foldO]
    cases x s <;> rfl
  | x :: xs, i + 1, g, s, si, h, h2 => by
    simp only [List.take_succ_cons, foldO] at h2 ⊢
    cases hx : x s with
    | none => rw [hx] at h2; cases h2
    | some s' =>
      rw [hx] at h2
      exact foldO_at xs i g s' si (by simpa using h) h2

section
variable (P : Program) (G : Nat) (ext : FuncId → Option Ext) (base : Orc) {σ : Type} (K : Nat) (h0 : AH) (L D w : Nat) (fv : Value) (St : σ → AH → Prop)

/-- What a call answers of a state: yes, or no and another state. -/
def Tells (g : σ → Option σ) (s : σ) (h : AH) (r : Option (Value × Option AH)) : Prop :=
  ∃ v h', r = some (v, some h') ∧ HOK h' ∧ (v = .bool (g s).isNone ∧ LimG K L w h h' ∧ ∀ s', g s = some s' → St s' h')

/-- The function that asks. -/
structure Asks : Prop where
  one : oneB fv = true
  cl : fv.cells = #[fv]
  kl : K ≤ L
  st : ∀ s h h', St s h → ExtG h h' → St s h'

def HoldsAt (x : List Value) (g : σ → Option σ) : Prop :=
  ∀ (d : Nat) (h : AH) (s : σ), D ≤ d → OpG K h0 L h → h.next + w < 16000000 → St s h → Tells K L w St g s h (callB P ext (deepF P G ext 2199023255552 base mtG d) h fv [.agg ⟨x⟩])
def Has1At (x : List Value) (g : σ → Option σ) : Prop :=
  ∀ (d : Nat) (h : AH) (s : σ) (q : Nat) (gq : Gw), D ≤ d → OpG K h0 L h → h.next + w < 16000000 → St s h → h.get q = some (.cells #[fv] gq) → L ≤ q → q < h.next → closedG gq = true →
    Tells K L w St g s h (deepF P G ext 2199023255552 base mtG d 28 [.agg ⟨x⟩, pt q] h)
def Has11At (v : Value) (g : σ → Option σ) : Prop :=
  ∀ (d : Nat) (h : AH) (s : σ) (q : Nat) (gq : Gw), D ≤ d → OpG K h0 L h → h.next + w < 16000000 → St s h → h.get q = some (.cells #[fv] gq) → L ≤ q → q < h.next → closedG gq = true →
    Tells K L w St g s h (deepF P G ext 2199023255552 base mtG d 30 [v, pt q] h)
def HasAt (v : Value) (g : σ → Option σ) : Prop :=
  ∀ (d : Nat) (h : AH) (s : σ), D ≤ d → OpG K h0 L h → h.next + w < 16000000 → St s h → Tells K L w St g s h (deepF P G ext 2199023255552 base mtG d 13 [v, fv] h)
end

section
variable {P : Program} {G : Nat} {ext : FuncId → Option Ext} {base : Orc} {σ : Type} {K L : Nat} {h0 : AH} {fv : Value} {St : σ → AH → Prop}

theorem callB_tells {orc : Orc} {h : AH} {g : FuncId} {fn : Func} {first captured args : List Value} {w : Nat} {f : σ → Option σ} {s : σ} {K L : Nat} {St : σ → AH → Prop} (hf : P.funcs[g]? = some fn) (hb : fn.body.isSome = true) (ho : Tells K L w St f s h (orc g (first ++ args ++ captured) h)) :
    Tells K L w St f s h (callB P ext orc h (.func (.func g) ⟨first⟩ ⟨captured⟩) args) := by
  obtain ⟨v, h', h1, h2⟩ := ho
  exact ⟨v, h', callB_by hf hb h1, h2⟩

/-- The items of a row, one after the other. -/
theorem ifi_ok (E : Alike P Tryz.prog base walkG) {D w : Nat} {p : Option Addr} {c : Nat} {R : List (List Value × (σ → Option σ))} (hL : R.length ≤ 1000000) (hr : Row K 8 h0 p (R.map (·.1))) (hi : ∀ q ∈ R, Has1At P G ext base K h0 L D w fv St q.1 q.2)
    {d : Nat} {h : AH} {s : σ} {q : Nat} {gq : Gw} (hd : D + 1 ≤ d) (ho : OpG K h0 L h) (hn : h.next + R.length * w < 16000000) (hs : St s h) (hq : h.get q = some (.cells #[fv] gq)) (hqL : L ≤ q) (hqn : q < h.next) (hgq : closedG gq = true) (hKL : K ≤ L) :
    ∃ v h', deepF P G ext 2199023255552 base mtG d 46 [.slice p R.length c, .func (.func 28) #[] #[pt q]] h = some (v, some h') ∧ HOK h' ∧ ((∃ z : Int, v = .int .i64 z ∧ -1 ≤ z ∧ (z = -1 ↔ (foldO (R.map (·.2)) s).isSome)) ∧ LimG K L (R.length * w) h h' ∧ ∀ s', foldO (R.map (·.2)) s = some s' → St s' h') := by
  have ho' := ho
  obtain ⟨hok, hlk, him, hln, hfl, hag⟩ := ho
  have u3:=U3 E;have s3:=S3 E
  have u9:=U9 E;have s9:=S9 E
  have u22:=U22 E;have s22:=S22 E
  have u24:=U24 E;have s24:=S24 E
  have u25:=U25 E;have s25:=S25 E
  have u26:=U26 E;have s26:=S26 E
  have u27:=U27 E;have s27:=S27 E
  have u29:=U29 E;have s29:=S29 E;have a29:=A29 E
  have u41:=U41 E;have s41:=S41 E
  have u54:=U54 E;have s54:=S54 E
  have hl := beq_less hlk
  refine mut_to (by omega) rfl (E.no 46 _ _ rfl) (by first | exact .inl rfl | exact .inr rfl) hl ((E.fn 46).trans Tryz.func46) rfl hok ?_
  conv => whnf
  refine ⟨by simp [Tryz.f46], ?_⟩
  repeat ((conv=>whnf);first|((with_reducible refine Exists.intro ?_ (Exists.intro ?_ (And.intro (a:=_=some (Blk.cells _ _)) ?_ ?_)));rotate_left 2;· (try dsimp only);(repeat first|with_reducible assumption|with_reducible exact uA (by assumption)|with_reducible exact nA (by assumption)|((with_reducible refine uN (by assumption) ?_ ?_);· omega)|((with_reducible refine nN (by assumption) ?_ ?_);· omega)))|((with_reducible refine Exists.intro ?_ (And.intro ?_ ?_));rotate_left;· first|with_reducible assumption|((conv=>lhs;arg 2;whnf);with_reducible assumption)|exact rfl)|((with_reducible refine And.intro (a:=AH.may _ _=true) ?_ ?_);· (try dsimp only);(repeat first|with_reducible assumption|((with_reducible refine New.mayNew (by assumption) (by assumption) ?_ ?_ ?_)<;>omega)|refine Upd.mayOf (by assumption) ?_|refine New.mayOf (by assumption) ?_|refine Ke.mayOf (by assumption) ?_))|((with_reducible refine And.intro (a:=szOf _ _=_) ?_ ?_);· refine Eq.trans (by assumption) ?_;kernel_rfl)|((with_reducible refine And.intro (a:=List.all _ _=true) ?_ ?_);· kernel_rfl)|((with_reducible refine And.intro (a:=_=_) ?_ ?_);· first|with_reducible assumption|rfl)|((with_reducible refine And.intro (a:=_≤_) ?_ ?_);· first|omega|exact sz_ok|exact Nat.le_of_ble_eq_true (by kernel_rfl))|((with_reducible refine And.intro (a:=_<_) ?_ ?_);· omega)|((with_reducible refine And.intro (a:=_∧_) ?_ ?_);· constructor<;>first|omega|(simp<;>omega))|(refine brk_true ?_ ?_;· first|rfl|(simp only [q1,q2,q3,q4,q7,q8,ne_eq,q5,q6];omega))|(refine brk_false ?_ ?_;· first|rfl|(simp only [q1,q2,q3,q4,q7,q8,ne_eq,q5,q6];omega))|(intro aa uu;(try dsimp only at uu);have okk:=uu.ok;have nxx:=uu.next;have lkk:=uu.lock;have imm:=uu.imp))
  try conv=>whnf
  refine .inl ⟨fun mm env h' => sh 5 env = true ∧ ∃ (i : Nat) (si : σ), i ≤ R.length ∧ mm = R.length - i ∧ has env [(0, .slice p R.length c), (1, .func (.func 28) #[] #[pt q]), (7, .int .i64 R.length), (8, .int .i64 i)] ∧ foldO ((R.map (·.2)).take i) s = some si ∧ St si h' ∧ LimG K L (i * w) h h', R.length, by omega,
    ⟨by kernel_rfl, 0, s, by omega, rfl, ⟨by kernel_rfl, by kernel_rfl, by kernel_rfl, by kernel_rfl, trivial⟩, rfl, hs, LimG.refl _ _ _ _⟩, ?_⟩
  rintro mm env h' hok' ⟨hsh, i, si, hi1, hm', hhas, hfo, hst, hlim⟩
  have hlim' := hlim
  obtain ⟨r1, r2, r3, r4, r5, r6⟩ := hlim
  rw [env_form hsh hhas]
  repeat ((conv=>whnf);first|((with_reducible refine Exists.intro ?_ (Exists.intro ?_ (And.intro (a:=_=some (Blk.cells _ _)) ?_ ?_)));rotate_left 2;· (try dsimp only);(repeat first|with_reducible assumption|with_reducible exact uA (by assumption)|with_reducible exact nA (by assumption)|((with_reducible refine uN (by assumption) ?_ ?_);· omega)|((with_reducible refine nN (by assumption) ?_ ?_);· omega)))|((with_reducible refine Exists.intro ?_ (And.intro ?_ ?_));rotate_left;· first|with_reducible assumption|((conv=>lhs;arg 2;whnf);with_reducible assumption)|exact rfl)|((with_reducible refine And.intro (a:=AH.may _ _=true) ?_ ?_);· (try dsimp only);(repeat first|with_reducible assumption|((with_reducible refine New.mayNew (by assumption) (by assumption) ?_ ?_ ?_)<;>omega)|refine Upd.mayOf (by assumption) ?_|refine New.mayOf (by assumption) ?_|refine Ke.mayOf (by assumption) ?_))|((with_reducible refine And.intro (a:=szOf _ _=_) ?_ ?_);· refine Eq.trans (by assumption) ?_;kernel_rfl)|((with_reducible refine And.intro (a:=List.all _ _=true) ?_ ?_);· kernel_rfl)|((with_reducible refine And.intro (a:=_=_) ?_ ?_);· first|with_reducible assumption|rfl)|((with_reducible refine And.intro (a:=_≤_) ?_ ?_);· first|omega|exact sz_ok|exact Nat.le_of_ble_eq_true (by kernel_rfl))|((with_reducible refine And.intro (a:=_<_) ?_ ?_);· omega)|((with_reducible refine And.intro (a:=_∧_) ?_ ?_);· constructor<;>first|omega|(simp<;>omega))|(refine brk_true ?_ ?_;· first|rfl|(simp only [q1,q2,q3,q4,q7,q8,ne_eq,q5,q6];omega))|(refine brk_false ?_ ?_;· first|rfl|(simp only [q1,q2,q3,q4,q7,q8,ne_eq,q5,q6];omega))|(intro aa uu;(try dsimp only at uu);have okk:=uu.ok;have nxx:=uu.next;have lkk:=uu.lock;have imm:=uu.imp))
  try conv=>whnf
  refine brk_of (fun hlt => ?_) (fun hge => ?_)
  · have hlt : i < R.length := by simpa using hlt
    obtain ⟨⟨x, g⟩, hx0⟩ := at_lt hlt
    obtain ⟨b0, o0, cs, g0, rfl, hb0, hg0, hsz, hx⟩ := hr i x (by rw [List.getElem?_map, hx0]; rfl)
    have hx : List.take 8 (List.drop (o0 + (i : Int).toNat * 8) cs.toList) = x := hx
    have sz_ok : o0 + i * 8 + 8 ≤ cs.size := hsz
    have hg1 : h'.get b0 = some (.cells cs g0) := (r6 b0 (by omega) (.inl hb0)).trans ((hag b0 hb0).trans hg0)
    have hq1 : h'.get q = some (.cells #[fv] gq) := (r6 q hqn (.inr ⟨hqL, by rw [hq]; exact hgq⟩)).trans hq
    have hw : (i + 1) * w ≤ R.length * w := Nat.mul_le_mul_right w (by omega)
    have hw2 : (i + 1) * w = i * w + w := Nat.succ_mul i w
    obtain ⟨f1, f2⟩ := foldO_at (R.map (·.2)) i g s si (by rw [List.getElem?_map, hx0]; rfl) hfo
    have hit := hi _ (List.mem_of_getElem? hx0) (d - 1) h' si q gq (by omega) (ho'.lim hok' hlim' hKL) (by omega) hst hq1 hqL (by omega) hgq
    obtain ⟨v2, h2, e2, ok2, rfl, lim2, st2⟩ := callB_tells (ext := ext) ((E.fn 28).trans Tryz.func28) rfl (first := []) (args := [.agg ⟨x⟩]) (captured := [pt q]) hit
    have lim3 := hlim'.trans lim2
    cases hgs : g si with
    | none =>
      have hb : ((x, g).2 si).isNone = true := by
        show (g si).isNone = true
        rw [hgs]; rfl
      rw [hb] at e2
      repeat ((conv=>whnf);first|((with_reducible refine Exists.intro ?_ (Exists.intro ?_ (And.intro (a:=_=some (Blk.cells _ _)) ?_ ?_)));rotate_left 2;· (try dsimp only);(repeat first|with_reducible assumption|with_reducible exact uA (by assumption)|with_reducible exact nA (by assumption)|((with_reducible refine uN (by assumption) ?_ ?_);· omega)|((with_reducible refine nN (by assumption) ?_ ?_);· omega)))|((with_reducible refine Exists.intro ?_ (And.intro ?_ ?_));rotate_left;· first|with_reducible assumption|((conv=>lhs;arg 2;whnf);with_reducible assumption)|exact rfl)|((with_reducible refine And.intro (a:=AH.may _ _=true) ?_ ?_);· (try dsimp only);(repeat first|with_reducible assumption|((with_reducible refine New.mayNew (by assumption) (by assumption) ?_ ?_ ?_)<;>omega)|refine Upd.mayOf (by assumption) ?_|refine New.mayOf (by assumption) ?_|refine Ke.mayOf (by assumption) ?_))|((with_reducible refine And.intro (a:=szOf _ _=_) ?_ ?_);· refine Eq.trans (by assumption) ?_;kernel_rfl)|((with_reducible refine And.intro (a:=List.all _ _=true) ?_ ?_);· kernel_rfl)|((with_reducible refine And.intro (a:=_=_) ?_ ?_);· first|with_reducible assumption|rfl)|((with_reducible refine And.intro (a:=_≤_) ?_ ?_);· first|omega|exact sz_ok|exact Nat.le_of_ble_eq_true (by kernel_rfl))|((with_reducible refine And.intro (a:=_<_) ?_ ?_);· omega)|((with_reducible refine And.intro (a:=_∧_) ?_ ?_);· constructor<;>first|omega|(simp<;>omega))|(refine brk_true ?_ ?_;· first|rfl|(simp only [q1,q2,q3,q4,q7,q8,ne_eq,q5,q6];omega))|(refine brk_false ?_ ?_;· first|rfl|(simp only [q1,q2,q3,q4,q7,q8,ne_eq,q5,q6];omega))|(intro aa uu;(try dsimp only at uu);have okk:=uu.ok;have nxx:=uu.next;have lkk:=uu.lock;have imm:=uu.imp))
      try conv=>whnf
      refine callB_that ⟨fun v hz => v = .bool true ∧ hz = h2, ⟨_, h2, e2, ok2, rfl, rfl⟩, ?_⟩
      rintro v3 h3 hok3 ⟨rfl, rfl⟩
      repeat ((conv=>whnf);first|((with_reducible refine Exists.intro ?_ (Exists.intro ?_ (And.intro (a:=_=some (Blk.cells _ _)) ?_ ?_)));rotate_left 2;· (try dsimp only);(repeat first|with_reducible assumption|with_reducible exact uA (by assumption)|with_reducible exact nA (by assumption)|((with_reducible refine uN (by assumption) ?_ ?_);· omega)|((with_reducible refine nN (by assumption) ?_ ?_);· omega)))|((with_reducible refine Exists.intro ?_ (And.intro ?_ ?_));rotate_left;· first|with_reducible assumption|((conv=>lhs;arg 2;whnf);with_reducible assumption)|exact rfl)|((with_reducible refine And.intro (a:=AH.may _ _=true) ?_ ?_);· (try dsimp only);(repeat first|with_reducible assumption|((with_reducible refine New.mayNew (by assumption) (by assumption) ?_ ?_ ?_)<;>omega)|refine Upd.mayOf (by assumption) ?_|refine New.mayOf (by assumption) ?_|refine Ke.mayOf (by assumption) ?_))|((with_reducible refine And.intro (a:=szOf _ _=_) ?_ ?_);· refine Eq.trans (by assumption) ?_;kernel_rfl)|((with_reducible refine And.intro (a:=List.all _ _=true) ?_ ?_);· kernel_rfl)|((with_reducible refine And.intro (a:=_=_) ?_ ?_);· first|with_reducible assumption|rfl)|((with_reducible refine And.intro (a:=_≤_) ?_ ?_);· first|omega|exact sz_ok|exact Nat.le_of_ble_eq_true (by kernel_rfl))|((with_reducible refine And.intro (a:=_<_) ?_ ?_);· omega)|((with_reducible refine And.intro (a:=_∧_) ?_ ?_);· constructor<;>first|omega|(simp<;>omega))|(refine brk_true ?_ ?_;· first|rfl|(simp only [q1,q2,q3,q4,q7,q8,ne_eq,q5,q6];omega))|(refine brk_false ?_ ?_;· first|rfl|(simp only [q1,q2,q3,q4,q7,q8,ne_eq,q5,q6];omega))|(intro aa uu;(try dsimp only at uu);have okk:=uu.ok;have nxx:=uu.next;have lkk:=uu.lock;have imm:=uu.imp))
      try conv=>whnf
      refine ⟨⟨i, rfl, by omega, ?_⟩, lim3.more (by omega), ?_⟩
      · rw [f2 hgs]
        constructor
        · intro hz
          omega
        · intro hz
          cases hz
      · intro s' hs'
        rw [f2 hgs] at hs'
        cases hs'
    | some s1 =>
      have hb : ((x, g).2 si).isNone = false := by
        show (g si).isNone = false
        rw [hgs]; rfl
      rw [hb] at e2
      repeat ((conv=>whnf);first|((with_reducible refine Exists.intro ?_ (Exists.intro ?_ (And.intro (a:=_=some (Blk.cells _ _)) ?_ ?_)));rotate_left 2;· (try dsimp only);(repeat first|with_reducible assumption|with_reducible exact uA (by assumption)|with_reducible exact nA (by assumption)|((with_reducible refine uN (by assumption) ?_ ?_);· omega)|((with_reducible refine nN (by assumption) ?_ ?_);· omega)))|((with_reducible refine Exists.intro ?_ (And.intro ?_ ?_));rotate_left;· first|with_reducible assumption|((conv=>lhs;arg 2;whnf);with_reducible assumption)|exact rfl)|((with_reducible refine And.intro (a:=AH.may _ _=true) ?_ ?_);· (try dsimp only);(repeat first|with_reducible assumption|((with_reducible refine New.mayNew (by assumption) (by assumption) ?_ ?_ ?_)<;>omega)|refine Upd.mayOf (by assumption) ?_|refine New.mayOf (by assumption) ?_|refine Ke.mayOf (by assumption) ?_))|((with_reducible refine And.intro (a:=szOf _ _=_) ?_ ?_);· refine Eq.trans (by assumption) ?_;kernel_rfl)|((with_reducible refine And.intro (a:=List.all _ _=true) ?_ ?_);· kernel_rfl)|((with_reducible refine And.intro (a:=_=_) ?_ ?_);· first|with_reducible assumption|rfl)|((with_reducible refine And.intro (a:=_≤_) ?_ ?_);· first|omega|exact sz_ok|exact Nat.le_of_ble_eq_true (by kernel_rfl))|((with_reducible refine And.intro (a:=_<_) ?_ ?_);· omega)|((with_reducible refine And.intro (a:=_∧_) ?_ ?_);· constructor<;>first|omega|(simp<;>omega))|(refine brk_true ?_ ?_;· first|rfl|(simp only [q1,q2,q3,q4,q7,q8,ne_eq,q5,q6];omega))|(refine brk_false ?_ ?_;· first|rfl|(simp only [q1,q2,q3,q4,q7,q8,ne_eq,q5,q6];omega))|(intro aa uu;(try dsimp only at uu);have okk:=uu.ok;have nxx:=uu.next;have lkk:=uu.lock;have imm:=uu.imp))
      try conv=>whnf
      refine callB_that ⟨fun v hz => v = .bool false ∧ hz = h2, ⟨_, h2, e2, ok2, rfl, rfl⟩, ?_⟩
      rintro v3 h3 hok3 ⟨rfl, rfl⟩
      repeat ((conv=>whnf);first|((with_reducible refine Exists.intro ?_ (Exists.intro ?_ (And.intro (a:=_=some (Blk.cells _ _)) ?_ ?_)));rotate_left 2;· (try dsimp only);(repeat first|with_reducible assumption|with_reducible exact uA (by assumption)|with_reducible exact nA (by assumption)|((with_reducible refine uN (by assumption) ?_ ?_);· omega)|((with_reducible refine nN (by assumption) ?_ ?_);· omega)))|((with_reducible refine Exists.intro ?_ (And.intro ?_ ?_));rotate_left;· first|with_reducible assumption|((conv=>lhs;arg 2;whnf);with_reducible assumption)|exact rfl)|((with_reducible refine And.intro (a:=AH.may _ _=true) ?_ ?_);· (try dsimp only);(repeat first|with_reducible assumption|((with_reducible refine New.mayNew (by assumption) (by assumption) ?_ ?_ ?_)<;>omega)|refine Upd.mayOf (by assumption) ?_|refine New.mayOf (by assumption) ?_|refine Ke.mayOf (by assumption) ?_))|((with_reducible refine And.intro (a:=szOf _ _=_) ?_ ?_);· refine Eq.trans (by assumption) ?_;kernel_rfl)|((with_reducible refine And.intro (a:=List.all _ _=true) ?_ ?_);· kernel_rfl)|((with_reducible refine And.intro (a:=_=_) ?_ ?_);· first|with_reducible assumption|rfl)|((with_reducible refine And.intro (a:=_≤_) ?_ ?_);· first|omega|exact sz_ok|exact Nat.le_of_ble_eq_true (by kernel_rfl))|((with_reducible refine And.intro (a:=_<_) ?_ ?_);· omega)|((with_reducible refine And.intro (a:=_∧_) ?_ ?_);· constructor<;>first|omega|(simp<;>omega))|(refine brk_true ?_ ?_;· first|rfl|(simp only [q1,q2,q3,q4,q7,q8,ne_eq,q5,q6];omega))|(refine brk_false ?_ ?_;· first|rfl|(simp only [q1,q2,q3,q4,q7,q8,ne_eq,q5,q6];omega))|(intro aa uu;(try dsimp only at uu);have okk:=uu.ok;have nxx:=uu.next;have lkk:=uu.lock;have imm:=uu.imp))
      try conv=>whnf
      exact ⟨R.length - (i + 1), by omega, by kernel_rfl, i + 1, s1, by omega, rfl, ⟨by kernel_rfl, by kernel_rfl, by kernel_rfl, by kernel_rfl, trivial⟩, f1.trans hgs, st2 s1 hgs, lim3.more (by omega)⟩
  · have hge : i = R.length := by have : ¬ i < R.length := by simpa using hge
                                  omega
    have hfo2 : foldO (R.map (·.2)) s = some si := by
      rw [List.take_of_length_le (by simp; omega)] at hfo
      exact hfo
    repeat ((conv=>whnf);first|((with_reducible refine Exists.intro ?_ (Exists.intro ?_ (And.intro (a:=_=some (Blk.cells _ _)) ?_ ?_)));rotate_left 2;· (try dsimp only);(repeat first|with_reducible assumption|with_reducible exact uA (by assumption)|with_reducible exact nA (by assumption)|((with_reducible refine uN (by assumption) ?_ ?_);· omega)|((with_reducible refine nN (by assumption) ?_ ?_);· omega)))|((with_reducible refine Exists.intro ?_ (And.intro ?_ ?_));rotate_left;· first|with_reducible assumption|((conv=>lhs;arg 2;whnf);with_reducible assumption)|exact rfl)|((with_reducible refine And.intro (a:=AH.may _ _=true) ?_ ?_);· (try dsimp only);(repeat first|with_reducible assumption|((with_reducible refine New.mayNew (by assumption) (by assumption) ?_ ?_ ?_)<;>omega)|refine Upd.mayOf (by assumption) ?_|refine New.mayOf (by assumption) ?_|refine Ke.mayOf (by assumption) ?_))|((with_reducible refine And.intro (a:=szOf _ _=_) ?_ ?_);· refine Eq.trans (by assumption) ?_;kernel_rfl)|((with_reducible refine And.intro (a:=List.all _ _=true) ?_ ?_);· kernel_rfl)|((with_reducible refine And.intro (a:=_=_) ?_ ?_);· first|with_reducible assumption|rfl)|((with_reducible refine And.intro (a:=_≤_) ?_ ?_);· first|omega|exact sz_ok|exact Nat.le_of_ble_eq_true (by kernel_rfl))|((with_reducible refine And.intro (a:=_<_) ?_ ?_);· omega)|((with_reducible refine And.intro (a:=_∧_) ?_ ?_);· constructor<;>first|omega|(simp<;>omega))|(refine brk_true ?_ ?_;· first|rfl|(simp only [q1,q2,q3,q4,q7,q8,ne_eq,q5,q6];omega))|(refine brk_false ?_ ?_;· first|rfl|(simp only [q1,q2,q3,q4,q7,q8,ne_eq,q5,q6];omega))|(intro aa uu;(try dsimp only at uu);have okk:=uu.ok;have nxx:=uu.next;have lkk:=uu.lock;have imm:=uu.imp))
    try conv=>whnf
    refine ⟨⟨-1, rfl, by omega, ?_⟩, ?_, ?_⟩
    · rw [hfo2]
      simp
    · rw [hge] at hlim'
      exact hlim'
    · intro s' hs'
      rw [hfo2] at hs'
      cases hs'
      exact hst

/-- The function that asks one after the other, by its answer. -/
theorem cfi_ok (E : Alike P Tryz.prog base walkG) {d : Nat} {h : AH} {v fv2 : Value} {o : Option σ} {w : Nat} (hm : mtG 27 [v, fv2] = 2) (hd : 1 ≤ d) (hok : HOK h) (hlk : h.lock < h.next)
    (hq : ∃ u h', deepF P G ext 2199023255552 base mtG (d - 1) 46 [v, fv2] h = some (u, some h') ∧ HOK h' ∧ ((∃ z : Int, u = .int .i64 z ∧ -1 ≤ z ∧ (z = -1 ↔ o.isSome)) ∧ LimG K L w h h' ∧ ∀ s', o = some s' → St s' h')) :
    ∃ u h', deepF P G ext 2199023255552 base mtG d 27 [v, fv2] h = some (u, some h') ∧ HOK h' ∧ (u = .bool o.isNone ∧ LimG K L w h h' ∧ ∀ s', o = some s' → St s' h') := by
  have hl := beq_less hlk
  have u3:=U3 E;have s3:=S3 E
  have u22:=U22 E;have s22:=S22 E
  have u24:=U24 E;have s24:=S24 E
  have u25:=U25 E;have s25:=S25 E
  have u26:=U26 E;have s26:=S26 E
  have u27:=U27 E;have s27:=S27 E
  have u29:=U29 E;have s29:=S29 E
  have u63:=U63 E;have s63:=S63 E
  refine mut_to (by omega) rfl (E.no 27 _ _ rfl) (.inr hm) hl ((E.fn 27).trans Tryz.func27) rfl hok ?_
  conv => whnf
  refine ⟨by simp [Tryz.f27], ?_⟩
  repeat ((conv=>whnf);first|((with_reducible refine Exists.intro ?_ (Exists.intro ?_ (And.intro (a:=_=some (Blk.cells _ _)) ?_ ?_)));rotate_left 2;· (try dsimp only);(repeat first|with_reducible assumption|with_reducible exact uA (by assumption)|with_reducible exact nA (by assumption)|((with_reducible refine uN (by assumption) ?_ ?_);· omega)|((with_reducible refine nN (by assumption) ?_ ?_);· omega)))|((with_reducible refine Exists.intro ?_ (And.intro ?_ ?_));rotate_left;· first|with_reducible assumption|((conv=>lhs;arg 2;whnf);with_reducible assumption)|exact rfl)|((with_reducible refine And.intro (a:=AH.may _ _=true) ?_ ?_);· (try dsimp only);(repeat first|with_reducible assumption|((with_reducible refine New.mayNew (by assumption) (by assumption) ?_ ?_ ?_)<;>omega)|refine Upd.mayOf (by assumption) ?_|refine New.mayOf (by assumption) ?_|refine Ke.mayOf (by assumption) ?_))|((with_reducible refine And.intro (a:=szOf _ _=_) ?_ ?_);· refine Eq.trans (by assumption) ?_;kernel_rfl)|((with_reducible refine And.intro (a:=List.all _ _=true) ?_ ?_);· kernel_rfl)|((with_reducible refine And.intro (a:=_=_) ?_ ?_);· first|with_reducible assumption|rfl)|((with_reducible refine And.intro (a:=_≤_) ?_ ?_);· first|omega|exact sz_ok|exact Nat.le_of_ble_eq_true (by kernel_rfl))|((with_reducible refine And.intro (a:=_<_) ?_ ?_);· omega)|((with_reducible refine And.intro (a:=_∧_) ?_ ?_);· constructor<;>first|omega|(simp<;>omega))|(refine brk_true ?_ ?_;· first|rfl|(simp only [q1,q2,q3,q4,q7,q8,ne_eq,q5,q6];omega))|(refine brk_false ?_ ?_;· first|rfl|(simp only [q1,q2,q3,q4,q7,q8,ne_eq,q5,q6];omega))|(intro aa uu;(try dsimp only at uu);have okk:=uu.ok;have nxx:=uu.next;have lkk:=uu.lock;have imm:=uu.imp))
  try conv=>whnf
  refine callB_heap ((E.fn 46).trans Tryz.func46) rfl ?_
  refine ⟨_, (hq), ?_⟩
  rintro u h2 hok2 ⟨⟨z, rfl, hz1, hz2⟩, hlim, hst⟩
  repeat ((conv=>whnf);first|((with_reducible refine Exists.intro ?_ (Exists.intro ?_ (And.intro (a:=_=some (Blk.cells _ _)) ?_ ?_)));rotate_left 2;· (try dsimp only);(repeat first|with_reducible assumption|with_reducible exact uA (by assumption)|with_reducible exact nA (by assumption)|((with_reducible refine uN (by assumption) ?_ ?_);· omega)|((with_reducible refine nN (by assumption) ?_ ?_);· omega)))|((with_reducible refine Exists.intro ?_ (And.intro ?_ ?_));rotate_left;· first|with_reducible assumption|((conv=>lhs;arg 2;whnf);with_reducible assumption)|exact rfl)|((with_reducible refine And.intro (a:=AH.may _ _=true) ?_ ?_);· (try dsimp only);(repeat first|with_reducible assumption|((with_reducible refine New.mayNew (by assumption) (by assumption) ?_ ?_ ?_)<;>omega)|refine Upd.mayOf (by assumption) ?_|refine New.mayOf (by assumption) ?_|refine Ke.mayOf (by assumption) ?_))|((with_reducible refine And.intro (a:=szOf _ _=_) ?_ ?_);· refine Eq.trans (by assumption) ?_;kernel_rfl)|((with_reducible refine And.intro (a:=List.all _ _=true) ?_ ?_);· kernel_rfl)|((with_reducible refine And.intro (a:=_=_) ?_ ?_);· first|with_reducible assumption|rfl)|((with_reducible refine And.intro (a:=_≤_) ?_ ?_);· first|omega|exact sz_ok|exact Nat.le_of_ble_eq_true (by kernel_rfl))|((with_reducible refine And.intro (a:=_<_) ?_ ?_);· omega)|((with_reducible refine And.intro (a:=_∧_) ?_ ?_);· constructor<;>first|omega|(simp<;>omega))|(refine brk_true ?_ ?_;· first|rfl|(simp only [q1,q2,q3,q4,q7,q8,ne_eq,q5,q6];omega))|(refine brk_false ?_ ?_;· first|rfl|(simp only [q1,q2,q3,q4,q7,q8,ne_eq,q5,q6];omega))|(intro aa uu;(try dsimp only at uu);have okk:=uu.ok;have nxx:=uu.next;have lkk:=uu.lock;have imm:=uu.imp))
  try conv=>whnf
  refine ⟨congrArg Value.bool ?_, hlim, hst⟩
  cases o with
  | none => exact decide_eq_true (by have := mt hz2.1; simp at this; omega)
  | some _ => exact decide_eq_false (by have := hz2.2 rfl; omega)
theorem cfm_ok (E : Alike P Tryz.prog base walkG) {d : Nat} {h : AH} {v fv2 : Value} {o : Option σ} {w : Nat} (hm : mtG 29 [v, fv2] = 2) (hd : 1 ≤ d) (hok : HOK h) (hlk : h.lock < h.next)
    (hq : ∃ u h', deepF P G ext 2199023255552 base mtG (d - 1) 47 [v, fv2] h = some (u, some h') ∧ HOK h' ∧ ((∃ z : Int, u = .int .i64 z ∧ -1 ≤ z ∧ (z = -1 ↔ o.isSome)) ∧ LimG K L w h h' ∧ ∀ s', o = some s' → St s' h')) :
    ∃ u h', deepF P G ext 2199023255552 base mtG d 29 [v, fv2] h = some (u, some h') ∧ HOK h' ∧ (u = .bool o.isNone ∧ LimG K L w h h' ∧ ∀ s', o = some s' → St s' h') := by
  have hl := beq_less hlk
  have u3:=U3 E;have s3:=S3 E
  have u22:=U22 E;have s22:=S22 E
  have u26:=U26 E;have s26:=S26 E
  have u29:=U29 E;have s29:=S29 E
  have u78:=U78 E;have s78:=S78 E
  refine mut_to (by omega) rfl (E.no 29 _ _ rfl) (.inr hm) hl ((E.fn 29).trans Tryz.func29) rfl hok ?_
  conv => whnf
  refine ⟨by simp [Tryz.f29], ?_⟩
  repeat ((conv=>whnf);first|((with_reducible refine Exists.intro ?_ (Exists.intro ?_ (And.intro (a:=_=some (Blk.cells _ _)) ?_ ?_)));rotate_left 2;· (try dsimp only);(repeat first|with_reducible assumption|with_reducible exact uA (by assumption)|with_reducible exact nA (by assumption)|((with_reducible refine uN (by assumption) ?_ ?_);· omega)|((with_reducible refine nN (by assumption) ?_ ?_);· omega)))|((with_reducible refine Exists.intro ?_ (And.intro ?_ ?_));rotate_left;· first|with_reducible assumption|((conv=>lhs;arg 2;whnf);with_reducible assumption)|exact rfl)|((with_reducible refine And.intro (a:=AH.may _ _=true) ?_ ?_);· (try dsimp only);(repeat first|with_reducible assumption|((with_reducible refine New.mayNew (by assumption) (by assumption) ?_ ?_ ?_)<;>omega)|refine Upd.mayOf (by assumption) ?_|refine New.mayOf (by assumption) ?_|refine Ke.mayOf (by assumption) ?_))|((with_reducible refine And.intro (a:=szOf _ _=_) ?_ ?_);· refine Eq.trans (by assumption) ?_;kernel_rfl)|((with_reducible refine And.intro (a:=List.all _ _=true) ?_ ?_);· kernel_rfl)|((with_reducible refine And.intro (a:=_=_) ?_ ?_);· first|with_reducible assumption|rfl)|((with_reducible refine And.intro (a:=_≤_) ?_ ?_);· first|omega|exact sz_ok|exact Nat.le_of_ble_eq_true (by kernel_rfl))|((with_reducible refine And.intro (a:=_<_) ?_ ?_);· omega)|((with_reducible refine And.intro (a:=_∧_) ?_ ?_);· constructor<;>first|omega|(simp<;>omega))|(refine brk_true ?_ ?_;· first|rfl|(simp only [q1,q2,q3,q4,q7,q8,ne_eq,q5,q6];omega))|(refine brk_false ?_ ?_;· first|rfl|(simp only [q1,q2,q3,q4,q7,q8,ne_eq,q5,q6];omega))|(intro aa uu;(try dsimp only at uu);have okk:=uu.ok;have nxx:=uu.next;have lkk:=uu.lock;have imm:=uu.imp))
  try conv=>whnf
  refine callB_heap ((E.fn 47).trans Tryz.func47) rfl ?_
  refine ⟨_, (hq), ?_⟩
  rintro u h2 hok2 ⟨⟨z, rfl, hz1, hz2⟩, hlim, hst⟩
  repeat ((conv=>whnf);first|((with_reducible refine Exists.intro ?_ (Exists.intro ?_ (And.intro (a:=_=some (Blk.cells _ _)) ?_ ?_)));rotate_left 2;· (try dsimp only);(repeat first|with_reducible assumption|with_reducible exact uA (by assumption)|with_reducible exact nA (by assumption)|((with_reducible refine uN (by assumption) ?_ ?_);· omega)|((with_reducible refine nN (by assumption) ?_ ?_);· omega)))|((with_reducible refine Exists.intro ?_ (And.intro ?_ ?_));rotate_left;· first|with_reducible assumption|((conv=>lhs;arg 2;whnf);with_reducible assumption)|exact rfl)|((with_reducible refine And.intro (a:=AH.may _ _=true) ?_ ?_);· (try dsimp only);(repeat first|with_reducible assumption|((with_reducible refine New.mayNew (by assumption) (by assumption) ?_ ?_ ?_)<;>omega)|refine Upd.mayOf (by assumption) ?_|refine New.mayOf (by assumption) ?_|refine Ke.mayOf (by assumption) ?_))|((with_reducible refine And.intro (a:=szOf _ _=_) ?_ ?_);· refine Eq.trans (by assumption) ?_;kernel_rfl)|((with_reducible refine And.intro (a:=List.all _ _=true) ?_ ?_);· kernel_rfl)|((with_reducible refine And.intro (a:=_=_) ?_ ?_);· first|with_reducible assumption|rfl)|((with_reducible refine And.intro (a:=_≤_) ?_ ?_);· first|omega|exact sz_ok|exact Nat.le_of_ble_eq_true (by kernel_rfl))|((with_reducible refine And.intro (a:=_<_) ?_ ?_);· omega)|((with_reducible refine And.intro (a:=_∧_) ?_ ?_);· constructor<;>first|omega|(simp<;>omega))|(refine brk_true ?_ ?_;· first|rfl|(simp only [q1,q2,q3,q4,q7,q8,ne_eq,q5,q6];omega))|(refine brk_false ?_ ?_;· first|rfl|(simp only [q1,q2,q3,q4,q7,q8,ne_eq,q5,q6];omega))|(intro aa uu;(try dsimp only at uu);have okk:=uu.ok;have nxx:=uu.next;have lkk:=uu.lock;have imm:=uu.imp))
  try conv=>whnf
  refine ⟨congrArg Value.bool ?_, hlim, hst⟩
  cases o with
  | none => exact decide_eq_true (by have := mt hz2.1; simp at this; omega)
  | some _ => exact decide_eq_false (by have := hz2.2 rfl; omega)

/-- A member: its own items are asked. -/
theorem has11_ok (E : Alike P Tryz.prog base walkG) (A : Asks K L fv St) {D w : Nat} {v : Value} {g : σ → Option σ} (ha : HasAt P G ext base K h0 L D w fv St v g) : Has11At P G ext base K h0 L (D + 1) w fv St v g := by
  intro d h s q gq hd ho hn hs hq hqL hqn hgq
  have ho' := ho
  obtain ⟨hok, hlk, him, hln, hfl, hag⟩ := ho
  obtain ⟨v2, h2, e2, ok2, rfl, lim2, st2⟩ := ha (d - 1) h s (by omega) ho' hn hs
  have hone := A.one
  have u3:=U3 E;have s3:=S3 E
  have u22:=U22 E;have s22:=S22 E
  have u24:=U24 E;have s24:=S24 E
  have u25:=U25 E;have s25:=S25 E
  have u26:=U26 E;have s26:=S26 E
  have u27:=U27 E;have s27:=S27 E
  have u29:=U29 E;have s29:=S29 E
  have u63:=U63 E;have s63:=S63 E;have a63:=A63 E
  have hl := beq_less hlk
  refine mut_to (by omega) rfl (E.no 30 _ _ rfl) (by first | exact .inl rfl | exact .inr rfl) hl ((E.fn 30).trans Tryz.func30) rfl hok ?_
  conv => whnf
  refine ⟨by simp [Tryz.f30], ?_⟩
  repeat ((conv=>whnf);first|((with_reducible refine Exists.intro ?_ (Exists.intro ?_ (And.intro (a:=_=some (Blk.cells _ _)) ?_ ?_)));rotate_left 2;· (try dsimp only);(repeat first|with_reducible assumption|with_reducible exact uA (by assumption)|with_reducible exact nA (by assumption)|((with_reducible refine uN (by assumption) ?_ ?_);· omega)|((with_reducible refine nN (by assumption) ?_ ?_);· omega)))|((with_reducible refine Exists.intro ?_ (And.intro ?_ ?_));rotate_left;· first|with_reducible assumption|((conv=>lhs;arg 2;whnf);with_reducible assumption)|exact rfl)|((with_reducible refine And.intro (a:=AH.may _ _=true) ?_ ?_);· (try dsimp only);(repeat first|with_reducible assumption|((with_reducible refine New.mayNew (by assumption) (by assumption) ?_ ?_ ?_)<;>omega)|refine Upd.mayOf (by assumption) ?_|refine New.mayOf (by assumption) ?_|refine Ke.mayOf (by assumption) ?_))|((with_reducible refine And.intro (a:=szOf _ _=_) ?_ ?_);· refine Eq.trans (by assumption) ?_;kernel_rfl)|((with_reducible refine And.intro (a:=List.all _ _=true) ?_ ?_);· kernel_rfl)|((with_reducible refine And.intro (a:=_=_) ?_ ?_);· first|with_reducible assumption|rfl)|((with_reducible refine And.intro (a:=_≤_) ?_ ?_);· first|omega|exact sz_ok|exact Nat.le_of_ble_eq_true (by kernel_rfl))|((with_reducible refine And.intro (a:=_<_) ?_ ?_);· omega)|((with_reducible refine And.intro (a:=_∧_) ?_ ?_);· constructor<;>first|omega|(simp<;>omega))|(refine brk_true ?_ ?_;· first|rfl|(simp only [q1,q2,q3,q4,q7,q8,ne_eq,q5,q6];omega))|(refine brk_false ?_ ?_;· first|rfl|(simp only [q1,q2,q3,q4,q7,q8,ne_eq,q5,q6];omega))|(intro aa uu;(try dsimp only at uu);have okk:=uu.ok;have nxx:=uu.next;have lkk:=uu.lock;have imm:=uu.imp))
  try conv=>whnf
  refine callB_heap ((E.fn 13).trans Tryz.func13) rfl ?_
  refine ⟨fun v h' => v = .bool (g s).isNone ∧ h' = h2, ⟨_, _, e2, ok2, rfl, rfl⟩, ?_⟩
  rintro v3 h3 hok3 ⟨rfl, rfl⟩
  repeat ((conv=>whnf);first|((with_reducible refine Exists.intro ?_ (Exists.intro ?_ (And.intro (a:=_=some (Blk.cells _ _)) ?_ ?_)));rotate_left 2;· (try dsimp only);(repeat first|with_reducible assumption|with_reducible exact uA (by assumption)|with_reducible exact nA (by assumption)|((with_reducible refine uN (by assumption) ?_ ?_);· omega)|((with_reducible refine nN (by assumption) ?_ ?_);· omega)))|((with_reducible refine Exists.intro ?_ (And.intro ?_ ?_));rotate_left;· first|with_reducible assumption|((conv=>lhs;arg 2;whnf);with_reducible assumption)|exact rfl)|((with_reducible refine And.intro (a:=AH.may _ _=true) ?_ ?_);· (try dsimp only);(repeat first|with_reducible assumption|((with_reducible refine New.mayNew (by assumption) (by assumption) ?_ ?_ ?_)<;>omega)|refine Upd.mayOf (by assumption) ?_|refine New.mayOf (by assumption) ?_|refine Ke.mayOf (by assumption) ?_))|((with_reducible refine And.intro (a:=szOf _ _=_) ?_ ?_);· refine Eq.trans (by assumption) ?_;kernel_rfl)|((with_reducible refine And.intro (a:=List.all _ _=true) ?_ ?_);· kernel_rfl)|((with_reducible refine And.intro (a:=_=_) ?_ ?_);· first|with_reducible assumption|rfl)|((with_reducible refine And.intro (a:=_≤_) ?_ ?_);· first|omega|exact sz_ok|exact Nat.le_of_ble_eq_true (by kernel_rfl))|((with_reducible refine And.intro (a:=_<_) ?_ ?_);· omega)|((with_reducible refine And.intro (a:=_∧_) ?_ ?_);· constructor<;>first|omega|(simp<;>omega))|(refine brk_true ?_ ?_;· first|rfl|(simp only [q1,q2,q3,q4,q7,q8,ne_eq,q5,q6];omega))|(refine brk_false ?_ ?_;· first|rfl|(simp only [q1,q2,q3,q4,q7,q8,ne_eq,q5,q6];omega))|(intro aa uu;(try dsimp only at uu);have okk:=uu.ok;have nxx:=uu.next;have lkk:=uu.lock;have imm:=uu.imp))
  try conv=>whnf
  exact ⟨lim2, st2⟩

/-- Two members. -/
theorem ifm_ok (E : Alike P Tryz.prog base walkG) {D w : Nat} {p : Option Addr} {c : Nat} {v1 v2 : Value} {g1 g2 : σ → Option σ} (hr : Row K 1 h0 p [[v1], [v2]]) (hi1 : Has11At P G ext base K h0 L D w fv St v1 g1) (hi2 : Has11At P G ext base K h0 L D w fv St v2 g2)
    {d : Nat} {h : AH} {s : σ} {q : Nat} {gq : Gw} (hd : D + 1 ≤ d) (ho : OpG K h0 L h) (hn : h.next + 2 * w < 16000000) (hs : St s h) (hq : h.get q = some (.cells #[fv] gq)) (hqL : L ≤ q) (hqn : q < h.next) (hgq : closedG gq = true) (hKL : K ≤ L) :
    ∃ v h', deepF P G ext 2199023255552 base mtG d 47 [.slice p 2 c, .func (.func 30) #[] #[pt q]] h = some (v, some h') ∧ HOK h' ∧ ((∃ z : Int, v = .int .i64 z ∧ -1 ≤ z ∧ (z = -1 ↔ (foldO [g1, g2] s).isSome)) ∧ LimG K L (2 * w) h h' ∧ ∀ s', foldO [g1, g2] s = some s' → St s' h') := by
  have ho' := ho
  obtain ⟨hok, hlk, him, hln, hfl, hag⟩ := ho
  obtain ⟨bm, om, cm, gm, hv1, hv2, rfl, hbm, hgm⟩ := hr.two
  have hgm2 : h.get bm = some (.cells cm gm) := (hag bm hbm).trans hgm
  obtain ⟨u1, h1, e1, ok1, rfl, lim1, st1⟩ := callB_tells (ext := ext) ((E.fn 30).trans Tryz.func30) rfl (first := []) (args := [v1]) (captured := [pt q]) (hi1 (d - 1) h s q gq (by omega) ho' (by omega) hs hq hqL hqn hgq)
  have oh1 := ho'.lim ok1 lim1 hKL
  have lim1' := lim1
  obtain ⟨r1, r2, r3, r4, r5, r6⟩ := lim1'
  cases hg1 : g1 s with
  | none =>
    have hb1 : (g1 s).isNone = true := by rw [hg1]; rfl
    rw [hb1] at e1
    have u3:=U3 E;have s3:=S3 E
    have u22:=U22 E;have s22:=S22 E;have a22:=A22 E
    have u24:=U24 E;have s24:=S24 E
    have u25:=U25 E;have s25:=S25 E
    have u26:=U26 E;have s26:=S26 E
    have u27:=U27 E;have s27:=S27 E
    have u29:=U29 E;have s29:=S29 E
    have hl := beq_less hlk
    refine mut_to (by omega) rfl (E.no 47 _ _ rfl) (by first | exact .inl rfl | exact .inr rfl) hl ((E.fn 47).trans Tryz.func47) rfl hok ?_
    conv => whnf
    refine ⟨by simp [Tryz.f47], ?_⟩
    repeat ((conv=>whnf);first|((with_reducible refine Exists.intro ?_ (Exists.intro ?_ (And.intro (a:=_=some (Blk.cells _ _)) ?_ ?_)));rotate_left 2;· (try dsimp only);(repeat first|with_reducible assumption|with_reducible exact uA (by assumption)|with_reducible exact nA (by assumption)|((with_reducible refine uN (by assumption) ?_ ?_);· omega)|((with_reducible refine nN (by assumption) ?_ ?_);· omega)))|((with_reducible refine Exists.intro ?_ (And.intro ?_ ?_));rotate_left;· first|with_reducible assumption|((conv=>lhs;arg 2;whnf);with_reducible assumption)|exact rfl)|((with_reducible refine And.intro (a:=AH.may _ _=true) ?_ ?_);· (try dsimp only);(repeat first|with_reducible assumption|((with_reducible refine New.mayNew (by assumption) (by assumption) ?_ ?_ ?_)<;>omega)|refine Upd.mayOf (by assumption) ?_|refine New.mayOf (by assumption) ?_|refine Ke.mayOf (by assumption) ?_))|((with_reducible refine And.intro (a:=szOf _ _=_) ?_ ?_);· refine Eq.trans (by assumption) ?_;kernel_rfl)|((with_reducible refine And.intro (a:=List.all _ _=true) ?_ ?_);· kernel_rfl)|((with_reducible refine And.intro (a:=_=_) ?_ ?_);· first|with_reducible assumption|rfl)|((with_reducible refine And.intro (a:=_≤_) ?_ ?_);· first|omega|exact sz_ok|exact Nat.le_of_ble_eq_true (by kernel_rfl))|((with_reducible refine And.intro (a:=_<_) ?_ ?_);· omega)|((with_reducible refine And.intro (a:=_∧_) ?_ ?_);· constructor<;>first|omega|(simp<;>omega))|(refine brk_true ?_ ?_;· first|rfl|(simp only [q1,q2,q3,q4,q7,q8,ne_eq,q5,q6];omega))|(refine brk_false ?_ ?_;· first|rfl|(simp only [q1,q2,q3,q4,q7,q8,ne_eq,q5,q6];omega))|(intro aa uu;(try dsimp only at uu);have okk:=uu.ok;have nxx:=uu.next;have lkk:=uu.lock;have imm:=uu.imp))
    try conv=>whnf
    refine .inr ⟨3, by omega, ?_⟩
    repeat ((conv=>whnf);first|((with_reducible refine Exists.intro ?_ (Exists.intro ?_ (And.intro (a:=_=some (Blk.cells _ _)) ?_ ?_)));rotate_left 2;· (try dsimp only);(repeat first|with_reducible assumption|with_reducible exact uA (by assumption)|with_reducible exact nA (by assumption)|((with_reducible refine uN (by assumption) ?_ ?_);· omega)|((with_reducible refine nN (by assumption) ?_ ?_);· omega)))|((with_reducible refine Exists.intro ?_ (And.intro ?_ ?_));rotate_left;· first|with_reducible assumption|((conv=>lhs;arg 2;whnf);with_reducible assumption)|exact rfl)|((with_reducible refine And.intro (a:=AH.may _ _=true) ?_ ?_);· (try dsimp only);(repeat first|with_reducible assumption|((with_reducible refine New.mayNew (by assumption) (by assumption) ?_ ?_ ?_)<;>omega)|refine Upd.mayOf (by assumption) ?_|refine New.mayOf (by assumption) ?_|refine Ke.mayOf (by assumption) ?_))|((with_reducible refine And.intro (a:=szOf _ _=_) ?_ ?_);· refine Eq.trans (by assumption) ?_;kernel_rfl)|((with_reducible refine And.intro (a:=List.all _ _=true) ?_ ?_);· kernel_rfl)|((with_reducible refine And.intro (a:=_=_) ?_ ?_);· first|with_reducible assumption|rfl)|((with_reducible refine And.intro (a:=_≤_) ?_ ?_);· first|omega|exact sz_ok|exact Nat.le_of_ble_eq_true (by kernel_rfl))|((with_reducible refine And.intro (a:=_<_) ?_ ?_);· omega)|((with_reducible refine And.intro (a:=_∧_) ?_ ?_);· constructor<;>first|omega|(simp<;>omega))|(refine brk_true ?_ ?_;· first|rfl|(simp only [q1,q2,q3,q4,q7,q8,ne_eq,q5,q6];omega))|(refine brk_false ?_ ?_;· first|rfl|(simp only [q1,q2,q3,q4,q7,q8,ne_eq,q5,q6];omega))|(intro aa uu;(try dsimp only at uu);have okk:=uu.ok;have nxx:=uu.next;have lkk:=uu.lock;have imm:=uu.imp))
    try conv=>whnf
    refine ⟨_, hv1, ?_⟩
    repeat ((conv=>whnf);first|((with_reducible refine Exists.intro ?_ (Exists.intro ?_ (And.intro (a:=_=some (Blk.cells _ _)) ?_ ?_)));rotate_left 2;· (try dsimp only);(repeat first|with_reducible assumption|with_reducible exact uA (by assumption)|with_reducible exact nA (by assumption)|((with_reducible refine uN (by assumption) ?_ ?_);· omega)|((with_reducible refine nN (by assumption) ?_ ?_);· omega)))|((with_reducible refine Exists.intro ?_ (And.intro ?_ ?_));rotate_left;· first|with_reducible assumption|((conv=>lhs;arg 2;whnf);with_reducible assumption)|exact rfl)|((with_reducible refine And.intro (a:=AH.may _ _=true) ?_ ?_);· (try dsimp only);(repeat first|with_reducible assumption|((with_reducible refine New.mayNew (by assumption) (by assumption) ?_ ?_ ?_)<;>omega)|refine Upd.mayOf (by assumption) ?_|refine New.mayOf (by assumption) ?_|refine Ke.mayOf (by assumption) ?_))|((with_reducible refine And.intro (a:=szOf _ _=_) ?_ ?_);· refine Eq.trans (by assumption) ?_;kernel_rfl)|((with_reducible refine And.intro (a:=List.all _ _=true) ?_ ?_);· kernel_rfl)|((with_reducible refine And.intro (a:=_=_) ?_ ?_);· first|with_reducible assumption|rfl)|((with_reducible refine And.intro (a:=_≤_) ?_ ?_);· first|omega|exact sz_ok|exact Nat.le_of_ble_eq_true (by kernel_rfl))|((with_reducible refine And.intro (a:=_<_) ?_ ?_);· omega)|((with_reducible refine And.intro (a:=_∧_) ?_ ?_);· constructor<;>first|omega|(simp<;>omega))|(refine brk_true ?_ ?_;· first|rfl|(simp only [q1,q2,q3,q4,q7,q8,ne_eq,q5,q6];omega))|(refine brk_false ?_ ?_;· first|rfl|(simp only [q1,q2,q3,q4,q7,q8,ne_eq,q5,q6];omega))|(intro aa uu;(try dsimp only at uu);have okk:=uu.ok;have nxx:=uu.next;have lkk:=uu.lock;have imm:=uu.imp))
    try conv=>whnf
    refine callB_that ⟨fun v hz => v = .bool true ∧ hz = h1, ⟨_, h1, e1, ok1, rfl, rfl⟩, ?_⟩
    rintro v3 h3 hok3 ⟨rfl, rfl⟩
    repeat ((conv=>whnf);first|((with_reducible refine Exists.intro ?_ (Exists.intro ?_ (And.intro (a:=_=some (Blk.cells _ _)) ?_ ?_)));rotate_left 2;· (try dsimp only);(repeat first|with_reducible assumption|with_reducible exact uA (by assumption)|with_reducible exact nA (by assumption)|((with_reducible refine uN (by assumption) ?_ ?_);· omega)|((with_reducible refine nN (by assumption) ?_ ?_);· omega)))|((with_reducible refine Exists.intro ?_ (And.intro ?_ ?_));rotate_left;· first|with_reducible assumption|((conv=>lhs;arg 2;whnf);with_reducible assumption)|exact rfl)|((with_reducible refine And.intro (a:=AH.may _ _=true) ?_ ?_);· (try dsimp only);(repeat first|with_reducible assumption|((with_reducible refine New.mayNew (by assumption) (by assumption) ?_ ?_ ?_)<;>omega)|refine Upd.mayOf (by assumption) ?_|refine New.mayOf (by assumption) ?_|refine Ke.mayOf (by assumption) ?_))|((with_reducible refine And.intro (a:=szOf _ _=_) ?_ ?_);· refine Eq.trans (by assumption) ?_;kernel_rfl)|((with_reducible refine And.intro (a:=List.all _ _=true) ?_ ?_);· kernel_rfl)|((with_reducible refine And.intro (a:=_=_) ?_ ?_);· first|with_reducible assumption|rfl)|((with_reducible refine And.intro (a:=_≤_) ?_ ?_);· first|omega|exact sz_ok|exact Nat.le_of_ble_eq_true (by kernel_rfl))|((with_reducible refine And.intro (a:=_<_) ?_ ?_);· omega)|((with_reducible refine And.intro (a:=_∧_) ?_ ?_);· constructor<;>first|omega|(simp<;>omega))|(refine brk_true ?_ ?_;· first|rfl|(simp only [q1,q2,q3,q4,q7,q8,ne_eq,q5,q6];omega))|(refine brk_false ?_ ?_;· first|rfl|(simp only [q1,q2,q3,q4,q7,q8,ne_eq,q5,q6];omega))|(intro aa uu;(try dsimp only at uu);have okk:=uu.ok;have nxx:=uu.next;have lkk:=uu.lock;have imm:=uu.imp))
    try conv=>whnf
    refine ⟨⟨0, rfl, by omega, ?_⟩, lim1.more (by omega), ?_⟩
    · simp [foldO, hg1]
    · intro s' hs'
      simp [foldO, hg1] at hs'
  | some s1 =>
    have hb1 : (g1 s).isNone = false := by rw [hg1]; rfl
    rw [hb1] at e1
    have hgm3 : h1.get bm = some (.cells cm gm) := (r6 bm (by omega) (.inl hbm)).trans hgm2
    have hq1 : h1.get q = some (.cells #[fv] gq) := (r6 q hqn (.inr ⟨hqL, by rw [hq]; exact hgq⟩)).trans hq
    obtain ⟨u2, h2, e2, ok2, rfl, lim2, st2⟩ := callB_tells (ext := ext) ((E.fn 30).trans Tryz.func30) rfl (first := []) (args := [v2]) (captured := [pt q]) (hi2 (d - 1) h1 s1 q gq (by omega) oh1 (by omega) (st1 s1 hg1) hq1 hqL (by omega) hgq)
    have lim12 := lim1.trans lim2
    have hf : foldO [g1, g2] s = g2 s1 := by
      simp only [foldO, hg1]
      cases g2 s1 <;> rfl
    rw [hf]
    cases hg2 : g2 s1 with
    | none =>
      have hb2 : (g2 s1).isNone = true := by rw [hg2]; rfl
      rw [hb2] at e2
      have u3:=U3 E;have s3:=S3 E
      have u22:=U22 E;have s22:=S22 E;have a22:=A22 E
      have u24:=U24 E;have s24:=S24 E
      have u25:=U25 E;have s25:=S25 E
      have u26:=U26 E;have s26:=S26 E
      have u27:=U27 E;have s27:=S27 E
      have u29:=U29 E;have s29:=S29 E
      have hl := beq_less hlk
      refine mut_to (by omega) rfl (E.no 47 _ _ rfl) (by first | exact .inl rfl | exact .inr rfl) hl ((E.fn 47).trans Tryz.func47) rfl hok ?_
      conv => whnf
      refine ⟨by simp [Tryz.f47], ?_⟩
      repeat ((conv=>whnf);first|((with_reducible refine Exists.intro ?_ (Exists.intro ?_ (And.intro (a:=_=some (Blk.cells _ _)) ?_ ?_)));rotate_left 2;· (try dsimp only);(repeat first|with_reducible assumption|with_reducible exact uA (by assumption)|with_reducible exact nA (by assumption)|((with_reducible refine uN (by assumption) ?_ ?_);· omega)|((with_reducible refine nN (by assumption) ?_ ?_);· omega)))|((with_reducible refine Exists.intro ?_ (And.intro ?_ ?_));rotate_left;· first|with_reducible assumption|((conv=>lhs;arg 2;whnf);with_reducible assumption)|exact rfl)|((with_reducible refine And.intro (a:=AH.may _ _=true) ?_ ?_);· (try dsimp only);(repeat first|with_reducible assumption|((with_reducible refine New.mayNew (by assumption) (by assumption) ?_ ?_ ?_)<;>omega)|refine Upd.mayOf (by assumption) ?_|refine New.mayOf (by assumption) ?_|refine Ke.mayOf (by assumption) ?_))|((with_reducible refine And.intro (a:=szOf _ _=_) ?_ ?_);· refine Eq.trans (by assumption) ?_;kernel_rfl)|((with_reducible refine And.intro (a:=List.all _ _=true) ?_ ?_);· kernel_rfl)|((with_reducible refine And.intro (a:=_=_) ?_ ?_);· first|with_reducible assumption|rfl)|((with_reducible refine And.intro (a:=_≤_) ?_ ?_);· first|omega|exact sz_ok|exact Nat.le_of_ble_eq_true (by kernel_rfl))|((with_reducible refine And.intro (a:=_<_) ?_ ?_);· omega)|((with_reducible refine And.intro (a:=_∧_) ?_ ?_);· constructor<;>first|omega|(simp<;>omega))|(refine brk_true ?_ ?_;· first|rfl|(simp only [q1,q2,q3,q4,q7,q8,ne_eq,q5,q6];omega))|(refine brk_false ?_ ?_;· first|rfl|(simp only [q1,q2,q3,q4,q7,q8,ne_eq,q5,q6];omega))|(intro aa uu;(try dsimp only at uu);have okk:=uu.ok;have nxx:=uu.next;have lkk:=uu.lock;have imm:=uu.imp))
      try conv=>whnf
      refine .inr ⟨3, by omega, ?_⟩
      repeat ((conv=>whnf);first|((with_reducible refine Exists.intro ?_ (Exists.intro ?_ (And.intro (a:=_=some (Blk.cells _ _)) ?_ ?_)));rotate_left 2;· (try dsimp only);(repeat first|with_reducible assumption|with_reducible exact uA (by assumption)|with_reducible exact nA (by assumption)|((with_reducible refine uN (by assumption) ?_ ?_);· omega)|((with_reducible refine nN (by assumption) ?_ ?_);· omega)))|((with_reducible refine Exists.intro ?_ (And.intro ?_ ?_));rotate_left;· first|with_reducible assumption|((conv=>lhs;arg 2;whnf);with_reducible assumption)|exact rfl)|((with_reducible refine And.intro (a:=AH.may _ _=true) ?_ ?_);· (try dsimp only);(repeat first|with_reducible assumption|((with_reducible refine New.mayNew (by assumption) (by assumption) ?_ ?_ ?_)<;>omega)|refine Upd.mayOf (by assumption) ?_|refine New.mayOf (by assumption) ?_|refine Ke.mayOf (by assumption) ?_))|((with_reducible refine And.intro (a:=szOf _ _=_) ?_ ?_);· refine Eq.trans (by assumption) ?_;kernel_rfl)|((with_reducible refine And.intro (a:=List.all _ _=true) ?_ ?_);· kernel_rfl)|((with_reducible refine And.intro (a:=_=_) ?_ ?_);· first|with_reducible assumption|rfl)|((with_reducible refine And.intro (a:=_≤_) ?_ ?_);· first|omega|exact sz_ok|exact Nat.le_of_ble_eq_true (by kernel_rfl))|((with_reducible refine And.intro (a:=_<_) ?_ ?_);· omega)|((with_reducible refine And.intro (a:=_∧_) ?_ ?_);· constructor<;>first|omega|(simp<;>omega))|(refine brk_true ?_ ?_;· first|rfl|(simp only [q1,q2,q3,q4,q7,q8,ne_eq,q5,q6];omega))|(refine brk_false ?_ ?_;· first|rfl|(simp only [q1,q2,q3,q4,q7,q8,ne_eq,q5,q6];omega))|(intro aa uu;(try dsimp only at uu);have okk:=uu.ok;have nxx:=uu.next;have lkk:=uu.lock;have imm:=uu.imp))
      try conv=>whnf
      refine ⟨_, hv1, ?_⟩
      repeat ((conv=>whnf);first|((with_reducible refine Exists.intro ?_ (Exists.intro ?_ (And.intro (a:=_=some (Blk.cells _ _)) ?_ ?_)));rotate_left 2;· (try dsimp only);(repeat first|with_reducible assumption|with_reducible exact uA (by assumption)|with_reducible exact nA (by assumption)|((with_reducible refine uN (by assumption) ?_ ?_);· omega)|((with_reducible refine nN (by assumption) ?_ ?_);· omega)))|((with_reducible refine Exists.intro ?_ (And.intro ?_ ?_));rotate_left;· first|with_reducible assumption|((conv=>lhs;arg 2;whnf);with_reducible assumption)|exact rfl)|((with_reducible refine And.intro (a:=AH.may _ _=true) ?_ ?_);· (try dsimp only);(repeat first|with_reducible assumption|((with_reducible refine New.mayNew (by assumption) (by assumption) ?_ ?_ ?_)<;>omega)|refine Upd.mayOf (by assumption) ?_|refine New.mayOf (by assumption) ?_|refine Ke.mayOf (by assumption) ?_))|((with_reducible refine And.intro (a:=szOf _ _=_) ?_ ?_);· refine Eq.trans (by assumption) ?_;kernel_rfl)|((with_reducible refine And.intro (a:=List.all _ _=true) ?_ ?_);· kernel_rfl)|((with_reducible refine And.intro (a:=_=_) ?_ ?_);· first|with_reducible assumption|rfl)|((with_reducible refine And.intro (a:=_≤_) ?_ ?_);· first|omega|exact sz_ok|exact Nat.le_of_ble_eq_true (by kernel_rfl))|((with_reducible refine And.intro (a:=_<_) ?_ ?_);· omega)|((with_reducible refine And.intro (a:=_∧_) ?_ ?_);· constructor<;>first|omega|(simp<;>omega))|(refine brk_true ?_ ?_;· first|rfl|(simp only [q1,q2,q3,q4,q7,q8,ne_eq,q5,q6];omega))|(refine brk_false ?_ ?_;· first|rfl|(simp only [q1,q2,q3,q4,q7,q8,ne_eq,q5,q6];omega))|(intro aa uu;(try dsimp only at uu);have okk:=uu.ok;have nxx:=uu.next;have lkk:=uu.lock;have imm:=uu.imp))
      try conv=>whnf
      refine callB_that ⟨fun v hz => v = .bool false ∧ hz = h1, ⟨_, h1, e1, ok1, rfl, rfl⟩, ?_⟩
      rintro v3 h3 hok3 ⟨rfl, rfl⟩
      repeat ((conv=>whnf);first|((with_reducible refine Exists.intro ?_ (Exists.intro ?_ (And.intro (a:=_=some (Blk.cells _ _)) ?_ ?_)));rotate_left 2;· (try dsimp only);(repeat first|with_reducible assumption|with_reducible exact uA (by assumption)|with_reducible exact nA (by assumption)|((with_reducible refine uN (by assumption) ?_ ?_);· omega)|((with_reducible refine nN (by assumption) ?_ ?_);· omega)))|((with_reducible refine Exists.intro ?_ (And.intro ?_ ?_));rotate_left;· first|with_reducible assumption|((conv=>lhs;arg 2;whnf);with_reducible assumption)|exact rfl)|((with_reducible refine And.intro (a:=AH.may _ _=true) ?_ ?_);· (try dsimp only);(repeat first|with_reducible assumption|((with_reducible refine New.mayNew (by assumption) (by assumption) ?_ ?_ ?_)<;>omega)|refine Upd.mayOf (by assumption) ?_|refine New.mayOf (by assumption) ?_|refine Ke.mayOf (by assumption) ?_))|((with_reducible refine And.intro (a:=szOf _ _=_) ?_ ?_);· refine Eq.trans (by assumption) ?_;kernel_rfl)|((with_reducible refine And.intro (a:=List.all _ _=true) ?_ ?_);· kernel_rfl)|((with_reducible refine And.intro (a:=_=_) ?_ ?_);· first|with_reducible assumption|rfl)|((with_reducible refine And.intro (a:=_≤_) ?_ ?_);· first|omega|exact sz_ok|exact Nat.le_of_ble_eq_true (by kernel_rfl))|((with_reducible refine And.intro (a:=_<_) ?_ ?_);· omega)|((with_reducible refine And.intro (a:=_∧_) ?_ ?_);· constructor<;>first|omega|(simp<;>omega))|(refine brk_true ?_ ?_;· first|rfl|(simp only [q1,q2,q3,q4,q7,q8,ne_eq,q5,q6];omega))|(refine brk_false ?_ ?_;· first|rfl|(simp only [q1,q2,q3,q4,q7,q8,ne_eq,q5,q6];omega))|(intro aa uu;(try dsimp only at uu);have okk:=uu.ok;have nxx:=uu.next;have lkk:=uu.lock;have imm:=uu.imp))
      try conv=>whnf
      refine callB_that ⟨fun v hz => v = .bool true ∧ hz = h2, ⟨_, h2, e2, ok2, rfl, rfl⟩, ?_⟩
      rintro v3 h4 hok4 ⟨rfl, rfl⟩
      repeat ((conv=>whnf);first|((with_reducible refine Exists.intro ?_ (Exists.intro ?_ (And.intro (a:=_=some (Blk.cells _ _)) ?_ ?_)));rotate_left 2;· (try dsimp only);(repeat first|with_reducible assumption|with_reducible exact uA (by assumption)|with_reducible exact nA (by assumption)|((with_reducible refine uN (by assumption) ?_ ?_);· omega)|((with_reducible refine nN (by assumption) ?_ ?_);· omega)))|((with_reducible refine Exists.intro ?_ (And.intro ?_ ?_));rotate_left;· first|with_reducible assumption|((conv=>lhs;arg 2;whnf);with_reducible assumption)|exact rfl)|((with_reducible refine And.intro (a:=AH.may _ _=true) ?_ ?_);· (try dsimp only);(repeat first|with_reducible assumption|((with_reducible refine New.mayNew (by assumption) (by assumption) ?_ ?_ ?_)<;>omega)|refine Upd.mayOf (by assumption) ?_|refine New.mayOf (by assumption) ?_|refine Ke.mayOf (by assumption) ?_))|((with_reducible refine And.intro (a:=szOf _ _=_) ?_ ?_);· refine Eq.trans (by assumption) ?_;kernel_rfl)|((with_reducible refine And.intro (a:=List.all _ _=true) ?_ ?_);· kernel_rfl)|((with_reducible refine And.intro (a:=_=_) ?_ ?_);· first|with_reducible assumption|rfl)|((with_reducible refine And.intro (a:=_≤_) ?_ ?_);· first|omega|exact sz_ok|exact Nat.le_of_ble_eq_true (by kernel_rfl))|((with_reducible refine And.intro (a:=_<_) ?_ ?_);· omega)|((with_reducible refine And.intro (a:=_∧_) ?_ ?_);· constructor<;>first|omega|(simp<;>omega))|(refine brk_true ?_ ?_;· first|rfl|(simp only [q1,q2,q3,q4,q7,q8,ne_eq,q5,q6];omega))|(refine brk_false ?_ ?_;· first|rfl|(simp only [q1,q2,q3,q4,q7,q8,ne_eq,q5,q6];omega))|(intro aa uu;(try dsimp only at uu);have okk:=uu.ok;have nxx:=uu.next;have lkk:=uu.lock;have imm:=uu.imp))
      try conv=>whnf
      refine ⟨⟨0 + 1, rfl, by omega, by simp⟩, lim12.more (by omega), ?_⟩
      intro s' hs'
      cases hs'
    | some s2 =>
      have hb2 : (g2 s1).isNone = false := by rw [hg2]; rfl
      rw [hb2] at e2
      have u3:=U3 E;have s3:=S3 E
      have u22:=U22 E;have s22:=S22 E;have a22:=A22 E
      have u24:=U24 E;have s24:=S24 E
      have u25:=U25 E;have s25:=S25 E
      have u26:=U26 E;have s26:=S26 E
      have u27:=U27 E;have s27:=S27 E
      have u29:=U29 E;have s29:=S29 E
      have hl := beq_less hlk
      refine mut_to (by omega) rfl (E.no 47 _ _ rfl) (by first | exact .inl rfl | exact .inr rfl) hl ((E.fn 47).trans Tryz.func47) rfl hok ?_
      conv => whnf
      refine ⟨by simp [Tryz.f47], ?_⟩
      repeat ((conv=>whnf);first|((with_reducible refine Exists.intro ?_ (Exists.intro ?_ (And.intro (a:=_=some (Blk.cells _ _)) ?_ ?_)));rotate_left 2;· (try dsimp only);(repeat first|with_reducible assumption|with_reducible exact uA (by assumption)|with_reducible exact nA (by assumption)|((with_reducible refine uN (by assumption) ?_ ?_);· omega)|((with_reducible refine nN (by assumption) ?_ ?_);· omega)))|((with_reducible refine Exists.intro ?_ (And.intro ?_ ?_));rotate_left;· first|with_reducible assumption|((conv=>lhs;arg 2;whnf);with_reducible assumption)|exact rfl)|((with_reducible refine And.intro (a:=AH.may _ _=true) ?_ ?_);· (try dsimp only);(repeat first|with_reducible assumption|((with_reducible refine New.mayNew (by assumption) (by assumption) ?_ ?_ ?_)<;>omega)|refine Upd.mayOf (by assumption) ?_|refine New.mayOf (by assumption) ?_|refine Ke.mayOf (by assumption) ?_))|((with_reducible refine And.intro (a:=szOf _ _=_) ?_ ?_);· refine Eq.trans (by assumption) ?_;kernel_rfl)|((with_reducible refine And.intro (a:=List.all _ _=true) ?_ ?_);· kernel_rfl)|((with_reducible refine And.intro (a:=_=_) ?_ ?_);· first|with_reducible assumption|rfl)|((with_reducible refine And.intro (a:=_≤_) ?_ ?_);· first|omega|exact sz_ok|exact Nat.le_of_ble_eq_true (by kernel_rfl))|((with_reducible refine And.intro (a:=_<_) ?_ ?_);· omega)|((with_reducible refine And.intro (a:=_∧_) ?_ ?_);· constructor<;>first|omega|(simp<;>omega))|(refine brk_true ?_ ?_;· first|rfl|(simp only [q1,q2,q3,q4,q7,q8,ne_eq,q5,q6];omega))|(refine brk_false ?_ ?_;· first|rfl|(simp only [q1,q2,q3,q4,q7,q8,ne_eq,q5,q6];omega))|(intro aa uu;(try dsimp only at uu);have okk:=uu.ok;have nxx:=uu.next;have lkk:=uu.lock;have imm:=uu.imp))
      try conv=>whnf
      refine .inr ⟨3, by omega, ?_⟩
      repeat ((conv=>whnf);first|((with_reducible refine Exists.intro ?_ (Exists.intro ?_ (And.intro (a:=_=some (Blk.cells _ _)) ?_ ?_)));rotate_left 2;· (try dsimp only);(repeat first|with_reducible assumption|with_reducible exact uA (by assumption)|with_reducible exact nA (by assumption)|((with_reducible refine uN (by assumption) ?_ ?_);· omega)|((with_reducible refine nN (by assumption) ?_ ?_);· omega)))|((with_reducible refine Exists.intro ?_ (And.intro ?_ ?_));rotate_left;· first|with_reducible assumption|((conv=>lhs;arg 2;whnf);with_reducible assumption)|exact rfl)|((with_reducible refine And.intro (a:=AH.may _ _=true) ?_ ?_);· (try dsimp only);(repeat first|with_reducible assumption|((with_reducible refine New.mayNew (by assumption) (by assumption) ?_ ?_ ?_)<;>omega)|refine Upd.mayOf (by assumption) ?_|refine New.mayOf (by assumption) ?_|refine Ke.mayOf (by assumption) ?_))|((with_reducible refine And.intro (a:=szOf _ _=_) ?_ ?_);· refine Eq.trans (by assumption) ?_;kernel_rfl)|((with_reducible refine And.intro (a:=List.all _ _=true) ?_ ?_);· kernel_rfl)|((with_reducible refine And.intro (a:=_=_) ?_ ?_);· first|with_reducible assumption|rfl)|((with_reducible refine And.intro (a:=_≤_) ?_ ?_);· first|omega|exact sz_ok|exact Nat.le_of_ble_eq_true (by kernel_rfl))|((with_reducible refine And.intro (a:=_<_) ?_ ?_);· omega)|((with_reducible refine And.intro (a:=_∧_) ?_ ?_);· constructor<;>first|omega|(simp<;>omega))|(refine brk_true ?_ ?_;· first|rfl|(simp only [q1,q2,q3,q4,q7,q8,ne_eq,q5,q6];omega))|(refine brk_false ?_ ?_;· first|rfl|(simp only [q1,q2,q3,q4,q7,q8,ne_eq,q5,q6];omega))|(intro aa uu;(try dsimp only at uu);have okk:=uu.ok;have nxx:=uu.next;have lkk:=uu.lock;have imm:=uu.imp))
      try conv=>whnf
      refine ⟨_, hv1, ?_⟩
      repeat ((conv=>whnf);first|((with_reducible refine Exists.intro ?_ (Exists.intro ?_ (And.intro (a:=_=some (Blk.cells _ _)) ?_ ?_)));rotate_left 2;· (try dsimp only);(repeat first|with_reducible assumption|with_reducible exact uA (by assumption)|with_reducible exact nA (by assumption)|((with_reducible refine uN (by assumption) ?_ ?_);· omega)|((with_reducible refine nN (by assumption) ?_ ?_);· omega)))|((with_reducible refine Exists.intro ?_ (And.intro ?_ ?_));rotate_left;· first|with_reducible assumption|((conv=>lhs;arg 2;whnf);with_reducible assumption)|exact rfl)|((with_reducible refine And.intro (a:=AH.may _ _=true) ?_ ?_);· (try dsimp only);(repeat first|with_reducible assumption|((with_reducible refine New.mayNew (by assumption) (by assumption) ?_ ?_ ?_)<;>omega)|refine Upd.mayOf (by assumption) ?_|refine New.mayOf (by assumption) ?_|refine Ke.mayOf (by assumption) ?_))|((with_reducible refine And.intro (a:=szOf _ _=_) ?_ ?_);· refine Eq.trans (by assumption) ?_;kernel_rfl)|((with_reducible refine And.intro (a:=List.all _ _=true) ?_ ?_);· kernel_rfl)|((with_reducible refine And.intro (a:=_=_) ?_ ?_);· first|with_reducible assumption|rfl)|((with_reducible refine And.intro (a:=_≤_) ?_ ?_);· first|omega|exact sz_ok|exact Nat.le_of_ble_eq_true (by kernel_rfl))|((with_reducible refine And.intro (a:=_<_) ?_ ?_);· omega)|((with_reducible refine And.intro (a:=_∧_) ?_ ?_);· constructor<;>first|omega|(simp<;>omega))|(refine brk_true ?_ ?_;· first|rfl|(simp only [q1,q2,q3,q4,q7,q8,ne_eq,q5,q6];omega))|(refine brk_false ?_ ?_;· first|rfl|(simp only [q1,q2,q3,q4,q7,q8,ne_eq,q5,q6];omega))|(intro aa uu;(try dsimp only at uu);have okk:=uu.ok;have nxx:=uu.next;have lkk:=uu.lock;have imm:=uu.imp))
      try conv=>whnf
      refine callB_that ⟨fun v hz => v = .bool false ∧ hz = h1, ⟨_, h1, e1, ok1, rfl, rfl⟩, ?_⟩
      rintro v3 h3 hok3 ⟨rfl, rfl⟩
      repeat ((conv=>whnf);first|((with_reducible refine Exists.intro ?_ (Exists.intro ?_ (And.intro (a:=_=some (Blk.cells _ _)) ?_ ?_)));rotate_left 2;· (try dsimp only);(repeat first|with_reducible assumption|with_reducible exact uA (by assumption)|with_reducible exact nA (by assumption)|((with_reducible refine uN (by assumption) ?_ ?_);· omega)|((with_reducible refine nN (by assumption) ?_ ?_);· omega)))|((with_reducible refine Exists.intro ?_ (And.intro ?_ ?_));rotate_left;· first|with_reducible assumption|((conv=>lhs;arg 2;whnf);with_reducible assumption)|exact rfl)|((with_reducible refine And.intro (a:=AH.may _ _=true) ?_ ?_);· (try dsimp only);(repeat first|with_reducible assumption|((with_reducible refine New.mayNew (by assumption) (by assumption) ?_ ?_ ?_)<;>omega)|refine Upd.mayOf (by assumption) ?_|refine New.mayOf (by assumption) ?_|refine Ke.mayOf (by assumption) ?_))|((with_reducible refine And.intro (a:=szOf _ _=_) ?_ ?_);· refine Eq.trans (by assumption) ?_;kernel_rfl)|((with_reducible refine And.intro (a:=List.all _ _=true) ?_ ?_);· kernel_rfl)|((with_reducible refine And.intro (a:=_=_) ?_ ?_);· first|with_reducible assumption|rfl)|((with_reducible refine And.intro (a:=_≤_) ?_ ?_);· first|omega|exact sz_ok|exact Nat.le_of_ble_eq_true (by kernel_rfl))|((with_reducible refine And.intro (a:=_<_) ?_ ?_);· omega)|((with_reducible refine And.intro (a:=_∧_) ?_ ?_);· constructor<;>first|omega|(simp<;>omega))|(refine brk_true ?_ ?_;· first|rfl|(simp only [q1,q2,q3,q4,q7,q8,ne_eq,q5,q6];omega))|(refine brk_false ?_ ?_;· first|rfl|(simp only [q1,q2,q3,q4,q7,q8,ne_eq,q5,q6];omega))|(intro aa uu;(try dsimp only at uu);have okk:=uu.ok;have nxx:=uu.next;have lkk:=uu.lock;have imm:=uu.imp))
      try conv=>whnf
      refine callB_that ⟨fun v hz => v = .bool false ∧ hz = h2, ⟨_, h2, e2, ok2, rfl, rfl⟩, ?_⟩
      rintro v3 h4 hok4 ⟨rfl, rfl⟩
      repeat ((conv=>whnf);first|((with_reducible refine Exists.intro ?_ (Exists.intro ?_ (And.intro (a:=_=some (Blk.cells _ _)) ?_ ?_)));rotate_left 2;· (try dsimp only);(repeat first|with_reducible assumption|with_reducible exact uA (by assumption)|with_reducible exact nA (by assumption)|((with_reducible refine uN (by assumption) ?_ ?_);· omega)|((with_reducible refine nN (by assumption) ?_ ?_);· omega)))|((with_reducible refine Exists.intro ?_ (And.intro ?_ ?_));rotate_left;· first|with_reducible assumption|((conv=>lhs;arg 2;whnf);with_reducible assumption)|exact rfl)|((with_reducible refine And.intro (a:=AH.may _ _=true) ?_ ?_);· (try dsimp only);(repeat first|with_reducible assumption|((with_reducible refine New.mayNew (by assumption) (by assumption) ?_ ?_ ?_)<;>omega)|refine Upd.mayOf (by assumption) ?_|refine New.mayOf (by assumption) ?_|refine Ke.mayOf (by assumption) ?_))|((with_reducible refine And.intro (a:=szOf _ _=_) ?_ ?_);· refine Eq.trans (by assumption) ?_;kernel_rfl)|((with_reducible refine And.intro (a:=List.all _ _=true) ?_ ?_);· kernel_rfl)|((with_reducible refine And.intro (a:=_=_) ?_ ?_);· first|with_reducible assumption|rfl)|((with_reducible refine And.intro (a:=_≤_) ?_ ?_);· first|omega|exact sz_ok|exact Nat.le_of_ble_eq_true (by kernel_rfl))|((with_reducible refine And.intro (a:=_<_) ?_ ?_);· omega)|((with_reducible refine And.intro (a:=_∧_) ?_ ?_);· constructor<;>first|omega|(simp<;>omega))|(refine brk_true ?_ ?_;· first|rfl|(simp only [q1,q2,q3,q4,q7,q8,ne_eq,q5,q6];omega))|(refine brk_false ?_ ?_;· first|rfl|(simp only [q1,q2,q3,q4,q7,q8,ne_eq,q5,q6];omega))|(intro aa uu;(try dsimp only at uu);have okk:=uu.ok;have nxx:=uu.next;have lkk:=uu.lock;have imm:=uu.imp))
      try conv=>whnf
      refine ⟨⟨-1, rfl, by omega, by simp⟩, lim12.more (by omega), ?_⟩
      intro s' hs'
      exact st2 s' (hg2.trans hs')

/-- An item that is no array. -/
theorem has1_leaf (E : Alike P Tryz.prog base walkG) (A : Asks K L fv St) {D w : Nat} {k : Int} {c1 c2 c3 c4 c5 c6 c7 : Value} {g : σ → Option σ} (hk : k ≠ 3) (hone : [Value.int .i64 k, c1, c2, c3, c4, c5, c6, c7].all oneB = true) (ha : HoldsAt P G ext base K h0 L D w fv St [.int .i64 k, c1, c2, c3, c4, c5, c6, c7] g) :
    Has1At P G ext base K h0 L (D + 1) (w + 5) fv St [.int .i64 k, c1, c2, c3, c4, c5, c6, c7] g := by
  intro d h s q gq hd ho hn hs hq hqL hqn hgq
  have ho' := ho
  obtain ⟨hok, hlk, him, hln, hfl, hag⟩ := ho
  have hkl := A.kl
  have hst := A.st
  cases hgs : g s with
  | none =>
    have hb : (g s).isNone = true := by rw [hgs]; rfl
    have u3:=U3 E;have s3:=S3 E;have a3:=A3 E
    have u9:=U9 E;have s9:=S9 E
    have u22:=U22 E;have s22:=S22 E
    have u24:=U24 E;have s24:=S24 E
    have u25:=U25 E;have s25:=S25 E
    have u26:=U26 E;have s26:=S26 E;have a26:=A26 E
    have u27:=U27 E;have s27:=S27 E
    have u29:=U29 E;have s29:=S29 E;have a29:=A29 E
    have u41:=U41 E;have s41:=S41 E
    have u54:=U54 E;have s54:=S54 E
    have u63:=U63 E;have s63:=S63 E;have a63:=A63 E
    have u78:=U78 E;have s78:=S78 E
    have hl := beq_less hlk
    refine mut_to (by omega) rfl (E.no 28 _ _ rfl) (by first | exact .inl rfl | exact .inr rfl) hl ((E.fn 28).trans Tryz.func28) rfl hok ?_
    conv => whnf
    refine ⟨by simp [Tryz.f28], ?_⟩
    repeat ((conv=>whnf);first|((with_reducible refine Exists.intro ?_ (Exists.intro ?_ (And.intro (a:=_=some (Blk.cells _ _)) ?_ ?_)));rotate_left 2;· (try dsimp only);(repeat first|with_reducible assumption|with_reducible exact uA (by assumption)|with_reducible exact nA (by assumption)|((with_reducible refine uN (by assumption) ?_ ?_);· omega)|((with_reducible refine nN (by assumption) ?_ ?_);· omega)))|((with_reducible refine Exists.intro ?_ (And.intro ?_ ?_));rotate_left;· first|with_reducible assumption|((conv=>lhs;arg 2;whnf);with_reducible assumption)|exact rfl)|((with_reducible refine And.intro (a:=AH.may _ _=true) ?_ ?_);· (try dsimp only);(repeat first|with_reducible assumption|((with_reducible refine New.mayNew (by assumption) (by assumption) ?_ ?_ ?_)<;>omega)|refine Upd.mayOf (by assumption) ?_|refine New.mayOf (by assumption) ?_|refine Ke.mayOf (by assumption) ?_))|((with_reducible refine And.intro (a:=szOf _ _=_) ?_ ?_);· refine Eq.trans (by assumption) ?_;kernel_rfl)|((with_reducible refine And.intro (a:=List.all _ _=true) ?_ ?_);· kernel_rfl)|((with_reducible refine And.intro (a:=_=_) ?_ ?_);· first|with_reducible assumption|rfl)|((with_reducible refine And.intro (a:=_≤_) ?_ ?_);· first|omega|exact sz_ok|exact Nat.le_of_ble_eq_true (by kernel_rfl))|((with_reducible refine And.intro (a:=_<_) ?_ ?_);· omega)|((with_reducible refine And.intro (a:=_∧_) ?_ ?_);· constructor<;>first|omega|(simp<;>omega))|(refine brk_true ?_ ?_;· first|rfl|(simp only [q1,q2,q3,q4,q7,q8,ne_eq,q5,q6];omega))|(refine brk_false ?_ ?_;· first|rfl|(simp only [q1,q2,q3,q4,q7,q8,ne_eq,q5,q6];omega))|(intro aa uu;(try dsimp only at uu);have okk:=uu.ok;have nxx:=uu.next;have lkk:=uu.lock;have imm:=uu.imp))
    try conv=>whnf
    have ex : ExtG h aa := ⟨okk, by omega, by omega, by omega, (by repeat first|with_reducible assumption|refine Upd.flOf (by assumption) ?_|refine New.flOf (by assumption) ?_|refine Ke.flOf (by assumption) ?_|exact hfl|exact rfl), (fun j hj => by repeat first|((with_reducible refine uN (by assumption) ?_ ?_);· omega)|((with_reducible refine nN (by assumption) ?_ ?_);· omega)|exact rfl)⟩
    have hit := ha (d - 1) aa s (by omega) (ho'.ext ex hkl) (by omega) (hst s h aa hs ex)
    obtain ⟨v2, h2, e2, ok2, rfl, lim2, st2⟩ := hit
    rw [hb] at e2
    refine callB_that ⟨fun v hz => v = .bool true ∧ hz = h2, ⟨_, h2, e2, ok2, rfl, rfl⟩, ?_⟩
    rintro v3 h3 hok3 ⟨rfl, rfl⟩
    repeat ((conv=>whnf);first|((with_reducible refine Exists.intro ?_ (Exists.intro ?_ (And.intro (a:=_=some (Blk.cells _ _)) ?_ ?_)));rotate_left 2;· (try dsimp only);(repeat first|with_reducible assumption|with_reducible exact uA (by assumption)|with_reducible exact nA (by assumption)|((with_reducible refine uN (by assumption) ?_ ?_);· omega)|((with_reducible refine nN (by assumption) ?_ ?_);· omega)))|((with_reducible refine Exists.intro ?_ (And.intro ?_ ?_));rotate_left;· first|with_reducible assumption|((conv=>lhs;arg 2;whnf);with_reducible assumption)|exact rfl)|((with_reducible refine And.intro (a:=AH.may _ _=true) ?_ ?_);· (try dsimp only);(repeat first|with_reducible assumption|((with_reducible refine New.mayNew (by assumption) (by assumption) ?_ ?_ ?_)<;>omega)|refine Upd.mayOf (by assumption) ?_|refine New.mayOf (by assumption) ?_|refine Ke.mayOf (by assumption) ?_))|((with_reducible refine And.intro (a:=szOf _ _=_) ?_ ?_);· refine Eq.trans (by assumption) ?_;kernel_rfl)|((with_reducible refine And.intro (a:=List.all _ _=true) ?_ ?_);· kernel_rfl)|((with_reducible refine And.intro (a:=_=_) ?_ ?_);· first|with_reducible assumption|rfl)|((with_reducible refine And.intro (a:=_≤_) ?_ ?_);· first|omega|exact sz_ok|exact Nat.le_of_ble_eq_true (by kernel_rfl))|((with_reducible refine And.intro (a:=_<_) ?_ ?_);· omega)|((with_reducible refine And.intro (a:=_∧_) ?_ ?_);· constructor<;>first|omega|(simp<;>omega))|(refine brk_true ?_ ?_;· first|rfl|(simp only [q1,q2,q3,q4,q7,q8,ne_eq,q5,q6];omega))|(refine brk_false ?_ ?_;· first|rfl|(simp only [q1,q2,q3,q4,q7,q8,ne_eq,q5,q6];omega))|(intro aa uu;(try dsimp only at uu);have okk:=uu.ok;have nxx:=uu.next;have lkk:=uu.lock;have imm:=uu.imp))
    try conv=>whnf
    exact ⟨congrArg Value.bool hb.symm, ((ex.lim (w := 5) (by omega)).trans lim2).more (by omega), fun s' hs' => by rw [hgs] at hs'; cases hs'⟩
  | some s1 =>
    have hb : (g s).isNone = false := by rw [hgs]; rfl
    have u3:=U3 E;have s3:=S3 E;have a3:=A3 E
    have u9:=U9 E;have s9:=S9 E
    have u22:=U22 E;have s22:=S22 E
    have u24:=U24 E;have s24:=S24 E
    have u25:=U25 E;have s25:=S25 E
    have u26:=U26 E;have s26:=S26 E;have a26:=A26 E
    have u27:=U27 E;have s27:=S27 E
    have u29:=U29 E;have s29:=S29 E;have a29:=A29 E
    have u41:=U41 E;have s41:=S41 E
    have u54:=U54 E;have s54:=S54 E
    have u63:=U63 E;have s63:=S63 E;have a63:=A63 E
    have u78:=U78 E;have s78:=S78 E
    have hl := beq_less hlk
    refine mut_to (by omega) rfl (E.no 28 _ _ rfl) (by first | exact .inl rfl | exact .inr rfl) hl ((E.fn 28).trans Tryz.func28) rfl hok ?_
    conv => whnf
    refine ⟨by simp [Tryz.f28], ?_⟩
    repeat ((conv=>whnf);first|((with_reducible refine Exists.intro ?_ (Exists.intro ?_ (And.intro (a:=_=some (Blk.cells _ _)) ?_ ?_)));rotate_left 2;· (try dsimp only);(repeat first|with_reducible assumption|with_reducible exact uA (by assumption)|with_reducible exact nA (by assumption)|((with_reducible refine uN (by assumption) ?_ ?_);· omega)|((with_reducible refine nN (by assumption) ?_ ?_);· omega)))|((with_reducible refine Exists.intro ?_ (And.intro ?_ ?_));rotate_left;· first|with_reducible assumption|((conv=>lhs;arg 2;whnf);with_reducible assumption)|exact rfl)|((with_reducible refine And.intro (a:=AH.may _ _=true) ?_ ?_);· (try dsimp only);(repeat first|with_reducible assumption|((with_reducible refine New.mayNew (by assumption) (by assumption) ?_ ?_ ?_)<;>omega)|refine Upd.mayOf (by assumption) ?_|refine New.mayOf (by assumption) ?_|refine Ke.mayOf (by assumption) ?_))|((with_reducible refine And.intro (a:=szOf _ _=_) ?_ ?_);· refine Eq.trans (by assumption) ?_;kernel_rfl)|((with_reducible refine And.intro (a:=List.all _ _=true) ?_ ?_);· kernel_rfl)|((with_reducible refine And.intro (a:=_=_) ?_ ?_);· first|with_reducible assumption|rfl)|((with_reducible refine And.intro (a:=_≤_) ?_ ?_);· first|omega|exact sz_ok|exact Nat.le_of_ble_eq_true (by kernel_rfl))|((with_reducible refine And.intro (a:=_<_) ?_ ?_);· omega)|((with_reducible refine And.intro (a:=_∧_) ?_ ?_);· constructor<;>first|omega|(simp<;>omega))|(refine brk_true ?_ ?_;· first|rfl|(simp only [q1,q2,q3,q4,q7,q8,ne_eq,q5,q6];omega))|(refine brk_false ?_ ?_;· first|rfl|(simp only [q1,q2,q3,q4,q7,q8,ne_eq,q5,q6];omega))|(intro aa uu;(try dsimp only at uu);have okk:=uu.ok;have nxx:=uu.next;have lkk:=uu.lock;have imm:=uu.imp))
    try conv=>whnf
    have ex : ExtG h aa := ⟨okk, by omega, by omega, by omega, (by repeat first|with_reducible assumption|refine Upd.flOf (by assumption) ?_|refine New.flOf (by assumption) ?_|refine Ke.flOf (by assumption) ?_|exact hfl|exact rfl), (fun j hj => by repeat first|((with_reducible refine uN (by assumption) ?_ ?_);· omega)|((with_reducible refine nN (by assumption) ?_ ?_);· omega)|exact rfl)⟩
    have hit := ha (d - 1) aa s (by omega) (ho'.ext ex hkl) (by omega) (hst s h aa hs ex)
    obtain ⟨v2, h2, e2, ok2, rfl, lim2, st2⟩ := hit
    rw [hb] at e2
    have lim2' := lim2
    obtain ⟨r1, r2, r3, r4, r5, r6⟩ := lim2'
    have hbox : h2.get h.next = some (.cells #[.int .i64 k, c1, c2, c3, c4, c5, c6, c7] (tyOf P 29)) := (r6 h.next (by omega) (.inr ⟨hln, by rw [uu.at]; exact closed_ty _ _⟩)).trans uu.at
    refine callB_that ⟨fun v hz => v = .bool false ∧ hz = h2, ⟨_, h2, e2, ok2, rfl, rfl⟩, ?_⟩
    rintro v3 h3 hok3 ⟨rfl, rfl⟩
    repeat ((conv=>whnf);first|((with_reducible refine Exists.intro ?_ (Exists.intro ?_ (And.intro (a:=_=some (Blk.cells _ _)) ?_ ?_)));rotate_left 2;· (try dsimp only);(repeat first|with_reducible assumption|with_reducible exact uA (by assumption)|with_reducible exact nA (by assumption)|((with_reducible refine uN (by assumption) ?_ ?_);· omega)|((with_reducible refine nN (by assumption) ?_ ?_);· omega)))|((with_reducible refine Exists.intro ?_ (And.intro ?_ ?_));rotate_left;· first|with_reducible assumption|((conv=>lhs;arg 2;whnf);with_reducible assumption)|exact rfl)|((with_reducible refine And.intro (a:=AH.may _ _=true) ?_ ?_);· (try dsimp only);(repeat first|with_reducible assumption|((with_reducible refine New.mayNew (by assumption) (by assumption) ?_ ?_ ?_)<;>omega)|refine Upd.mayOf (by assumption) ?_|refine New.mayOf (by assumption) ?_|refine Ke.mayOf (by assumption) ?_))|((with_reducible refine And.intro (a:=szOf _ _=_) ?_ ?_);· refine Eq.trans (by assumption) ?_;kernel_rfl)|((with_reducible refine And.intro (a:=List.all _ _=true) ?_ ?_);· kernel_rfl)|((with_reducible refine And.intro (a:=_=_) ?_ ?_);· first|with_reducible assumption|rfl)|((with_reducible refine And.intro (a:=_≤_) ?_ ?_);· first|omega|exact sz_ok|exact Nat.le_of_ble_eq_true (by kernel_rfl))|((with_reducible refine And.intro (a:=_<_) ?_ ?_);· omega)|((with_reducible refine And.intro (a:=_∧_) ?_ ?_);· constructor<;>first|omega|(simp<;>omega))|(refine brk_true ?_ ?_;· first|rfl|(simp only [q1,q2,q3,q4,q7,q8,ne_eq,q5,q6];omega))|(refine brk_false ?_ ?_;· first|rfl|(simp only [q1,q2,q3,q4,q7,q8,ne_eq,q5,q6];omega))|(intro aa uu;(try dsimp only at uu);have okk:=uu.ok;have nxx:=uu.next;have lkk:=uu.lock;have imm:=uu.imp))
    try conv=>whnf
    exact ⟨congrArg Value.bool hb.symm, ((ex.lim (w := 5) (by omega)).trans lim2).more (by omega), st2⟩

/-- An array of two members. -/
theorem has1_arr2 (E : Alike P Tryz.prog base walkG) (A : Asks K L fv St) {D w : Nat} {p : Option Addr} {c : Nat} {v1 v2 : Value} {g1 g2 : σ → Option σ} (hr : Row K 1 h0 p [[v1], [v2]]) (hi1 : Has11At P G ext base K h0 L D w fv St v1 g1) (hi2 : Has11At P G ext base K h0 L D w fv St v2 g2) (ha : HoldsAt P G ext base K h0 L 1 8 fv St (itM (.slice p 2 c)) some) :
    Has1At P G ext base K h0 L (D + 3) (2 * w + 13) fv St (itM (.slice p 2 c)) (foldO [g1, g2]) := by
  intro d h s q gq hd ho hn hs hq hqL hqn hgq
  have ho' := ho
  obtain ⟨hok, hlk, him, hln, hfl, hag⟩ := ho
  have hkl := A.kl
  have hst := A.st
  have u3:=U3 E;have s3:=S3 E;have a3:=A3 E
  have u9:=U9 E;have s9:=S9 E
  have u22:=U22 E;have s22:=S22 E
  have u24:=U24 E;have s24:=S24 E
  have u25:=U25 E;have s25:=S25 E
  have u26:=U26 E;have s26:=S26 E;have a26:=A26 E
  have u27:=U27 E;have s27:=S27 E
  have u29:=U29 E;have s29:=S29 E;have a29:=A29 E
  have u41:=U41 E;have s41:=S41 E
  have u54:=U54 E;have s54:=S54 E
  have u63:=U63 E;have s63:=S63 E;have a63:=A63 E
  have u78:=U78 E;have s78:=S78 E
  have hl := beq_less hlk
  refine mut_to (by omega) rfl (E.no 28 _ _ rfl) (by first | exact .inl rfl | exact .inr rfl) hl ((E.fn 28).trans Tryz.func28) rfl hok ?_
  conv => whnf
  refine ⟨by simp [Tryz.f28], ?_⟩
  repeat ((conv=>whnf);first|((with_reducible refine Exists.intro ?_ (Exists.intro ?_ (And.intro (a:=_=some (Blk.cells _ _)) ?_ ?_)));rotate_left 2;· (try dsimp only);(repeat first|with_reducible assumption|with_reducible exact uA (by assumption)|with_reducible exact nA (by assumption)|((with_reducible refine uN (by assumption) ?_ ?_);· omega)|((with_reducible refine nN (by assumption) ?_ ?_);· omega)))|((with_reducible refine Exists.intro ?_ (And.intro ?_ ?_));rotate_left;· first|with_reducible assumption|((conv=>lhs;arg 2;whnf);with_reducible assumption)|exact rfl)|((with_reducible refine And.intro (a:=AH.may _ _=true) ?_ ?_);· (try dsimp only);(repeat first|with_reducible assumption|((with_reducible refine New.mayNew (by assumption) (by assumption) ?_ ?_ ?_)<;>omega)|refine Upd.mayOf (by assumption) ?_|refine New.mayOf (by assumption) ?_|refine Ke.mayOf (by assumption) ?_))|((with_reducible refine And.intro (a:=szOf _ _=_) ?_ ?_);· refine Eq.trans (by assumption) ?_;kernel_rfl)|((with_reducible refine And.intro (a:=List.all _ _=true) ?_ ?_);· kernel_rfl)|((with_reducible refine And.intro (a:=_=_) ?_ ?_);· first|with_reducible assumption|rfl)|((with_reducible refine And.intro (a:=_≤_) ?_ ?_);· first|omega|exact sz_ok|exact Nat.le_of_ble_eq_true (by kernel_rfl))|((with_reducible refine And.intro (a:=_<_) ?_ ?_);· omega)|((with_reducible refine And.intro (a:=_∧_) ?_ ?_);· constructor<;>first|omega|(simp<;>omega))|(refine brk_true ?_ ?_;· first|rfl|(simp only [q1,q2,q3,q4,q7,q8,ne_eq,q5,q6];omega))|(refine brk_false ?_ ?_;· first|rfl|(simp only [q1,q2,q3,q4,q7,q8,ne_eq,q5,q6];omega))|(intro aa uu;(try dsimp only at uu);have okk:=uu.ok;have nxx:=uu.next;have lkk:=uu.lock;have imm:=uu.imp))
  try conv=>whnf
  have ex : ExtG h aa := ⟨okk, by omega, by omega, by omega, (by repeat first|with_reducible assumption|refine Upd.flOf (by assumption) ?_|refine New.flOf (by assumption) ?_|refine Ke.flOf (by assumption) ?_|exact hfl|exact rfl), (fun j hj => by repeat first|((with_reducible refine uN (by assumption) ?_ ?_);· omega)|((with_reducible refine nN (by assumption) ?_ ?_);· omega)|exact rfl)⟩
  have oa := ho'.ext ex hkl
  have hit := ha (d - 1) aa s (by omega) oa (by omega) (hst s h aa hs ex)
  obtain ⟨v2, h2, e2, ok2, rfl, lim2, st2⟩ := hit
  have lim2' := lim2
  obtain ⟨r1, r2, r3, r4, r5, r6⟩ := lim2'
  have hbox : h2.get h.next = some (.cells ⟨itM (.slice p 2 c)⟩ (tyOf P 29)) := (r6 h.next (by omega) (.inr ⟨hln, by rw [uu.at]; exact closed_ty _ _⟩)).trans uu.at
  have hq0 : aa.get q = some (.cells #[fv] gq) := by rw [uu.get, if_neg (by omega)]; exact hq
  have hq2 : h2.get q = some (.cells #[fv] gq) := (r6 q (by omega) (.inr ⟨hqL, by rw [hq0]; exact hgq⟩)).trans hq0
  have hm := ifm_ok (d := d - 1 - 1) (c := c) E hr hi1 hi2 (by omega) (oa.lim ok2 lim2 hkl) (by omega) (st2 s rfl) hq2 hqL (by omega) hgq hkl
  refine callB_that ⟨fun v hz => v = .bool false ∧ hz = h2, ⟨_, h2, e2, ok2, rfl, rfl⟩, ?_⟩
  rintro v3 h3 hok3 ⟨rfl, rfl⟩
  repeat ((conv=>whnf);first|((with_reducible refine Exists.intro ?_ (Exists.intro ?_ (And.intro (a:=_=some (Blk.cells _ _)) ?_ ?_)));rotate_left 2;· (try dsimp only);(repeat first|with_reducible assumption|with_reducible exact uA (by assumption)|with_reducible exact nA (by assumption)|((with_reducible refine uN (by assumption) ?_ ?_);· omega)|((with_reducible refine nN (by assumption) ?_ ?_);· omega)))|((with_reducible refine Exists.intro ?_ (And.intro ?_ ?_));rotate_left;· first|with_reducible assumption|((conv=>lhs;arg 2;whnf);with_reducible assumption)|exact rfl)|((with_reducible refine And.intro (a:=AH.may _ _=true) ?_ ?_);· (try dsimp only);(repeat first|with_reducible assumption|((with_reducible refine New.mayNew (by assumption) (by assumption) ?_ ?_ ?_)<;>omega)|refine Upd.mayOf (by assumption) ?_|refine New.mayOf (by assumption) ?_|refine Ke.mayOf (by assumption) ?_))|((with_reducible refine And.intro (a:=szOf _ _=_) ?_ ?_);· refine Eq.trans (by assumption) ?_;kernel_rfl)|((with_reducible refine And.intro (a:=List.all _ _=true) ?_ ?_);· kernel_rfl)|((with_reducible refine And.intro (a:=_=_) ?_ ?_);· first|with_reducible assumption|rfl)|((with_reducible refine And.intro (a:=_≤_) ?_ ?_);· first|omega|exact sz_ok|exact Nat.le_of_ble_eq_true (by kernel_rfl))|((with_reducible refine And.intro (a:=_<_) ?_ ?_);· omega)|((with_reducible refine And.intro (a:=_∧_) ?_ ?_);· constructor<;>first|omega|(simp<;>omega))|(refine brk_true ?_ ?_;· first|rfl|(simp only [q1,q2,q3,q4,q7,q8,ne_eq,q5,q6];omega))|(refine brk_false ?_ ?_;· first|rfl|(simp only [q1,q2,q3,q4,q7,q8,ne_eq,q5,q6];omega))|(intro aa uu;(try dsimp only at uu);have okk:=uu.ok;have nxx:=uu.next;have lkk:=uu.lock;have imm:=uu.imp))
  try conv=>whnf
  refine callB_heap ((E.fn 29).trans Tryz.func29) rfl ?_
  refine ⟨_, (cfm_ok E rfl (by omega) (by assumption) (by omega) hm), ?_⟩
  rintro v4 h4 hok4 ⟨rfl, lim4, st4⟩
  repeat ((conv=>whnf);first|((with_reducible refine Exists.intro ?_ (Exists.intro ?_ (And.intro (a:=_=some (Blk.cells _ _)) ?_ ?_)));rotate_left 2;· (try dsimp only);(repeat first|with_reducible assumption|with_reducible exact uA (by assumption)|with_reducible exact nA (by assumption)|((with_reducible refine uN (by assumption) ?_ ?_);· omega)|((with_reducible refine nN (by assumption) ?_ ?_);· omega)))|((with_reducible refine Exists.intro ?_ (And.intro ?_ ?_));rotate_left;· first|with_reducible assumption|((conv=>lhs;arg 2;whnf);with_reducible assumption)|exact rfl)|((with_reducible refine And.intro (a:=AH.may _ _=true) ?_ ?_);· (try dsimp only);(repeat first|with_reducible assumption|((with_reducible refine New.mayNew (by assumption) (by assumption) ?_ ?_ ?_)<;>omega)|refine Upd.mayOf (by assumption) ?_|refine New.mayOf (by assumption) ?_|refine Ke.mayOf (by assumption) ?_))|((with_reducible refine And.intro (a:=szOf _ _=_) ?_ ?_);· refine Eq.trans (by assumption) ?_;kernel_rfl)|((with_reducible refine And.intro (a:=List.all _ _=true) ?_ ?_);· kernel_rfl)|((with_reducible refine And.intro (a:=_=_) ?_ ?_);· first|with_reducible assumption|rfl)|((with_reducible refine And.intro (a:=_≤_) ?_ ?_);· first|omega|exact sz_ok|exact Nat.le_of_ble_eq_true (by kernel_rfl))|((with_reducible refine And.intro (a:=_<_) ?_ ?_);· omega)|((with_reducible refine And.intro (a:=_∧_) ?_ ?_);· constructor<;>first|omega|(simp<;>omega))|(refine brk_true ?_ ?_;· first|rfl|(simp only [q1,q2,q3,q4,q7,q8,ne_eq,q5,q6];omega))|(refine brk_false ?_ ?_;· first|rfl|(simp only [q1,q2,q3,q4,q7,q8,ne_eq,q5,q6];omega))|(intro aa uu;(try dsimp only at uu);have okk:=uu.ok;have nxx:=uu.next;have lkk:=uu.lock;have imm:=uu.imp))
  try conv=>whnf
  exact ⟨((ex.lim (w := 5) (by omega)).trans (lim2.trans lim4)).more (by omega), st4⟩

/-- A sequence: its items are asked. -/
theorem has_ok (E : Alike P Tryz.prog base walkG) (A : Asks K L fv St) {D w : Nat} {p : Option Addr} {c : Nat} {R : List (List Value × (σ → Option σ))} (hL : R.length ≤ 1000000) (hr : Row K 8 h0 p (R.map (·.1))) (hi : ∀ q ∈ R, Has1At P G ext base K h0 L D w fv St q.1 q.2) :
    HasAt P G ext base K h0 L (D + 3) (R.length * w + 5) fv St (.slice p R.length c) (foldO (R.map (·.2))) := by
  intro d h s hd ho hn hs
  have ho' := ho
  obtain ⟨hok, hlk, him, hln, hfl, hag⟩ := ho
  have hkl := A.kl
  have hst := A.st
  have hcl := A.cl
  have hone := A.one
  have u3:=U3 E;have s3:=S3 E
  have u22:=U22 E;have s22:=S22 E
  have u24:=U24 E;have s24:=S24 E
  have u25:=U25 E;have s25:=S25 E
  have u26:=U26 E;have s26:=S26 E
  have u27:=U27 E;have s27:=S27 E
  have u29:=U29 E;have s29:=S29 E
  have u63:=U63 E;have s63:=S63 E
  have hl := beq_less hlk
  refine mut_to (by omega) rfl (E.no 13 _ _ rfl) (by first | exact .inl rfl | exact .inr rfl) hl ((E.fn 13).trans Tryz.func13) rfl hok ?_
  conv => whnf
  refine ⟨by simp [Tryz.f13], ?_⟩
  repeat ((conv=>whnf);first|((with_reducible refine Exists.intro ?_ (Exists.intro ?_ (And.intro (a:=_=some (Blk.cells _ _)) ?_ ?_)));rotate_left 2;· (try dsimp only);(repeat first|with_reducible assumption|with_reducible exact uA (by assumption)|with_reducible exact nA (by assumption)|((with_reducible refine uN (by assumption) ?_ ?_);· omega)|((with_reducible refine nN (by assumption) ?_ ?_);· omega)))|((with_reducible refine Exists.intro ?_ (And.intro ?_ ?_));rotate_left;· first|with_reducible assumption|((conv=>lhs;arg 2;whnf);with_reducible assumption)|exact rfl)|((with_reducible refine And.intro (a:=AH.may _ _=true) ?_ ?_);· (try dsimp only);(repeat first|with_reducible assumption|((with_reducible refine New.mayNew (by assumption) (by assumption) ?_ ?_ ?_)<;>omega)|refine Upd.mayOf (by assumption) ?_|refine New.mayOf (by assumption) ?_|refine Ke.mayOf (by assumption) ?_))|((with_reducible refine And.intro (a:=szOf _ _=_) ?_ ?_);· refine Eq.trans (by assumption) ?_;kernel_rfl)|((with_reducible refine And.intro (a:=List.all _ _=true) ?_ ?_);· kernel_rfl)|((with_reducible refine And.intro (a:=_=_) ?_ ?_);· first|with_reducible assumption|rfl)|((with_reducible refine And.intro (a:=_≤_) ?_ ?_);· first|omega|exact sz_ok|exact Nat.le_of_ble_eq_true (by kernel_rfl))|((with_reducible refine And.intro (a:=_<_) ?_ ?_);· omega)|((with_reducible refine And.intro (a:=_∧_) ?_ ?_);· constructor<;>first|omega|(simp<;>omega))|(refine brk_true ?_ ?_;· first|rfl|(simp only [q1,q2,q3,q4,q7,q8,ne_eq,q5,q6];omega))|(refine brk_false ?_ ?_;· first|rfl|(simp only [q1,q2,q3,q4,q7,q8,ne_eq,q5,q6];omega))|(intro aa uu;(try dsimp only at uu);have okk:=uu.ok;have nxx:=uu.next;have lkk:=uu.lock;have imm:=uu.imp))
  try conv=>whnf
  have ex : ExtG h aa := ⟨okk, by omega, by omega, by omega, (by repeat first|with_reducible assumption|refine Upd.flOf (by assumption) ?_|refine New.flOf (by assumption) ?_|refine Ke.flOf (by assumption) ?_|exact hfl|exact rfl), (fun j hj => by repeat first|((with_reducible refine uN (by assumption) ?_ ?_);· omega)|((with_reducible refine nN (by assumption) ?_ ?_);· omega)|exact rfl)⟩
  have w2 : aa.get h.next = some (.cells #[fv] (tyOf P 63)) := by
    rw [uu.at, hcl]
  have hm := ifi_ok (d := d - 1 - 1) (c := c) E hL hr hi (by omega) (ho'.ext ex hkl) (by omega) (hst s h aa hs ex) w2 hln (by omega) (closed_ty _ _) hkl
  refine callB_heap ((E.fn 27).trans Tryz.func27) rfl ?_
  refine ⟨_, (cfi_ok E rfl (by omega) (by assumption) (by omega) hm), ?_⟩
  rintro v4 h4 hok4 ⟨rfl, lim4, st4⟩
  repeat ((conv=>whnf);first|((with_reducible refine Exists.intro ?_ (Exists.intro ?_ (And.intro (a:=_=some (Blk.cells _ _)) ?_ ?_)));rotate_left 2;· (try dsimp only);(repeat first|with_reducible assumption|with_reducible exact uA (by assumption)|with_reducible exact nA (by assumption)|((with_reducible refine uN (by assumption) ?_ ?_);· omega)|((with_reducible refine nN (by assumption) ?_ ?_);· omega)))|((with_reducible refine Exists.intro ?_ (And.intro ?_ ?_));rotate_left;· first|with_reducible assumption|((conv=>lhs;arg 2;whnf);with_reducible assumption)|exact rfl)|((with_reducible refine And.intro (a:=AH.may _ _=true) ?_ ?_);· (try dsimp only);(repeat first|with_reducible assumption|((with_reducible refine New.mayNew (by assumption) (by assumption) ?_ ?_ ?_)<;>omega)|refine Upd.mayOf (by assumption) ?_|refine New.mayOf (by assumption) ?_|refine Ke.mayOf (by assumption) ?_))|((with_reducible refine And.intro (a:=szOf _ _=_) ?_ ?_);· refine Eq.trans (by assumption) ?_;kernel_rfl)|((with_reducible refine And.intro (a:=List.all _ _=true) ?_ ?_);· kernel_rfl)|((with_reducible refine And.intro (a:=_=_) ?_ ?_);· first|with_reducible assumption|rfl)|((with_reducible refine And.intro (a:=_≤_) ?_ ?_);· first|omega|exact sz_ok|exact Nat.le_of_ble_eq_true (by kernel_rfl))|((with_reducible refine And.intro (a:=_<_) ?_ ?_);· omega)|((with_reducible refine And.intro (a:=_∧_) ?_ ?_);· constructor<;>first|omega|(simp<;>omega))|(refine brk_true ?_ ?_;· first|rfl|(simp only [q1,q2,q3,q4,q7,q8,ne_eq,q5,q6];omega))|(refine brk_false ?_ ?_;· first|rfl|(simp only [q1,q2,q3,q4,q7,q8,ne_eq,q5,q6];omega))|(intro aa uu;(try dsimp only at uu);have okk:=uu.ok;have nxx:=uu.next;have lkk:=uu.lock;have imm:=uu.imp))
  try conv=>whnf
  exact ⟨((ex.lim (w := 5) (by omega)).trans lim4).more (by omega), st4⟩
end

end
end Go.Proofs.YtibffohcmegooaaGreatDoor.V
