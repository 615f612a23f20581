/- A small deterministic machine over abstract memory: its words. Conditions: none. -/
import Derived.Orders
import Derived.LoopN
import Derived.Scope
import Derived.Below
import Derived.KernelRfl
namespace Go.Proofs.YtibffohcmegooaaGreatDoor.V
set_option linter.all false
open Go

/-! Trees over numbers: a leaf stands for one value at every number below it; a node holds the value at 0, those at odd numbers to its left, the others to its right. -/

inductive T (α : Type) where
  | leaf (a : α)
  | node (a : α) (l r : T α)
noncomputable def T.get {α : Type} (t : T α) : Nat → α :=
  T.rec (motive := fun _ => Nat → α) (fun a _ => a) (fun a _ _ l r n => Nat.casesOn (motive := fun _ => α) n a (fun k => Bool.casesOn (motive := fun _ => α) (Nat.beq (k % 2) 1) (l (k / 2)) (r (k / 2)))) t
noncomputable def T.set {α : Type} (d : Nat) : T α → Nat → α → T α :=
  Nat.rec (motive := fun _ => T α → Nat → α → T α) (fun _ _ v => .leaf v)
    (fun _ ih t n v => T.casesOn (motive := fun _ => T α) t
      (fun a => Nat.casesOn (motive := fun _ => T α) n (.node v (.leaf a) (.leaf a)) (fun k => Bool.casesOn (motive := fun _ => T α) (Nat.beq (k % 2) 1) (.node a (ih (.leaf a) (k / 2) v) (.leaf a)) (.node a (.leaf a) (ih (.leaf a) (k / 2) v))))
      (fun a l r => Nat.casesOn (motive := fun _ => T α) n (.node v l r) (fun k => Bool.casesOn (motive := fun _ => T α) (Nat.beq (k % 2) 1) (.node a (ih l (k / 2) v) r) (.node a l (ih r (k / 2) v))))) d
def T.fits {α : Type} : T α → Nat → Prop
  | .leaf _, _ => True
  | .node _ _ _, 0 => False
  | .node _ l r, d + 1 => l.fits d ∧ r.fits d

theorem T.get_leaf {α : Type} (a : α) (n : Nat) : (T.leaf a).get n = a := rfl
theorem T.get_zero {α : Type} (a : α) (l r : T α) : (T.node a l r).get 0 = a := rfl
theorem T.get_succ {α : Type} (a : α) (l r : T α) (k : Nat) : (T.node a l r).get (k + 1) = match Nat.beq (k % 2) 1 with | false => l.get (k / 2) | true => r.get (k / 2) := by
  show Bool.casesOn (motive := fun _ => α) _ _ _ = _
  cases Nat.beq (k % 2) 1 <;> rfl
theorem T.set_zero {α : Type} (t : T α) (n : Nat) (v : α) : T.set 0 t n v = .leaf v := rfl
def T.kids {α : Type} : T α → α × T α × T α
  | .leaf a => (a, .leaf a, .leaf a)
  | .node a l r => (a, l, r)
theorem T.set_succ {α : Type} (d : Nat) (t : T α) (n : Nat) (v : α) : T.set (d + 1) t n v = match n with
    | 0 => .node v t.kids.2.1 t.kids.2.2
    | k + 1 => match Nat.beq (k % 2) 1 with | false => .node t.kids.1 (T.set d t.kids.2.1 (k / 2) v) t.kids.2.2 | true => .node t.kids.1 t.kids.2.1 (T.set d t.kids.2.2 (k / 2) v) := by
  cases n with
  | zero => cases t <;> rfl
  | succ k => cases hb : Nat.beq (k % 2) 1 <;> cases t <;> simp only [hb] <;> show Bool.casesOn (motive := fun _ => T α) (Nat.beq (k % 2) 1) _ _ = _ <;> rw [hb] <;> rfl
theorem T.get_kids {α : Type} (t : T α) (n : Nat) : t.get n = match n with
    | 0 => t.kids.1
    | k + 1 => match Nat.beq (k % 2) 1 with | false => t.kids.2.1.get (k / 2) | true => t.kids.2.2.get (k / 2) := by
  cases t with
  | leaf a => cases n with
    | zero => rfl
    | succ k => simp only [T.kids, T.get_leaf]; split <;> rfl
  | node a l r => cases n with
    | zero => rfl
    | succ k => rw [T.get_succ]; rfl

theorem T.fits_leaf {α : Type} (a : α) (d : Nat) : (T.leaf a).fits d := by cases d <;> simp only [T.fits]
theorem T.fits_kids {α : Type} {t : T α} {d : Nat} (h : t.fits (d + 1)) : t.kids.2.1.fits d ∧ t.kids.2.2.fits d := by
  cases t with
  | leaf a => exact ⟨T.fits_leaf _ _, T.fits_leaf _ _⟩
  | node a l r => exact h
theorem T.fits_zero {α : Type} {t : T α} (h : t.fits 0) : ∃ a, t = .leaf a := by
  cases t with
  | leaf a => exact ⟨a, rfl⟩
  | node a l r => exact h.elim

theorem T.fits_set {α : Type} (d : Nat) : ∀ (t : T α) (n : Nat) (v : α), t.fits d → (T.set d t n v).fits d := by
  induction d with
  | zero => intro t n v _; exact T.fits_leaf _ _
  | succ d ih =>
    intro t n v h
    have hk := T.fits_kids h
    rw [T.set_succ]
    split
    · exact hk
    · split
      · exact ⟨ih _ _ _ hk.1, hk.2⟩
      · exact ⟨hk.1, ih _ _ _ hk.2⟩

theorem T.get_set {α : Type} (d : Nat) : ∀ (t : T α) (n m : Nat) (v : α), t.fits d → n < 2 ^ d → m < 2 ^ d →
    (T.set d t n v).get m = if m = n then v else t.get m := by
  induction d with
  | zero =>
    intro t n m v h hn hm
    have : m = n := by simp at hn hm; omega
    simp [T.set_zero, T.get_leaf, this]
  | succ d ih =>
    intro t n m v h hn hm
    have hk := T.fits_kids h
    rw [T.set_succ, T.get_kids t m]
    cases n with
    | zero =>
      cases m with
      | zero => simp [T.get_zero]
      | succ k => rw [T.get_succ, if_neg (by omega)]
    | succ n =>
      have hn2 : n / 2 < 2 ^ d := by rw [Nat.pow_succ] at hn; omega
      cases m with
      | zero => simp only; split <;> rw [T.get_zero, if_neg (by omega)]
      | succ m =>
        have hm2 : m / 2 < 2 ^ d := by rw [Nat.pow_succ] at hm; omega
        simp only
        rcases Nat.mod_two_eq_zero_or_one n with h0 | h0 <;> rcases Nat.mod_two_eq_zero_or_one m with h1 | h1 <;> simp only [h0, show Nat.beq 0 1 = false from rfl, show Nat.beq 1 1 = true from rfl] <;> rw [T.get_succ] <;> simp only [h1, show Nat.beq 0 1 = false from rfl, show Nat.beq 1 1 = true from rfl]
        · rw [ih _ _ _ _ hk.1 hn2 hm2]
          have : (m / 2 = n / 2) ↔ m + 1 = n + 1 := by omega
          simp only [this]
        · rw [if_neg (by omega)]
        · rw [if_neg (by omega)]
        · rw [ih _ _ _ _ hk.2 hn2 hm2]
          have : (m / 2 = n / 2) ↔ m + 1 = n + 1 := by omega
          simp only [this]

/-! Values that hold no address. -/
/-- Not the yield of a loop. -/
def fnPure (f : Fn) : Bool := match f with | .yield _ => false | _ => true

mutual
def pureV : Value → Bool
  | .pointer (some _) | .slice (some _) _ _ | .map (some _) | .chan (some _) => false
  | .func f ⟨a⟩ ⟨c⟩ => fnPure f && (pureL a && pureL c)
  | .iface _ x => pureV x
  | .agg ⟨l⟩ => pureL l
  | .tuple ⟨l⟩ => pureL l
  | _ => true
def pureL : List Value → Bool
  | [] => true
  | v :: vs => pureV v && pureL vs
end

/-- What is known of a row of cells beside them: nothing; of which type it was made; elements of size e + 1, and the capacity is open. -/
inductive Gw where
  | no
  | ty (t : TypeId)
  | up (e : Nat) (t : Option TypeId)
def Gw.e (g : Gw) : Nat := match g with | .up e _ => e + 1 | _ => 0
/-- The type, where it is said, is the row's, which begins with its block. -/
def Gw.fit (g : Gw) (el : TypeId) (o : Nat) : Prop := match g with | .ty t => el = t ∧ o = 0 | .up _ (some t) => el = t ∧ o = 0 | _ => True
def gwOf (size : Nat) (el : TypeId) : Gw := match size with | 0 => .no | e + 1 => .up e (some el)
theorem gwOf_e (size : Nat) (el : TypeId) : (gwOf size el).e = size := by cases size <;> rfl
theorem gwOf_fit (size : Nat) (el : TypeId) : (gwOf size el).fit el 0 := by cases size <;> first | trivial | exact ⟨rfl, rfl⟩

/-- What an abstract block is: cells; a map; an iterator over a string; the record of a loop over a function. -/
inductive Blk where
  | cells (c : Array Value) (grow : Gw)
  | map (es : Array MapEntry) (clock : Nat)
  | iter (s : ByteArray) (pos : Nat)
  | loop (env : T (Option Value)) (n : Nat) (ps : Array Tmp) (x y : Code) (st : LoopState) (pend : Option Code)

/-- Abstract memory: blocks by number; 'next' is the next number; below 'lock' nothing may be written; below 'imp' blocks came in; from 16777216 on stand blocks that are only looked at ('old'); 'fl': it stands on the start's memory. -/
structure AH where
  t : T (Option Blk)
  next : Nat
  lock : Nat
  imp : Nat
  old : Nat → Option Blk := fun _ => none
  fl : Bool := false

noncomputable def AH.get (h : AH) (i : Nat) : Option Blk := match Nat.blt i 16777216 with
  | true => (match Nat.blt i h.next with | true => h.t.get i | false => none)
  | false => h.old (i - 16777216)
noncomputable def AH.put (h : AH) (i : Nat) (b : Option Blk) : AH := { h with t := T.set 24 h.t i b }
noncomputable def AH.new (h : AH) (b : Blk) : Option (Nat × AH) :=
  match Nat.blt h.next 16777216 with
  | true => some (h.next, { h with t := T.set 24 h.t h.next (some b), next := h.next + 1 })
  | false => none
def AH.own (h : AH) (i : Nat) : Bool := Nat.ble h.imp i && Nat.blt i 16777216
def AH.may (h : AH) (i : Nat) : Bool := Nat.ble h.lock i && h.own i

/-- Where an abstract block lies: the block, the offset of its first cell, how many cells that block has, the element's size where the capacity is open. -/
structure Loc where
  b : Nat
  o : Nat
  n : Nat
  e : Nat

abbrev Mu := Nat → Option Loc

/-- Functions: the yield of a loop goes with the loop's record. -/
def FnR (μ : Mu) (f f' : Fn) : Prop := match f with | .yield i => ∃ l, μ i = some l ∧ f' = .yield l.b | _ => f' = f

/-! An abstract value and a value of the machine. -/
mutual
def VR (μ : Mu) : Value → Value → Prop
  | .pointer (some a), v => ∃ l, a.spot = none ∧ μ a.block = some l ∧ v = .pointer (some ⟨l.b, l.o + a.off, none⟩)
  | .slice (some a) n c, v => ∃ l c', a.spot = none ∧ μ a.block = some l ∧ v = .slice (some ⟨l.b, l.o + a.off, none⟩) n c' ∧
      (l.e = 0 → c' = c) ∧ (l.e ≠ 0 → n ≤ c ∧ c ≤ c' ∧ l.o + a.off + c' * l.e ≤ l.n)
  | .map (some r), v => ∃ l, μ r = some l ∧ v = .map (some l.b)
  | .chan (some _), _ => False
  | .func f ⟨a⟩ ⟨c⟩, v => ∃ f' a' c', v = .func f' ⟨a'⟩ ⟨c'⟩ ∧ FnR μ f f' ∧ VRL μ a a' ∧ VRL μ c c'
  | .iface t x, v => ∃ x', v = .iface t x' ∧ VR μ x x'
  | .agg ⟨l⟩, v => ∃ l', v = .agg ⟨l'⟩ ∧ VRL μ l l'
  | .tuple ⟨l⟩, v => ∃ l', v = .tuple ⟨l'⟩ ∧ VRL μ l l'
  | u, v => v = u
def VRL (μ : Mu) : List Value → List Value → Prop
  | [], l' => l' = []
  | v :: vs, l' => ∃ v' vs', l' = v' :: vs' ∧ VR μ v v' ∧ VRL μ vs vs'
end

def Mu.le (μ ν : Mu) : Prop := ∀ i l, μ i = some l → ν i = some l

theorem Mu.le_refl (μ : Mu) : μ.le μ := fun _ _ h => h
theorem Mu.le_trans {μ ν ξ : Mu} (h : μ.le ν) (k : ν.le ξ) : μ.le ξ := fun i l hl => k i l (h i l hl)

theorem FnR.mono {μ ν : Mu} (hle : μ.le ν) {f f' : Fn} (h : FnR μ f f') : FnR ν f f' := by
  cases f <;> first | exact h | (obtain ⟨l, h1, h2⟩ := h; exact ⟨l, hle _ _ h1, h2⟩)
theorem FnR.pure {μ : Mu} {f f' : Fn} (h : fnPure f = true) : FnR μ f f' ↔ f' = f := by
  cases f <;> first | exact Iff.rfl | cases h

mutual
theorem VR.mono {μ ν : Mu} (hle : μ.le ν) : ∀ {v v' : Value}, VR μ v v' → VR ν v v'
  | .pointer (some a), v', h => by
    simp only [VR] at h ⊢
    obtain ⟨l, h1, h2, h3⟩ := h
    exact ⟨l, h1, hle _ _ h2, h3⟩
  | .slice (some a) n c, v', h => by
    simp only [VR] at h ⊢
    obtain ⟨l, c', h1, h2, h3⟩ := h
    exact ⟨l, c', h1, hle _ _ h2, h3⟩
  | .map (some r), v', h => by
    simp only [VR] at h ⊢
    obtain ⟨l, h2, h3⟩ := h
    exact ⟨l, hle _ _ h2, h3⟩
  | .chan (some _), v', h => by simp only [VR] at h
  | .func f ⟨a⟩ ⟨c⟩, v', h => by
    simp only [VR] at h ⊢
    obtain ⟨f', a', c', h1, h0, h2, h3⟩ := h
    exact ⟨f', a', c', h1, FnR.mono hle h0, VRL.mono hle h2, VRL.mono hle h3⟩
  | .iface t x, v', h => by
    simp only [VR] at h ⊢
    obtain ⟨x', h1, h2⟩ := h
    exact ⟨x', h1, VR.mono hle h2⟩
  | .agg ⟨l⟩, v', h => by
    simp only [VR] at h ⊢
    obtain ⟨l', h1, h2⟩ := h
    exact ⟨l', h1, VRL.mono hle h2⟩
  | .tuple ⟨l⟩, v', h => by
    simp only [VR] at h ⊢
    obtain ⟨l', h1, h2⟩ := h
    exact ⟨l', h1, VRL.mono hle h2⟩
  | .bool _, v', h => by simp only [VR] at h ⊢; exact h
  | .int _ _, v', h => by simp only [VR] at h ⊢; exact h
  | .float _ _, v', h => by simp only [VR] at h ⊢; exact h
  | .complex _ _ _, v', h => by simp only [VR] at h ⊢; exact h
  | .string _, v', h => by simp only [VR] at h ⊢; exact h
  | .pointer none, v', h => by simp only [VR] at h ⊢; exact h
  | .slice none _ _, v', h => by simp only [VR] at h ⊢; exact h
  | .map none, v', h => by simp only [VR] at h ⊢; exact h
  | .chan none, v', h => by simp only [VR] at h ⊢; exact h
  | .nilFunc, v', h => by simp only [VR] at h ⊢; exact h
  | .nilIface, v', h => by simp only [VR] at h ⊢; exact h
theorem VRL.mono {μ ν : Mu} (hle : μ.le ν) : ∀ {l l' : List Value}, VRL μ l l' → VRL ν l l'
  | [], l', h => by simp only [VRL] at h ⊢; exact h
  | v :: vs, l', h => by
    simp only [VRL] at h ⊢
    obtain ⟨v', vs', h1, h2, h3⟩ := h
    exact ⟨v', vs', h1, VR.mono hle h2, VRL.mono hle h3⟩
end

mutual
theorem VR.pure {μ : Mu} : ∀ {v v' : Value}, pureV v = true → (VR μ v v' ↔ v' = v)
  | .pointer (some a), v', h => by simp [pureV] at h
  | .slice (some a) n c, v', h => by simp [pureV] at h
  | .map (some r), v', h => by simp [pureV] at h
  | .chan (some _), v', h => by simp [pureV] at h
  | .func f ⟨a⟩ ⟨c⟩, v', h => by
    simp only [pureV, Bool.and_eq_true] at h
    simp only [VR, FnR.pure h.1, VRL.pure h.2.1, VRL.pure h.2.2]
    constructor
    · rintro ⟨f', a', c', h1, rfl, rfl, rfl⟩; exact h1
    · rintro rfl; exact ⟨_, _, _, rfl, rfl, rfl, rfl⟩
  | .iface t x, v', h => by
    simp only [pureV] at h
    simp only [VR, VR.pure h]
    constructor
    · rintro ⟨x', h1, rfl⟩; exact h1
    · rintro rfl; exact ⟨_, rfl, rfl⟩
  | .agg ⟨l⟩, v', h => by
    simp only [pureV] at h
    simp only [VR, VRL.pure h]
    constructor
    · rintro ⟨x', h1, rfl⟩; exact h1
    · rintro rfl; exact ⟨_, rfl, rfl⟩
  | .tuple ⟨l⟩, v', h => by
    simp only [pureV] at h
    simp only [VR, VRL.pure h]
    constructor
    · rintro ⟨x', h1, rfl⟩; exact h1
    · rintro rfl; exact ⟨_, rfl, rfl⟩
  | .bool _, v', _ => by simp only [VR]
  | .int _ _, v', _ => by simp only [VR]
  | .float _ _, v', _ => by simp only [VR]
  | .complex _ _ _, v', _ => by simp only [VR]
  | .string _, v', _ => by simp only [VR]
  | .pointer none, v', _ => by simp only [VR]
  | .slice none _ _, v', _ => by simp only [VR]
  | .map none, v', _ => by simp only [VR]
  | .chan none, v', _ => by simp only [VR]
  | .nilFunc, v', _ => by simp only [VR]
  | .nilIface, v', _ => by simp only [VR]
theorem VRL.pure {μ : Mu} : ∀ {l l' : List Value}, pureL l = true → (VRL μ l l' ↔ l' = l)
  | [], l', _ => by simp only [VRL]
  | v :: vs, l', h => by
    simp only [pureL, Bool.and_eq_true] at h
    simp only [VRL, VR.pure h.1, VRL.pure h.2]
    constructor
    · rintro ⟨v', vs', h1, rfl, rfl⟩; exact h1
    · rintro rfl; exact ⟨_, _, rfl, rfl, rfl⟩
end

end Go.Proofs.YtibffohcmegooaaGreatDoor.V
