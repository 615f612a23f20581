/- The small machine's operations on values agree with the model's. Conditions: none. -/
import Derived.Test.YtebaekbmminjnaaGreatDoorVc
import Derived.Laws.Entries
import Derived.Laws.Strings
namespace Go.Proofs.YtebaekbmminjnaaGreatDoor.V
set_option linter.all false
open Go

structure EnvOK (μ : Mu) (n : Nat) (env : T (Option Value)) (a : Act) : Prop where
  size : a.tmps.size = n
  le : n ≤ 4096
  fits : env.fits 12
  at_ : ∀ t v, t < n → env.get t = some v → VR μ v (a.tmps.getD t undef)

section
variable {P : Program} {Z : AH} {G n : Nat} {μ : Mu} {env : T (Option Value)} {a : Act} {h : AH} {w : World}

theorem EnvOK.mono {ν : Mu} (e : EnvOK μ n env a) (hle : μ.le ν) : EnvOK ν n env a := ⟨e.size, e.le, e.fits, fun t v ht hv => (e.at_ t v ht hv).mono hle⟩

theorem ev_ok {x : Operand} {v : Value} (hx : ev G n env x = some v) (e : EnvOK μ n env a) (hg : ∀ g, g < G → ∃ l, μ g = some l ∧ l.b = g ∧ l.o = 0) : VR μ v (a.eval x) := by
  cases x with
  | tmp t =>
    simp only [ev] at hx
    split at hx
    · rename_i hlt
      exact e.at_ t v (blt_iff.1 hlt) hx
    · cases hx
  | const c =>
    simp only [ev] at hx
    split at hx
    · rename_i hp
      simp only [Option.some.injEq] at hx
      subst hx
      exact VR.of_pure hp
    · cases hx
  | global g =>
    simp only [ev] at hx
    split at hx
    · rename_i hlt
      simp only [Option.some.injEq] at hx
      subst hx
      obtain ⟨l, hl, h1, h2⟩ := hg g (blt_iff.1 hlt)
      simp only [VR, Act.eval]
      exact ⟨l, trivial, hl, by rw [h1, h2]⟩
    · cases hx
  | func f =>
    simp only [ev, Option.some.injEq] at hx
    subst hx
    exact VR.of_pure (by simp [pureV, pureL, fnPure])

theorem evs_ok (e : EnvOK μ n env a) (hg : ∀ g, g < G → ∃ l, μ g = some l ∧ l.b = g ∧ l.o = 0) : ∀ {xs : List Operand} {vs : List Value}, evs G n env xs = some vs → VRL μ vs (xs.map a.eval)
  | [], vs, hx => by simp only [evs, evsA_nil, Option.some.injEq] at hx; subst hx; simpa using VRL.nil
  | x :: xs, vs, hx => by
    simp only [evs, evsA_cons] at hx
    split at hx
    · rename_i v hv
      split at hx
      · rename_i us hus
        simp only [Option.some.injEq] at hx
        subst hx
        exact VRL.cons (ev_ok hv e hg) (evs_ok e hg hus)
      · cases hx
    · cases hx

theorem putE_ok {dst : Option Tmp} {v v' : Value} {env' : T (Option Value)} (hp : putE n dst v env = some env') (e : EnvOK μ n env a) (hv : VR μ v v') : EnvOK μ n env' (a.put dst v') := by
  cases dst with
  | none => simp only [putE, Option.some.injEq] at hp; subst hp; exact e
  | some d =>
    simp only [putE] at hp
    split at hp
    · rename_i hlt
      have hd := blt_iff.1 hlt
      have hle := e.le
      simp only [Option.some.injEq] at hp
      subst hp
      refine ⟨by simp [Act.put, e.size], e.le, T.fits_set 12 _ _ _ e.fits, ?_⟩
      intro t u ht hu
      rw [T.get_set 12 _ _ _ _ e.fits (by simp; omega) (by simp; omega)] at hu
      by_cases he : t = d
      · subst he
        have : t < a.tmps.size := by rw [e.size]; exact hd
        rw [if_pos rfl] at hu
        cases hu
        simpa [Act.put, Array.getD_eq_getD_getElem?, this] using hv
      · rw [if_neg he] at hu
        have := e.at_ t u ht hu
        simpa [Act.put, Array.getD_eq_getD_getElem?, Array.getElem?_setIfInBounds_ne (fun h => he h.symm)] using this
    · cases hp

theorem bytesEq_eq : ∀ (x y : List UInt8), bytesEq x y = (x == y)
  | [], [] => rfl
  | [], _ :: _ => rfl
  | _ :: _, [] => rfl
  | a :: x, b :: y => by
    simp only [bytesEq]
    have hab : (a == b) = Nat.beq a.toNat b.toNat := by
      rw [Bool.eq_iff_iff, beq_iff_eq, beq_iff]
      exact ⟨fun h => by rw [h], fun h => UInt8.toNat_inj.1 h⟩
    show (match Nat.beq a.toNat b.toNat with | true => bytesEq x y | false => false) = (a == b && x == y)
    rw [hab]
    cases Nat.beq a.toNat b.toNat <;> simp [bytesEq_eq x y]

theorem bytesLt_eq : ∀ (x y : List UInt8), bytesLt x y = Op.bytesLess x y
  | [], [] => rfl
  | [], _ :: _ => rfl
  | _ :: _, [] => rfl
  | a :: x, b :: y => by
    simp only [bytesLt, Op.bytesLess]
    have hab : (a == b) = Nat.beq a.toNat b.toNat := by
      rw [Bool.eq_iff_iff, beq_iff_eq, beq_iff]
      exact ⟨fun h => by rw [h], fun h => UInt8.toNat_inj.1 h⟩
    have hlt : decide (a < b) = Nat.blt a.toNat b.toNat := by
      rw [Bool.eq_iff_iff, decide_eq_true_iff, blt_iff]
      exact UInt8.lt_iff_toNat_lt
    rw [hab, hlt]
    cases Nat.blt a.toNat b.toNat <;> cases Nat.beq a.toNat b.toNat <;> simp [bytesLt_eq x y]

theorem arithB_ok {op : BinOp} {k : IntKind} {x y : Int} {r : Value} (t : TypeId) (hr : arithB op k x y = some r) (hs : op ≠ .shl ∧ op ≠ .shr) : (binOp op t (.int k x) (.int k y)).run P w = .ok r w := by
  cases op <;> simp only [arithB, Option.some.injEq] at hr
  case quo =>
    split at hr
    · cases hr
    · rename_i hne
      simp only [Option.some.injEq] at hr
      subst hr
      have : y ≠ 0 := fun h => hne (by rw [h]; rfl)
      simp [binOp, Op.intDiv, this]
  case rem =>
    split at hr
    · cases hr
    · rename_i hne
      simp only [Option.some.injEq] at hr
      subst hr
      have : y ≠ 0 := fun h => hne (by rw [h]; rfl)
      simp [binOp, Op.intDiv, this]
  case shl => exact absurd rfl hs.1
  case shr => exact absurd rfl hs.2
  all_goals (subst hr; simp [binOp, Op.intArith, Op.intCmp, Op.intBits, bits])

theorem shiftB_ok {op : BinOp} {k k' : IntKind} {x y : Int} {r : Value} (t : TypeId) (hr : arithB op k x y = some r) (hs : op = .shl ∨ op = .shr) : (binOp op t (.int k x) (.int k' y)).run P w = .ok r w := by
  rcases hs with rfl | rfl
  all_goals
    simp only [arithB] at hr
    split at hr
    · rename_i m
      simp only [Option.some.injEq] at hr
      subst hr
      have h1 : ¬ ((Int.ofNat m) < 0) := by simp
      have h2 : (Int.ofNat m).toNat = m := rfl
      simp only [binOp, Op.shift, if_neg h1, h2]
      rfl
    · cases hr

theorem floatB_ok {op : BinOp} {k : FloatKind} {x y : Nat} {r : Value} (t : TypeId) (hr : floatB op k x y = some r) : (binOp op t (.float k x) (.float k y)).run P w = .ok r w := by
  cases op <;> simp only [floatB, Option.some.injEq, Option.map_eq_some_iff] at hr
  case add => obtain ⟨b, hb, rfl⟩ := hr; simp only [binOp, ne_eq, not_true_eq_false, if_false, Op.floatArith, Sem.run_bind, Sem.run_pure, Result.andThen_ok, hb]
  case sub => obtain ⟨b, hb, rfl⟩ := hr; simp only [binOp, ne_eq, not_true_eq_false, if_false, Op.floatArith, Sem.run_bind, Sem.run_pure, Result.andThen_ok, hb]
  case mul => obtain ⟨b, hb, rfl⟩ := hr; simp only [binOp, ne_eq, not_true_eq_false, if_false, Op.floatArith, Sem.run_bind, Sem.run_pure, Result.andThen_ok, hb]
  case quo => obtain ⟨b, hb, rfl⟩ := hr; simp only [binOp, ne_eq, not_true_eq_false, if_false, Op.floatArith, Sem.run_bind, Sem.run_pure, Result.andThen_ok, hb]
  all_goals first | (cases hr; done) | (subst hr; simp [binOp, Op.floatCmp]; done) | (subst hr; simp [binOp, Op.floatCmp]; rfl)

theorem size_list (s : ByteArray) : s.size = s.data.toList.length := by rw [Array.length_toList]; rfl

theorem ba_of_list (s : ByteArray) : (⟨s.data.toList.toArray⟩ : ByteArray) = s := by simp

theorem stringB_ok {op : BinOp} {x y : ByteArray} {r : Value} (t : TypeId) (hr : stringB op x y = some r) : (binOp op t (.string x) (.string y)).run P w = .ok r w := by
  cases op <;> simp only [stringB, Option.some.injEq] at hr
  case add =>
    split at hr
    · rename_i hle
      simp only [Option.some.injEq] at hr
      subst hr
      have hle' := ble_iff.1 hle
      have h1 : ¬ (((x.size + y.size : Nat) : Int) > IntKind.i64.max) := by
        have hx := size_list x
        have hy := size_list y
        rw [IntKind.max_i64]; omega
      have h2 : (⟨(x.data.toList ++ y.data.toList).toArray⟩ : ByteArray) = x ++ y := by
        apply ByteArray.ext
        simp [ByteArray.data_append]
      simp only [binOp, Op.stringOp, if_neg h1, h2]
      rfl
    · cases hr
  all_goals first | (cases hr; done) | (subst hr; simp [binOp, Op.stringOp, ByteArray.toList_eq, bytesEq_eq, bytesLt_eq]; done)

end
end Go.Proofs.YtebaekbmminjnaaGreatDoor.V
