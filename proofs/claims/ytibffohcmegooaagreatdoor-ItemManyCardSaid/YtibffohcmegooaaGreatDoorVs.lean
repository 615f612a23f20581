/- Calls whose answers are known once and for all: from the start's memory to every memory that stands on it. Conditions: none. -/
import Derived.Test.YtibffohcmegooaaGreatDoorVn
import Derived.Test.YtibffohcmegooaaGreatDoorVr
namespace Go.Proofs.YtibffohcmegooaaGreatDoor.V
set_option linter.all false
open Go Go.MapKept

/-! Values all of whose addresses lie below a number. -/
def fnIn (n : Nat) (f : Fn) : Bool := match f with | .yield i => Nat.blt i n | _ => true
mutual
def inV (n : Nat) : Value → Bool
  | .pointer (some a) => Nat.blt a.block n
  | .slice (some a) _ _ => Nat.blt a.block n
  | .map (some r) => Nat.blt r n
  | .chan (some _) => false
  | .func f ⟨a⟩ ⟨c⟩ => fnIn n f && (inL n a && inL n c)
  | .iface _ x => inV n x
  | .agg ⟨l⟩ => inL n l
  | .tuple ⟨l⟩ => inL n l
  | _ => true
def inL (n : Nat) : List Value → Bool
  | [] => true
  | v :: vs => inV n v && inL n vs
end

def Mu.below (μ : Mu) (n : Nat) : Mu := fun i => if i < n then μ i else none

theorem Mu.below_le (μ : Mu) (n : Nat) : (μ.below n).le μ := by
  intro i l h
  unfold Mu.below at h
  split at h
  · exact h
  · cases h

theorem FnR.below {μ : Mu} {n : Nat} {f f' : Fn} (hi : fnIn n f = true) (h : FnR μ f f') : FnR (μ.below n) f f' := by
  cases f <;> first | exact h | (obtain ⟨l, h1, h2⟩ := h; exact ⟨l, by unfold Mu.below; rw [if_pos (blt_iff.1 hi)]; exact h1, h2⟩)

mutual
theorem VR.below {μ : Mu} {n : Nat} : ∀ {v v' : Value}, inV n v = true → VR μ v v' → VR (μ.below n) v v'
  | .pointer (some a), v', hi, h => by
    simp only [inV, blt_iff] at hi
    simp only [VR] at h ⊢
    obtain ⟨l, h1, h2, h3⟩ := h
    exact ⟨l, h1, by unfold Mu.below; rw [if_pos hi]; exact h2, h3⟩
  | .slice (some a) n0 c, v', hi, h => by
    simp only [inV, blt_iff] at hi
    simp only [VR] at h ⊢
    obtain ⟨l, c', h1, h2, h3⟩ := h
    exact ⟨l, c', h1, by unfold Mu.below; rw [if_pos hi]; exact h2, h3⟩
  | .map (some r), v', hi, h => by
    simp only [inV, blt_iff] at hi
    simp only [VR] at h ⊢
    obtain ⟨l, h2, h3⟩ := h
    exact ⟨l, by unfold Mu.below; rw [if_pos hi]; exact h2, h3⟩
  | .chan (some _), v', hi, h => by simp only [VR] at h
  | .func f ⟨a⟩ ⟨c⟩, v', hi, h => by
    simp only [inV, Bool.and_eq_true] at hi
    simp only [VR] at h ⊢
    obtain ⟨f', a', c', h1, h0, h2, h3⟩ := h
    exact ⟨f', a', c', h1, FnR.below hi.1 h0, VRL.below hi.2.1 h2, VRL.below hi.2.2 h3⟩
  | .iface t x, v', hi, h => by
    simp only [inV] at hi
    simp only [VR] at h ⊢
    obtain ⟨x', h1, h2⟩ := h
    exact ⟨x', h1, VR.below hi h2⟩
  | .agg ⟨l⟩, v', hi, h => by
    simp only [inV] at hi
    simp only [VR] at h ⊢
    obtain ⟨l', h1, h2⟩ := h
    exact ⟨l', h1, VRL.below hi h2⟩
  | .tuple ⟨l⟩, v', hi, h => by
    simp only [inV] at hi
    simp only [VR] at h ⊢
    obtain ⟨l', h1, h2⟩ := h
    exact ⟨l', h1, VRL.below hi h2⟩
  | .bool _, v', _, h => by simp only [VR] at h ⊢; exact h
  | .int _ _, v', _, h => by simp only [VR] at h ⊢; exact h
  | .float _ _, v', _, h => by simp only [VR] at h ⊢; exact h
  | .complex _ _ _, v', _, h => by simp only [VR] at h ⊢; exact h
  | .string _, v', _, h => by simp only [VR] at h ⊢; exact h
  | .pointer none, v', _, h => by simp only [VR] at h ⊢; exact h
  | .slice none _ _, v', _, h => by simp only [VR] at h ⊢; exact h
  | .map none, v', _, h => by simp only [VR] at h ⊢; exact h
  | .chan none, v', _, h => by simp only [VR] at h ⊢; exact h
  | .nilFunc, v', _, h => by simp only [VR] at h ⊢; exact h
  | .nilIface, v', _, h => by simp only [VR] at h ⊢; exact h
theorem VRL.below {μ : Mu} {n : Nat} : ∀ {l l' : List Value}, inL n l = true → VRL μ l l' → VRL (μ.below n) l l'
  | [], l', _, h => by simp only [VRL] at h ⊢; exact h
  | v :: vs, l', hi, h => by
    simp only [inL, Bool.and_eq_true] at hi
    simp only [VRL] at h ⊢
    obtain ⟨v', vs', h1, h2, h3⟩ := h
    exact ⟨v', vs', h1, VR.below hi.1 h2, VRL.below hi.2 h3⟩
end

/-- A start's memory: cells alone, closed in itself, nothing to be written. -/
structure Start (Z : AH) (G : Nat) : Prop where
  fits : Z.t.fits 24
  nxt : Z.next ≤ 16777216
  imp : Z.imp = Z.next
  lock : Z.lock = Z.next
  G : G ≤ Z.next
  fl : Z.fl = true
  old : ∀ i, Z.old i = none
  shut : ∀ i b, Z.get i = some b → ∃ c g, b = .cells c g ∧ inL Z.next c.toList = true

theorem inL_at {n : Nat} : ∀ {l : List Value} {k : Nat} {v : Value}, inL n l = true → l[k]? = some v → inV n v = true
  | [], k, v, _, h => by simp at h
  | x :: l, 0, v, hi, h => by simp at h; subst h; simp only [inL, Bool.and_eq_true] at hi; exact hi.1
  | x :: l, k + 1, v, hi, h => by simp only [inL, Bool.and_eq_true] at hi; exact inL_at hi.2 (by simpa using h)

section
variable {P : Program} {Z : AH} {G : Nat} {μ : Mu} {h : AH} {w : World}

theorem Start.get_lt (s : Start Z G) {i : Nat} (hi : Z.get i ≠ none) : i < Z.next := by
  rcases AH.get_in hi with h | h
  · exact h
  · rw [AH.get_old h, s.old] at hi; exact absurd rfl hi

/-- Where memory stands on the start's, the start describes the world. -/
theorem HR.start (x : HR Z G μ h w) (s : Start Z G) (hf : h.fl = true) : HR Z G (μ.below Z.next) Z w := by
  obtain ⟨s1, s2⟩ := x.std hf
  have hnown : ∀ i, i < Z.next → h.own i = false := fun i hi => by
    cases hn : h.own i with
    | false => rfl
    | true => have := (AH.own_iff.1 hn).1; omega
  refine ⟨s.fits, s.nxt, by rw [s.imp]; exact Nat.le_refl _, ?_, ?_, ?_, ?_, fun _ => ⟨by rw [s.imp]; exact Nat.le_refl _, fun _ _ => rfl⟩⟩
  · intro i hi _
    unfold Mu.below
    rw [if_neg (by omega)]
  · intro g hg
    obtain ⟨l, hl, h1, h2⟩ := x.glob g hg
    have := s.G
    exact ⟨l, by unfold Mu.below; rw [if_pos (by omega)]; exact hl, h1, h2⟩
  · intro i b hb
    have hi := s.get_lt (i := i) (by rw [hb]; simp)
    have hb' : h.get i = some b := by rw [s2 i hi]; exact hb
    obtain ⟨l, hl, hbr⟩ := x.blk i b hb'
    have hz : Z.own i = false := by
      cases hn : Z.own i with
      | false => rfl
      | true => have := (AH.own_iff.1 hn).1; rw [s.imp] at this; omega
    rw [hnown i hi] at hbr
    rw [hz]
    refine ⟨l, by unfold Mu.below; rw [if_pos hi]; exact hl, ?_⟩
    obtain ⟨c, g, rfl, hin⟩ := s.shut i b hb
    obtain ⟨h1, h2, h3, h4, h5⟩ := hbr
    refine ⟨h1, h2, h3, fun k v hk => ?_, h5⟩
    obtain ⟨v', hc, hr⟩ := h4 k v hk
    exact ⟨v', hc, hr.below (inL_at hin (by simpa using hk))⟩
  · intro i j li lj hi _ hgi _ _ _
    have h1 := s.get_lt hgi
    have h2 := (AH.own_iff.1 hi).1
    rw [s.imp] at h2
    omega

/-- A call's answer, whatever stands in memory. -/
def PFact (P : Program) (Z : AH) (G : Nat) (g : FuncId) (args : List Value) (v : Value) : Prop :=
  pureL args = true ∧ pureV v = true ∧ ∀ (μ : Mu) (h : AH) (w : World), HR Z G μ h w → h.fl = true → Calls P g args.toArray w fun e w' => e = .returned v ∧ Same w w'

/-- What a run from the start answers holds whatever stands in memory. -/
theorem fact_of {orc : Orc} (ho : OrcOK P Z G orc) (s : Start Z G) {g : FuncId} {args : List Value} {v : Value} (ha : pureL args = true) (hv : pureV v = true) (hb : orc g args Z = some (v, none)) (hg : Nat.beq g yid = false := by rfl) : PFact P Z G g args v := by
  refine ⟨ha, hv, fun μ h w x hf => ?_⟩
  refine ((ho g args Z v none hb _ w args (x.start s hf) (VRL.of_pure ha)).1 (.inl fun h => by rw [beq_iff.2 h] at hg; cases hg)).mono fun e w' ⟨v', he, ν, hv', _, f⟩ => ?_
  have := (VR.pure hv).1 hv'
  subst this
  refine ⟨he, f.os, f.tape, f.output, f.size, fun b hb => f.blk b hb ?_⟩
  rintro ⟨i, l, hm, hi, _, _⟩
  have h1 := s.get_lt hi
  have h2 := (AH.own_iff.1 (AH.may_imp hm)).1
  rw [s.imp] at h2
  omega

theorem memo_ok {l : List (FuncId × List Value × Value)} (hl : ∀ q ∈ l, PFact P Z G q.1 q.2.1 q.2.2) : BaseOK P Z G (memo l) := by
  intro g args h v ho hb μ w args' x hv
  unfold memo at hb
  split at hb
  case h_2 => cases hb
  rename_i hf
  split at hb
  case h_2 => cases hb
  rename_i u hu
  cases hb
  have key : ∀ (u : Value) l, (∀ q ∈ l, PFact P Z G q.1 q.2.1 q.2.2) → findMemo g args l = some u → PFact P Z G g args u := by
    intro u l
    induction l with
    | nil => intro _ h; cases h
    | cons q l ih =>
      intro hl h
      obtain ⟨f, a, v⟩ := q
      simp only [findMemo] at h
      split at h
      · rename_i hfg
        split at h
        · rename_i hs
          cases h
          have := beq_iff.1 hfg
          subst this
          have := sameL_eq hs
          subst this
          exact hl (f, a, u) (by simp)
        · exact ih (fun q hq => hl q (by simp [hq])) h
      · exact ih (fun q hq => hl q (by simp [hq])) h
  obtain ⟨h1, h2, h3⟩ := key _ l hl hu
  have := (VRL.pure h1).1 hv
  subst this
  refine (h3 μ h w x hf).mono fun e w' ⟨he, hs⟩ => ⟨_, he, μ, VR.of_pure h2, x.same hs, FR.same _ _ hs⟩

end
end Go.Proofs.YtibffohcmegooaaGreatDoor.V
