/- Values that are the same and old. Conditions: none. -/
import Derived.Test.YtebaekbmminjnaaGreatDoorVl
namespace Go.Proofs.YtebaekbmminjnaaGreatDoor.V
set_option linter.all false
open Go

/-- Two numberings agree on what is old. -/
def Agree (nx : Nat) (μ μ' : Mu) : Prop := ∀ i, (i < nx ∨ 65536 ≤ i) → μ' i = μ i

theorem lowN_ok {nx i : Nat} (h : lowN nx i = true) : i < nx ∨ 65536 ≤ i := by
  unfold lowN at h
  rcases Bool.or_eq_true _ _ ▸ h with h | h
  · exact .inl (blt_iff.1 h)
  · exact .inr (ble_iff.1 h)

theorem lowA_ok {nx : Nat} {a b : Addr} (h : lowA nx a b = true) : a = b ∧ (a.block < nx ∨ 65536 ≤ a.block) := by
  unfold lowA at h
  split at h
  · rename_i h1 h2 h3 h4
    refine ⟨?_, lowN_ok h⟩
    obtain ⟨a1, a2, a3⟩ := a
    obtain ⟨b1, b2, b3⟩ := b
    simp only at h1 h2 h3 h4
    have := beq_iff.1 h3
    have := beq_iff.1 h4
    subst_vars
    rfl
  · cases h

mutual
theorem keepV_eq {nx : Nat} : ∀ {u v : Value}, keepV nx u v = true → u = v ∧ ∀ μ μ' : Mu, Agree nx μ μ' → ∀ v', VR μ' u v' → VR μ u v'
  | .bool a, v, h => by
    simp only [keepV] at h
    split at h
    · exact ⟨by rw [eq_of_beq h], fun μ μ' _ v' hv => by simp only [VR] at hv ⊢; exact hv⟩
    · cases h
  | .int j a, v, h => by
    simp only [keepV] at h
    split at h
    · split at h
      · rename_i hk
        have := of_decide_eq_true hk
        subst this
        exact ⟨by rw [eq_of_beq h], fun μ μ' _ v' hv => by simp only [VR] at hv ⊢; exact hv⟩
      · cases h
    · cases h
  | .float j a, v, h => by
    simp only [keepV] at h
    split at h
    · split at h
      · rename_i hk
        have := of_decide_eq_true hk
        subst this
        exact ⟨by rw [beq_iff.1 h], fun μ μ' _ v' hv => by simp only [VR] at hv ⊢; exact hv⟩
      · cases h
    · cases h
  | .string a, v, h => by
    simp only [keepV] at h
    split at h
    · rename_i c
      rw [bytesEq_eq] at h
      have h1 : a.data.toList = c.data.toList := eq_of_beq h
      obtain ⟨⟨a⟩⟩ := a
      obtain ⟨⟨c⟩⟩ := c
      simp only at h1
      exact ⟨by rw [h1], fun μ μ' _ v' hv => by simp only [VR] at hv ⊢; exact hv⟩
    · cases h
  | .nilIface, v, h => by
    simp only [keepV] at h
    split at h
    · exact ⟨rfl, fun μ μ' _ v' hv => by simp only [VR] at hv ⊢; exact hv⟩
    · cases h
  | .nilFunc, v, h => by
    simp only [keepV] at h
    split at h
    · exact ⟨rfl, fun μ μ' _ v' hv => by simp only [VR] at hv ⊢; exact hv⟩
    · cases h
  | .pointer none, v, h => by
    simp only [keepV] at h
    split at h
    · exact ⟨rfl, fun μ μ' _ v' hv => by simp only [VR] at hv ⊢; exact hv⟩
    · cases h
  | .pointer (some a), v, h => by
    simp only [keepV] at h
    split at h
    · obtain ⟨h1, h2⟩ := lowA_ok h
      refine ⟨by rw [h1], fun μ μ' ag v' hv => ?_⟩
      simp only [VR] at hv ⊢
      obtain ⟨l, e1, e2, e3⟩ := hv
      exact ⟨l, e1, by rw [← ag _ h2]; exact e2, e3⟩
    · cases h
  | .slice none n c, v, h => by
    simp only [keepV] at h
    split at h
    · simp only [Bool.and_eq_true] at h
      rw [beq_iff.1 h.1, beq_iff.1 h.2]
      exact ⟨rfl, fun μ μ' _ v' hv => by simp only [VR] at hv ⊢; exact hv⟩
    · cases h
  | .slice (some a) n c, v, h => by
    simp only [keepV] at h
    split at h
    · simp only [Bool.and_eq_true] at h
      obtain ⟨h1, h2⟩ := lowA_ok h.1
      rw [beq_iff.1 h.2.1, beq_iff.1 h.2.2]
      refine ⟨by rw [h1], fun μ μ' ag v' hv => ?_⟩
      simp only [VR] at hv ⊢
      obtain ⟨l, c', e1, e2, e3⟩ := hv
      exact ⟨l, c', e1, by rw [← ag _ h2]; exact e2, e3⟩
    · cases h
  | .map none, v, h => by
    simp only [keepV] at h
    split at h
    · exact ⟨rfl, fun μ μ' _ v' hv => by simp only [VR] at hv ⊢; exact hv⟩
    · cases h
  | .map (some r), v, h => by
    simp only [keepV] at h
    split at h
    · simp only [Bool.and_eq_true] at h
      have h2 := lowN_ok h.2
      refine ⟨by rw [beq_iff.1 h.1], fun μ μ' ag v' hv => ?_⟩
      simp only [VR] at hv ⊢
      obtain ⟨l, e2, e3⟩ := hv
      exact ⟨l, by rw [← ag _ h2]; exact e2, e3⟩
    · cases h
  | .agg ⟨x⟩, v, h => by
    simp only [keepV] at h
    split at h
    · obtain ⟨h1, h2⟩ := keepL_eq h
      refine ⟨by rw [h1], fun μ μ' ag v' hv => ?_⟩
      simp only [VR] at hv ⊢
      obtain ⟨l', e1, e2⟩ := hv
      exact ⟨l', e1, h2 μ μ' ag _ e2⟩
    · cases h
  | .tuple ⟨x⟩, v, h => by
    simp only [keepV] at h
    split at h
    · obtain ⟨h1, h2⟩ := keepL_eq h
      refine ⟨by rw [h1], fun μ μ' ag v' hv => ?_⟩
      simp only [VR] at hv ⊢
      obtain ⟨l', e1, e2⟩ := hv
      exact ⟨l', e1, h2 μ μ' ag _ e2⟩
    · cases h
  | .complex _ _ _, _, h => by simp [keepV] at h
  | .chan _, _, h => by simp [keepV] at h
  | .func _ _ _, _, h => by simp [keepV] at h
  | .iface _ _, _, h => by simp [keepV] at h
theorem keepL_eq {nx : Nat} : ∀ {a b : List Value}, keepL nx a b = true → a = b ∧ ∀ μ μ' : Mu, Agree nx μ μ' → ∀ l', VRL μ' a l' → VRL μ a l'
  | [], l, h => by
    simp only [keepL] at h
    split at h
    · exact ⟨rfl, fun μ μ' _ v' hv => by simp only [VRL] at hv ⊢; exact hv⟩
    · cases h
  | x :: a, l, h => by
    simp only [keepL] at h
    split at h
    · split at h
      · rename_i h1
        obtain ⟨e1, e2⟩ := keepV_eq h1
        obtain ⟨e3, e4⟩ := keepL_eq h
        refine ⟨by rw [e1, e3], fun μ μ' ag l' hv => ?_⟩
        simp only [VRL] at hv ⊢
        obtain ⟨v', vs', g1, g2, g3⟩ := hv
        exact ⟨v', vs', g1, e2 μ μ' ag _ g2, e4 μ μ' ag _ g3⟩
      · cases h
    · cases h
end

end Go.Proofs.YtebaekbmminjnaaGreatDoor.V
