/- A new block that nothing in its statement looks at. Conditions: none. -/
import Derived.Test.YtibffohcmegooaaGreatDoorVm
import Derived.Test.YtibffohcmegooaaGreatDoorVl
namespace Go.Proofs.YtibffohcmegooaaGreatDoor.V
set_option linter.all false
open Go

section
variable {P : Program} {G n : Nat} {μ : Mu} {w : World} {a : Act} {env : T (Option Value)} {o : Oper} {next : Act → World → Prop} {Q : Exit → Act → World → Prop}

/-- What the making of such a block owes. -/
def SideOwe (μ : Mu) (w : World) (b : Blk) (kv : Nat → Value) (u : Value) (w' : World) : Prop :=
  ∃ (ob : Obj) (m e : Nat), w' = w.alloc ob ∧ (∀ ν, μ.le ν → BR ν true b ⟨w.heap.size, 0, m, e⟩ (w.alloc ob)) ∧ ∀ (ν : Mu) (s : Nat), ν s = some ⟨w.heap.size, 0, m, e⟩ → VR ν (kv s) u

theorem side_cells {c c' : Array Value} {g : Gw} (el : TypeId) (hc : VRL μ c.toList c'.toList) (hfit : g.fit el 0) :
    ∀ ν, μ.le ν → BR ν true (.cells c g) ⟨w.heap.size, 0, c'.size, g.e⟩ (w.alloc (.cells c' el)) := by
  intro ν hle
  refine ⟨rfl, ⟨el, by unfold World.shape? World.alloc; simp, hfit⟩, ?_, ?_, ?_⟩
  · have := hc.length
    simp at this ⊢
    omega
  · intro k u hu
    obtain ⟨u', hu', hr⟩ := hc.at (k := k) (v := u) (by simpa using hu)
    refine ⟨u', ?_, hr.mono hle⟩
    have hu'' : c'[k]? = some u' := by simpa using hu'
    rw [Nat.zero_add, World.cell?_alloc_new]
    exact hu''
  · intro _ k hk
    simp

theorem sideB_ok (ro : Option Nat) (hglob : ∀ g, g < G → ∃ l, μ g = some l ∧ l.b = g ∧ l.o = 0) (he : EnvOK μ n env a) {b : Blk} {kv : Nat → Value} (hb : sideB P G n o env = some (b, kv))
    (hn : ∀ u w', SideOwe μ w b kv u w' → next (a.put o.dst u) w') : o.wpIn (Fr ro) 0 P a w next Q := by
  refine wpIn_Fr ?_ (fun c hc => by unfold sideB at hb; rw [hc] at hb; cases hb) ro
  have evo : ∀ {x : Operand} {v : Value}, ev G n env x = some v → VR μ v (a.eval x) := fun hx => ev_ok hx he hglob
  unfold sideB at hb
  split at hb
  · rename_i t hop
    split at hb
    case h_2 => cases hb
    rename_i z hz
    cases hb
    obtain ⟨hz1, hz2, _⟩ := zeroOf_ok (w := w) hz
    refine wpIn_val (w' := w.alloc (.cells z.cells t)) (v' := .pointer (some ⟨w.heap.size, 0, none⟩)) ?_ (hn _ _ ⟨.cells z.cells t, z.cells.size, (tyOf P t).e, rfl, side_cells t (VR.of_pure hz2).cells (tyOf_fit t), ?_⟩)
    · simp only [execOp, hop, Instr.alloc, Sem.run_bind, hz1, Result.andThen_ok, newVar, newRow, run_newObj, Sem.run_pure]
      rfl
    · intro ν s hs
      simp only [ptrTo, VR]
      exact ⟨_, trivial, hs, rfl⟩
  · rename_i t x hop
    split at hb
    case h_2 => cases hb
    rename_i v0 hx
    cases hb
    refine wpIn_val (w' := w.alloc (.cells (a.eval x).cells t)) (v' := .pointer (some ⟨w.heap.size, 0, none⟩)) ?_ (hn _ _ ⟨.cells (a.eval x).cells t, (a.eval x).cells.size, (tyOf P t).e, rfl, side_cells t (evo hx).cells (tyOf_fit t), ?_⟩)
    · simp only [execOp, hop, Sem.run_bind]
      rfl
    · intro ν s hs
      simp only [ptrTo, VR]
      exact ⟨_, trivial, hs, rfl⟩
  · rename_i t len ps hop
    split at hb
    case h_2 => cases hb
    rename_i vs hvs
    unfold sideSlice at hb
    split at hb
    case h_2 => cases hb
    rename_i e hu
    split at hb
    case h_2 => cases hb
    rename_i size z hs hz
    split at hb
    case h_2 => cases hb
    rename_i h1 h2
    have e1 := beq_iff.1 h1
    have e2 := ble_iff.1 h2
    split at hb
    case h_2 => cases hb
    rename_i c hc
    cases hb
    obtain ⟨hz1, hz2, _⟩ := zeroOf_ok (w := w) hz
    obtain ⟨r', h3, h4⟩ := fillB_ok hc (VRL.of_pure (by simpa using zerosL_pure (pure_cells hz2) len)) (partsOk_ok he hglob hvs)
    have h4' : (ps.map fun (i, x) => (i, a.eval x)) = (ps.toList.map fun (i, x) => (i, a.eval x)).toArray := by apply Array.ext'; simp
    refine wpIn_val (w' := w.alloc (.cells r' e)) (v' := .slice (some ⟨w.heap.size, 0, none⟩) len len) ?_ (hn _ _ ⟨.cells r' e, r'.size, 0, rfl, side_cells (g := .no) e h4 trivial, ?_⟩)
    · simp only [execOp, hop, Sem.run_bind]
      rw [h4']
      have hbig : ¬ (len * size > 2 ^ 24) := by have : (16777216 : Nat) = 2 ^ 24 := by decide
                                                omega
      simp only [Instr.buildSlice, Sem.run_bind, run_underlying hu, Result.andThen_ok, run_sizeOf hs, if_neg hbig]
      have hzero : ((Array.range (len * size)).map fun i => z.cells[i % z.cells.size]!) = (zerosB z.cells.toList len).toArray := by
        rw [← e1]; exact zeros_eq _ _
      by_cases h0 : len * size = 0
      · have hnil : (zerosB z.cells.toList len).toArray = #[] := by
          rw [← hzero, h0]; simp
        rw [hnil] at h3
        simp only [h0, if_true, Sem.run_bind, Sem.run_pure, Result.andThen_ok, Array.range_zero', Array.map_empty]
        rw [h3]
        rfl
      · simp only [if_neg h0, Sem.run_bind, hz1, Result.andThen_ok, Sem.run_pure]
        rw [hzero, h3]
        rfl
    · intro ν s hs2
      simp only [VR]
      exact ⟨_, len, trivial, hs2, rfl, fun _ => rfl, fun h => absurd rfl h⟩
  · cases hb

end
end Go.Proofs.YtibffohcmegooaaGreatDoor.V

namespace Go.Proofs.YtibffohcmegooaaGreatDoor.V
set_option linter.all false
open Go

/-- Two numberings agree on what is old. -/
def Agree (nx : Nat) (μ μ' : Mu) : Prop := ∀ i, (i < nx ∨ 16777216 ≤ i) → μ' i = μ i

theorem lowN_ok {nx i : Nat} (h : lowN nx i = true) : i < nx ∨ 16777216 ≤ i := by
  unfold lowN at h
  rcases Bool.or_eq_true _ _ ▸ h with h | h
  · exact .inl (blt_iff.1 h)
  · exact .inr (ble_iff.1 h)

theorem lowA_ok {nx : Nat} {a b : Addr} (h : lowA nx a b = true) : a = b ∧ (a.block < nx ∨ 16777216 ≤ a.block) := by
  unfold lowA at h
  split at h
  · rename_i h1 h2 h3 h4
    refine ⟨?_, lowN_ok h⟩
    obtain ⟨a1, a2, a3⟩ := a
    obtain ⟨b1, b2, b3⟩ := b
    simp only at h1 h2 h3 h4
    have := beq_iff.1 h3
    have := beq_iff.1 h4
    subst_vars
    rfl
  · cases h

mutual
theorem keepV_eq {nx : Nat} : ∀ {u v : Value}, keepV nx u v = true → u = v ∧ ∀ μ μ' : Mu, Agree nx μ μ' → ∀ v', VR μ' u v' → VR μ u v'
  | .bool a, v, h => by
    simp only [keepV] at h
    split at h
    · exact ⟨by rw [eq_of_beq h], fun μ μ' _ v' hv => by simp only [VR] at hv ⊢; exact hv⟩
    · cases h
  | .int j a, v, h => by
    simp only [keepV] at h
    split at h
    · split at h
      · rename_i hk
        have := of_decide_eq_true hk
        subst this
        exact ⟨by rw [eq_of_beq h], fun μ μ' _ v' hv => by simp only [VR] at hv ⊢; exact hv⟩
      · cases h
    · cases h
  | .float j a, v, h => by
    simp only [keepV] at h
    split at h
    · split at h
      · rename_i hk
        have := of_decide_eq_true hk
        subst this
        exact ⟨by rw [beq_iff.1 h], fun μ μ' _ v' hv => by simp only [VR] at hv ⊢; exact hv⟩
      · cases h
    · cases h
  | .string a, v, h => by
    simp only [keepV] at h
    split at h
    · rename_i c
      rw [bytesEq_eq] at h
      have h1 : a.data.toList = c.data.toList := eq_of_beq h
      obtain ⟨⟨a⟩⟩ := a
      obtain ⟨⟨c⟩⟩ := c
      simp only at h1
      exact ⟨by rw [h1], fun μ μ' _ v' hv => by simp only [VR] at hv ⊢; exact hv⟩
    · cases h
  | .nilIface, v, h => by
    simp only [keepV] at h
    split at h
    · exact ⟨rfl, fun μ μ' _ v' hv => by simp only [VR] at hv ⊢; exact hv⟩
    · cases h
  | .nilFunc, v, h => by
    simp only [keepV] at h
    split at h
    · exact ⟨rfl, fun μ μ' _ v' hv => by simp only [VR] at hv ⊢; exact hv⟩
    · cases h
  | .pointer none, v, h => by
    simp only [keepV] at h
    split at h
    · exact ⟨rfl, fun μ μ' _ v' hv => by simp only [VR] at hv ⊢; exact hv⟩
    · cases h
  | .pointer (some a), v, h => by
    simp only [keepV] at h
    split at h
    · obtain ⟨h1, h2⟩ := lowA_ok h
      refine ⟨by rw [h1], fun μ μ' ag v' hv => ?_⟩
      simp only [VR] at hv ⊢
      obtain ⟨l, e1, e2, e3⟩ := hv
      exact ⟨l, e1, by rw [← ag _ h2]; exact e2, e3⟩
    · cases h
  | .slice none n c, v, h => by
    simp only [keepV] at h
    split at h
    · simp only [Bool.and_eq_true] at h
      rw [beq_iff.1 h.1, beq_iff.1 h.2]
      exact ⟨rfl, fun μ μ' _ v' hv => by simp only [VR] at hv ⊢; exact hv⟩
    · cases h
  | .slice (some a) n c, v, h => by
    simp only [keepV] at h
    split at h
    · simp only [Bool.and_eq_true] at h
      obtain ⟨h1, h2⟩ := lowA_ok h.1
      rw [beq_iff.1 h.2.1, beq_iff.1 h.2.2]
      refine ⟨by rw [h1], fun μ μ' ag v' hv => ?_⟩
      simp only [VR] at hv ⊢
      obtain ⟨l, c', e1, e2, e3⟩ := hv
      exact ⟨l, c', e1, by rw [← ag _ h2]; exact e2, e3⟩
    · cases h
  | .map none, v, h => by
    simp only [keepV] at h
    split at h
    · exact ⟨rfl, fun μ μ' _ v' hv => by simp only [VR] at hv ⊢; exact hv⟩
    · cases h
  | .map (some r), v, h => by
    simp only [keepV] at h
    split at h
    · simp only [Bool.and_eq_true] at h
      have h2 := lowN_ok h.2
      refine ⟨by rw [beq_iff.1 h.1], fun μ μ' ag v' hv => ?_⟩
      simp only [VR] at hv ⊢
      obtain ⟨l, e2, e3⟩ := hv
      exact ⟨l, by rw [← ag _ h2]; exact e2, e3⟩
    · cases h
  | .agg ⟨x⟩, v, h => by
    simp only [keepV] at h
    split at h
    · obtain ⟨h1, h2⟩ := keepL_eq h
      refine ⟨by rw [h1], fun μ μ' ag v' hv => ?_⟩
      simp only [VR] at hv ⊢
      obtain ⟨l', e1, e2⟩ := hv
      exact ⟨l', e1, h2 μ μ' ag _ e2⟩
    · cases h
  | .tuple ⟨x⟩, v, h => by
    simp only [keepV] at h
    split at h
    · obtain ⟨h1, h2⟩ := keepL_eq h
      refine ⟨by rw [h1], fun μ μ' ag v' hv => ?_⟩
      simp only [VR] at hv ⊢
      obtain ⟨l', e1, e2⟩ := hv
      exact ⟨l', e1, h2 μ μ' ag _ e2⟩
    · cases h
  | .complex _ _ _, _, h => by simp [keepV] at h
  | .chan _, _, h => by simp [keepV] at h
  | .func _ _ _, _, h => by simp [keepV] at h
  | .iface _ _, _, h => by simp [keepV] at h
theorem keepL_eq {nx : Nat} : ∀ {a b : List Value}, keepL nx a b = true → a = b ∧ ∀ μ μ' : Mu, Agree nx μ μ' → ∀ l', VRL μ' a l' → VRL μ a l'
  | [], l, h => by
    simp only [keepL] at h
    split at h
    · exact ⟨rfl, fun μ μ' _ v' hv => by simp only [VRL] at hv ⊢; exact hv⟩
    · cases h
  | x :: a, l, h => by
    simp only [keepL] at h
    split at h
    · split at h
      · rename_i h1
        obtain ⟨e1, e2⟩ := keepV_eq h1
        obtain ⟨e3, e4⟩ := keepL_eq h
        refine ⟨by rw [e1, e3], fun μ μ' ag l' hv => ?_⟩
        simp only [VRL] at hv ⊢
        obtain ⟨v', vs', g1, g2, g3⟩ := hv
        exact ⟨v', vs', g1, e2 μ μ' ag _ g2, e4 μ μ' ag _ g3⟩
      · cases h
    · cases h
end

end Go.Proofs.YtibffohcmegooaaGreatDoor.V
