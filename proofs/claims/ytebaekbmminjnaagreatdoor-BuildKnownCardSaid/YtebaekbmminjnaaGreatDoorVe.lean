/- The small machine's reads, comparisons and address computations agree with the model's. Conditions: none. -/
import Derived.Test.YtebaekbmminjnaaGreatDoorVd
import Derived.Laws.Strings2
import Derived.Laws.Cover3
import Derived.Laws.Pointers
import Derived.Lib.Strings
namespace Go.Proofs.YtebaekbmminjnaaGreatDoor.V
set_option linter.all false
open Go

section
variable {P : Program} {Z : AH} {G n : Nat} {μ : Mu} {env : T (Option Value)} {a : Act} {h : AH} {w : World}

theorem run_isAgg {t : TypeId} {b : Bool} (hb : isAggB P t = some b) : (isAgg t).run P w = .ok b w := by
  unfold isAggB at hb
  unfold isAgg
  split at hb
  · rename_i hu; cases hb; simp [run_underlying hu]
  · rename_i hu; cases hb; simp [run_underlying hu]
  · rename_i d h1 h2 hu
    cases hb
    simp only [Sem.run_bind, run_underlying hu, Result.andThen_ok]
    cases d <;> first | rfl | exact absurd rfl (h1 _) | exact absurd rfl (h2 _ _)
  · cases hb

theorem run_sizeOf {t : TypeId} {k : Nat} (hb : szOf P t = some k) : (sizeOf t).run P w = .ok k w := by
  unfold szOf at hb
  rw [Option.map_eq_some_iff] at hb
  obtain ⟨i, hi, rfl⟩ := hb
  simp [sizeOf, typeInfo, hi]

theorem partB_ok {t : TypeId} {c c' : Array Value} {o : Nat} {v : Value} (hv : partB P t c o = some v) (hc : VRL μ c.toList c'.toList) :
    ∃ v', (part t c' o).run P w = .ok v' w ∧ VR μ v v' := by
  unfold partB at hv
  split at hv
  · rename_i k hb hs
    split at hv
    · simp only [Option.some.injEq] at hv
      subst hv
      refine ⟨.agg (c'.extract o (o + k)), by simp [part, run_isAgg hb, run_sizeOf hs], VR.agg_mk ?_⟩
      simp only [Array.toList_extract, List.extract_eq_take_drop]
      rw [show o + k - o = k from by omega]
      exact (hc.drop _).take _
    · cases hv
  · rename_i k hb hs
    obtain ⟨v', hv', hr⟩ := hc.at (k := o) (v := v) (by simpa using hv)
    refine ⟨v', ?_, hr⟩
    have : c'[o]? = some v' := by simpa using hv'
    simp [part, run_isAgg hb, this]
  · cases hv

theorem cells_list {b : Nat} : ∀ (l : List Value) (A : Nat), (∀ (k : Nat) (v : Value), l[k]? = some v → ∃ v', w.cell? ⟨b, A + k, none⟩ = some v' ∧ VR μ v v') →
    ∃ l', VRL μ l l' ∧ ∀ (k : Nat) (v' : Value), l'[k]? = some v' → w.cell? ⟨b, A + k, none⟩ = some v'
  | [], A, _ => ⟨[], VRL.nil, by simp⟩
  | v :: vs, A, hh => by
    obtain ⟨v', hv, hr⟩ := hh 0 v (by simp)
    obtain ⟨l', hl, hc⟩ := cells_list vs (A + 1) (fun k u hu => by
      obtain ⟨u', h1, h2⟩ := hh (k + 1) u (by simpa using hu)
      exact ⟨u', by rw [show A + 1 + k = A + (k + 1) from by omega]; exact h1, h2⟩)
    refine ⟨v' :: l', VRL.cons hr hl, ?_⟩
    intro k u hu
    cases k with
    | zero => simp at hu; subst hu; exact hv
    | succ k =>
      have := hc k u (by simpa using hu)
      rw [show A + (k + 1) = A + 1 + k from by omega]; exact this

theorem run_loadCellsFrom (b o : Nat) : ∀ (vs : List Value) (i : Nat) (acc : Array Value), (∀ (k : Nat) (v : Value), vs[k]? = some v → w.cell? ⟨b, o + i + k, none⟩ = some v) →
    (loadCellsFrom ⟨b, o, none⟩ i vs.length acc).run P w = .ok (acc ++ vs.toArray) w
  | [], i, acc, _ => by simp [loadCellsFrom]
  | v :: vs, i, acc, hh => by
    have h0 := hh 0 v (by simp)
    simp only [Nat.add_zero] at h0
    simp only [List.length_cons, loadCellsFrom, Addr.add_lit, Sem.run_bind, run_load, h0, Result.andThen_ok]
    rw [run_loadCellsFrom b o vs (i + 1) (acc.push v) (fun k u hu => by
      have := hh (k + 1) u (by simpa using hu)
      rw [show o + (i + 1) + k = o + i + (k + 1) from by omega]; exact this)]
    simp

/-- A row of cells that an abstract block tells. -/
theorem row_of (x : HR Z G μ h w) {i : Nat} {c : Array Value} {g : Gw} (hi : h.get i = some (.cells c g)) (o k : Nat) (hle : o + k ≤ c.size) :
    ∃ l l', μ i = some l ∧ l.e = g.e ∧ l'.length = k ∧ VRL μ ((c.toList.drop o).take k) l' ∧ ∀ (j : Nat) (v' : Value), l'[j]? = some v' → w.cell? ⟨l.b, l.o + o + j, none⟩ = some v' := by
  obtain ⟨l, hl, hb⟩ := x.blk i _ hi
  obtain ⟨he, _, _, hc, _⟩ := hb
  have hlen : c.toList.length = c.size := by simp
  obtain ⟨l', h1, h2⟩ := cells_list (w := w) (μ := μ) (b := l.b) ((c.toList.drop o).take k) (l.o + o) (fun j v hv => by
    rw [List.getElem?_take] at hv
    split at hv
    · rw [List.getElem?_drop] at hv
      have hv' : c[o + j]? = some v := by simpa using hv
      obtain ⟨v', h1, h2⟩ := hc _ _ hv'
      exact ⟨v', by rw [Nat.add_assoc]; exact h1, h2⟩
    · cases hv)
  refine ⟨l, l', hl, he, ?_, h1, h2⟩
  rw [← h1.length]
  simp; omega

theorem loadB_ok (x : HR Z G μ h w) {t : TypeId} {p p' v : Value} (hv : loadB P h t p = some v) (hp : VR μ p p') :
    ∃ v', (Instr.loadAt t p').run P w = .ok v' w ∧ VR μ v v' := by
  unfold loadB at hv
  split at hv
  case h_2 => cases hv
  rename_i ad
  split at hv
  case h_2 => cases hv
  rename_i c g hsp hi
  simp only [VR] at hp
  obtain ⟨l, _, hl, rfl⟩ := hp
  unfold partB at hv
  split at hv
  · rename_i k hb hs
    split at hv
    · rename_i hle
      simp only [Option.some.injEq] at hv
      subst hv
      obtain ⟨l2, l', hl2, _, hlen, hr, hc⟩ := row_of x hi ad.off k (ble_iff.1 hle)
      rw [hl] at hl2; cases hl2
      refine ⟨.agg l'.toArray, ?_, VR.agg_mk ?_⟩
      · simp only [Instr.loadAt, Instr.sureAddr, loadVar, Sem.run_bind, Sem.run_pure, Result.andThen_ok, run_isAgg hb, if_true, run_sizeOf hs, loadCells]
        have := run_loadCellsFrom (P := P) (w := w) l.b (l.o + ad.off) l' 0 #[] (fun j v' hv' => by simpa using hc j v' hv')
        rw [hlen] at this
        rw [this]
        simp
      · exact hr
    · cases hv
  · rename_i k hb hs
    obtain ⟨l2, hl2, hbr⟩ := x.blk _ _ hi
    rw [hl] at hl2; cases hl2
    obtain ⟨v', hc, hr⟩ := hbr.2.2.2.1 _ _ (by simpa using hv)
    refine ⟨v', ?_, hr⟩
    simp [Instr.loadAt, Instr.sureAddr, loadVar, run_isAgg hb, hc]
  · cases hv

theorem natIn_ok {v v' : Value} {y i : Nat} (hn : natIn v y = some i) (hv : VR μ v v') : i ≤ y ∧ ∃ k, v' = .int k (Int.ofNat i) := by
  unfold natIn at hn
  split at hn
  · rename_i k j
    split at hn
    · rename_i hle
      cases hn
      simp only [VR] at hv
      exact ⟨ble_iff.1 hle, k, hv⟩
    · cases hn
  · cases hn

theorem run_sliceBound {k : IntKind} {i y : Nat} (code : BoundsCode) (hle : i ≤ y) : (Instr.sliceBound (.int k (Int.ofNat i)) y code).run P w = .ok i w := by
  have h1 : (0 : Int) ≤ Int.ofNat i ∧ Int.ofNat i ≤ (y : Int) := ⟨by simp, by simp; omega⟩
  simp only [Instr.sliceBound, asIntOf, Sem.run_bind, Sem.run_pure, Result.andThen_ok]
  rw [if_pos h1]
  rfl

/-- Two values, or none. -/
def VRo (μ : Mu) : Option Value → Option Value → Prop
  | none, v => v = none
  | some x, v => ∃ y, v = some y ∧ VR μ x y

theorem boundsB_ok {len cap cap' l r : Nat} {lo hi lo' hi' : Option Value} (isSlice : Bool) (hb : boundsB len cap lo hi = some (l, r)) (h1 : VRo μ lo lo') (h2 : VRo μ hi hi') (hcap : cap ≤ cap') :
    (Instr.sliceBounds isSlice len cap' lo' hi' none).run P w = .ok (l, r, cap') w ∧ l ≤ r ∧ (hi = none → r = len) ∧ (hi ≠ none → r ≤ cap) := by
  cases hi with
  | none =>
    simp only [VRo] at h2
    subst h2
    simp only [boundsB] at hb
    cases lo with
    | none =>
      simp only [VRo] at h1
      subst h1
      simp only [lowB, Option.some.injEq, Prod.mk.injEq] at hb
      obtain ⟨rfl, rfl⟩ := hb
      exact ⟨rfl, Nat.zero_le _, fun _ => rfl, fun hne => absurd rfl hne⟩
    | some u =>
      obtain ⟨u', rfl, hu⟩ := h1
      simp only [lowB, Option.map_eq_some_iff, Prod.mk.injEq] at hb
      obtain ⟨j, hj, rfl, rfl⟩ := hb
      obtain ⟨hle, k, rfl⟩ := natIn_ok hj hu
      refine ⟨?_, hle, fun _ => rfl, fun hne => absurd rfl hne⟩
      simp only [Instr.sliceBounds, Sem.run_bind, Sem.run_pure, Result.andThen_ok, Option.isSome_none, Bool.false_eq_true, if_false]
      rw [run_sliceBound _ hle]
      rfl
  | some v =>
    obtain ⟨v', rfl, hv⟩ := h2
    simp only [boundsB] at hb
    cases hn : natIn v cap with
    | none => simp [hn] at hb
    | some q =>
      simp only [hn] at hb
      obtain ⟨hle, k, rfl⟩ := natIn_ok hn hv
      have e1 := fun code => run_sliceBound (P := P) (w := w) (k := k) code (Nat.le_trans hle hcap)
      cases lo with
      | none =>
        simp only [VRo] at h1
        subst h1
        simp only [lowB, Option.some.injEq, Prod.mk.injEq] at hb
        obtain ⟨rfl, rfl⟩ := hb
        refine ⟨?_, Nat.zero_le _, (fun hne => by cases hne), fun _ => hle⟩
        simp only [Instr.sliceBounds, Sem.run_bind, Sem.run_pure, Result.andThen_ok]
        rw [e1]
        rfl
      | some u =>
        obtain ⟨u', rfl, hu⟩ := h1
        simp only [lowB, Option.map_eq_some_iff, Prod.mk.injEq] at hb
        obtain ⟨j, hj, rfl, rfl⟩ := hb
        obtain ⟨hle2, k2, rfl⟩ := natIn_ok hj hu
        refine ⟨?_, hle2, (fun hne => by cases hne), fun _ => hle⟩
        simp only [Instr.sliceBounds, Sem.run_bind, Sem.run_pure, Result.andThen_ok, Option.isSome_none, Bool.false_eq_true, if_false]
        rw [e1]
        simp only [Result.andThen_ok]
        rw [run_sliceBound _ hle2]
        rfl

end
end Go.Proofs.YtebaekbmminjnaaGreatDoor.V
