/- The small machine's reads, comparisons and address computations agree with the model's. Conditions: none. -/
import Derived.Test.YtibffohcmegooaaGreatDoorVd
import Derived.Laws.Strings2
import Derived.Laws.Cover3
import Derived.Laws.Pointers
import Derived.Lib.Strings
namespace Go.Proofs.YtibffohcmegooaaGreatDoor.V
set_option linter.all false
open Go

section
variable {P : Program} {Z : AH} {G n : Nat} {μ : Mu} {env : T (Option Value)} {a : Act} {h : AH} {w : World}

theorem run_isAgg {t : TypeId} {b : Bool} (hb : isAggB P t = some b) : (isAgg t).run P w = .ok b w := by
  unfold isAggB at hb
  unfold isAgg
  split at hb
  · rename_i hu; cases hb; simp [run_underlying hu]
  · rename_i hu; cases hb; simp [run_underlying hu]
  · rename_i d h1 h2 hu
    cases hb
    simp only [Sem.run_bind, run_underlying hu, Result.andThen_ok]
    cases d <;> first | rfl | exact absurd rfl (h1 _) | exact absurd rfl (h2 _ _)
  · cases hb

theorem run_sizeOf {t : TypeId} {k : Nat} (hb : szOf P t = some k) : (sizeOf t).run P w = .ok k w := by
  unfold szOf at hb
  rw [Option.map_eq_some_iff] at hb
  obtain ⟨i, hi, rfl⟩ := hb
  simp [sizeOf, typeInfo, hi]

theorem partB_ok {t : TypeId} {c c' : Array Value} {o : Nat} {v : Value} (hv : partB P t c o = some v) (hc : VRL μ c.toList c'.toList) :
    ∃ v', (part t c' o).run P w = .ok v' w ∧ VR μ v v' := by
  unfold partB at hv
  split at hv
  · rename_i k hb hs
    split at hv
    · simp only [Option.some.injEq] at hv
      subst hv
      refine ⟨.agg (c'.extract o (o + k)), by simp [part, run_isAgg hb, run_sizeOf hs], VR.agg_mk ?_⟩
      simp only [Array.toList_extract, List.extract_eq_take_drop]
      rw [show o + k - o = k from by omega]
      exact (hc.drop _).take _
    · cases hv
  · rename_i k hb hs
    obtain ⟨v', hv', hr⟩ := hc.at (k := o) (v := v) (by simpa using hv)
    refine ⟨v', ?_, hr⟩
    have : c'[o]? = some v' := by simpa using hv'
    simp [part, run_isAgg hb, this]
  · cases hv

theorem cells_list {b : Nat} : ∀ (l : List Value) (A : Nat), (∀ (k : Nat) (v : Value), l[k]? = some v → ∃ v', w.cell? ⟨b, A + k, none⟩ = some v' ∧ VR μ v v') →
    ∃ l', VRL μ l l' ∧ ∀ (k : Nat) (v' : Value), l'[k]? = some v' → w.cell? ⟨b, A + k, none⟩ = some v'
  | [], A, _ => ⟨[], VRL.nil, by simp⟩
  | v :: vs, A, hh => by
    obtain ⟨v', hv, hr⟩ := hh 0 v (by simp)
    obtain ⟨l', hl, hc⟩ := cells_list vs (A + 1) (fun k u hu => by
      obtain ⟨u', h1, h2⟩ := hh (k + 1) u (by simpa using hu)
      exact ⟨u', by rw [show A + 1 + k = A + (k + 1) from by omega]; exact h1, h2⟩)
    refine ⟨v' :: l', VRL.cons hr hl, ?_⟩
    intro k u hu
    cases k with
    | zero => simp at hu; subst hu; exact hv
    | succ k =>
      have := hc k u (by simpa using hu)
      rw [show A + (k + 1) = A + 1 + k from by omega]; exact this

theorem run_loadCellsFrom (b o : Nat) : ∀ (vs : List Value) (i : Nat) (acc : Array Value), (∀ (k : Nat) (v : Value), vs[k]? = some v → w.cell? ⟨b, o + i + k, none⟩ = some v) →
    (loadCellsFrom ⟨b, o, none⟩ i vs.length acc).run P w = .ok (acc ++ vs.toArray) w
  | [], i, acc, _ => by simp [loadCellsFrom]
  | v :: vs, i, acc, hh => by
    have h0 := hh 0 v (by simp)
    simp only [Nat.add_zero] at h0
    simp only [List.length_cons, loadCellsFrom, Addr.add_lit, Sem.run_bind, run_load, h0, Result.andThen_ok]
    rw [run_loadCellsFrom b o vs (i + 1) (acc.push v) (fun k u hu => by
      have := hh (k + 1) u (by simpa using hu)
      rw [show o + (i + 1) + k = o + i + (k + 1) from by omega]; exact this)]
    simp

/-- A row of cells that an abstract block tells. -/
theorem row_of (x : HR Z G μ h w) {i : Nat} {c : Array Value} {g : Gw} (hi : h.get i = some (.cells c g)) (o k : Nat) (hle : o + k ≤ c.size) :
    ∃ l l', μ i = some l ∧ l.e = g.e ∧ l'.length = k ∧ VRL μ ((c.toList.drop o).take k) l' ∧ ∀ (j : Nat) (v' : Value), l'[j]? = some v' → w.cell? ⟨l.b, l.o + o + j, none⟩ = some v' := by
  obtain ⟨l, hl, hb⟩ := x.blk i _ hi
  obtain ⟨he, _, _, hc, _⟩ := hb
  have hlen : c.toList.length = c.size := by simp
  obtain ⟨l', h1, h2⟩ := cells_list (w := w) (μ := μ) (b := l.b) ((c.toList.drop o).take k) (l.o + o) (fun j v hv => by
    rw [List.getElem?_take] at hv
    split at hv
    · rw [List.getElem?_drop] at hv
      have hv' : c[o + j]? = some v := by simpa using hv
      obtain ⟨v', h1, h2⟩ := hc _ _ hv'
      exact ⟨v', by rw [Nat.add_assoc]; exact h1, h2⟩
    · cases hv)
  refine ⟨l, l', hl, he, ?_, h1, h2⟩
  rw [← h1.length]
  simp; omega

theorem loadB_ok (x : HR Z G μ h w) {t : TypeId} {p p' v : Value} (hv : loadB P h t p = some v) (hp : VR μ p p') :
    ∃ v', (Instr.loadAt t p').run P w = .ok v' w ∧ VR μ v v' := by
  unfold loadB at hv
  split at hv
  case h_2 => cases hv
  rename_i ad
  split at hv
  case h_2 => cases hv
  rename_i c g hsp hi
  simp only [VR] at hp
  obtain ⟨l, _, hl, rfl⟩ := hp
  unfold partB at hv
  split at hv
  · rename_i k hb hs
    split at hv
    · rename_i hle
      simp only [Option.some.injEq] at hv
      subst hv
      obtain ⟨l2, l', hl2, _, hlen, hr, hc⟩ := row_of x hi ad.off k (ble_iff.1 hle)
      rw [hl] at hl2; cases hl2
      refine ⟨.agg l'.toArray, ?_, VR.agg_mk ?_⟩
      · simp only [Instr.loadAt, Instr.sureAddr, loadVar, Sem.run_bind, Sem.run_pure, Result.andThen_ok, run_isAgg hb, if_true, run_sizeOf hs, loadCells]
        have := run_loadCellsFrom (P := P) (w := w) l.b (l.o + ad.off) l' 0 #[] (fun j v' hv' => by simpa using hc j v' hv')
        rw [hlen] at this
        rw [this]
        simp
      · exact hr
    · cases hv
  · rename_i k hb hs
    obtain ⟨l2, hl2, hbr⟩ := x.blk _ _ hi
    rw [hl] at hl2; cases hl2
    obtain ⟨v', hc, hr⟩ := hbr.2.2.2.1 _ _ (by simpa using hv)
    refine ⟨v', ?_, hr⟩
    simp [Instr.loadAt, Instr.sureAddr, loadVar, run_isAgg hb, hc]
  · cases hv

theorem natIn_ok {v v' : Value} {y i : Nat} (hn : natIn v y = some i) (hv : VR μ v v') : i ≤ y ∧ ∃ k, v' = .int k (Int.ofNat i) := by
  unfold natIn at hn
  split at hn
  · rename_i k j
    split at hn
    · rename_i hle
      cases hn
      simp only [VR] at hv
      exact ⟨ble_iff.1 hle, k, hv⟩
    · cases hn
  · cases hn

theorem run_sliceBound {k : IntKind} {i y : Nat} (code : BoundsCode) (hle : i ≤ y) : (Instr.sliceBound (.int k (Int.ofNat i)) y code).run P w = .ok i w := by
  have h1 : (0 : Int) ≤ Int.ofNat i ∧ Int.ofNat i ≤ (y : Int) := ⟨by simp, by simp; omega⟩
  simp only [Instr.sliceBound, asIntOf, Sem.run_bind, Sem.run_pure, Result.andThen_ok]
  rw [if_pos h1]
  rfl

/-- Two values, or none. -/
def VRo (μ : Mu) : Option Value → Option Value → Prop
  | none, v => v = none
  | some x, v => ∃ y, v = some y ∧ VR μ x y

theorem boundsB_ok {len cap cap' l r : Nat} {lo hi lo' hi' : Option Value} (isSlice : Bool) (hb : boundsB len cap lo hi = some (l, r)) (h1 : VRo μ lo lo') (h2 : VRo μ hi hi') (hcap : cap ≤ cap') :
    (Instr.sliceBounds isSlice len cap' lo' hi' none).run P w = .ok (l, r, cap') w ∧ l ≤ r ∧ (hi = none → r = len) ∧ (hi ≠ none → r ≤ cap) := by
  cases hi with
  | none =>
    simp only [VRo] at h2
    subst h2
    simp only [boundsB] at hb
    cases lo with
    | none =>
      simp only [VRo] at h1
      subst h1
      simp only [lowB, Option.some.injEq, Prod.mk.injEq] at hb
      obtain ⟨rfl, rfl⟩ := hb
      exact ⟨rfl, Nat.zero_le _, fun _ => rfl, fun hne => absurd rfl hne⟩
    | some u =>
      obtain ⟨u', rfl, hu⟩ := h1
      simp only [lowB, Option.map_eq_some_iff, Prod.mk.injEq] at hb
      obtain ⟨j, hj, rfl, rfl⟩ := hb
      obtain ⟨hle, k, rfl⟩ := natIn_ok hj hu
      refine ⟨?_, hle, fun _ => rfl, fun hne => absurd rfl hne⟩
      simp only [Instr.sliceBounds, Sem.run_bind, Sem.run_pure, Result.andThen_ok, Option.isSome_none, Bool.false_eq_true, if_false]
      rw [run_sliceBound _ hle]
      rfl
  | some v =>
    obtain ⟨v', rfl, hv⟩ := h2
    simp only [boundsB] at hb
    cases hn : natIn v cap with
    | none => simp [hn] at hb
    | some q =>
      simp only [hn] at hb
      obtain ⟨hle, k, rfl⟩ := natIn_ok hn hv
      have e1 := fun code => run_sliceBound (P := P) (w := w) (k := k) code (Nat.le_trans hle hcap)
      cases lo with
      | none =>
        simp only [VRo] at h1
        subst h1
        simp only [lowB, Option.some.injEq, Prod.mk.injEq] at hb
        obtain ⟨rfl, rfl⟩ := hb
        refine ⟨?_, Nat.zero_le _, (fun hne => by cases hne), fun _ => hle⟩
        simp only [Instr.sliceBounds, Sem.run_bind, Sem.run_pure, Result.andThen_ok]
        rw [e1]
        rfl
      | some u =>
        obtain ⟨u', rfl, hu⟩ := h1
        simp only [lowB, Option.map_eq_some_iff, Prod.mk.injEq] at hb
        obtain ⟨j, hj, rfl, rfl⟩ := hb
        obtain ⟨hle2, k2, rfl⟩ := natIn_ok hj hu
        refine ⟨?_, hle2, (fun hne => by cases hne), fun _ => hle⟩
        simp only [Instr.sliceBounds, Sem.run_bind, Sem.run_pure, Result.andThen_ok, Option.isSome_none, Bool.false_eq_true, if_false]
        rw [e1]
        simp only [Result.andThen_ok]
        rw [run_sliceBound _ hle2]
        rfl

end
end Go.Proofs.YtibffohcmegooaaGreatDoor.V

namespace Go.Proofs.YtibffohcmegooaaGreatDoor.V
set_option linter.all false
open Go

section
variable {P : Program} {Z : AH} {G n : Nat} {μ : Mu} {env : T (Option Value)} {a : Act} {h : AH} {w : World}

theorem grow_of (x : HR Z G μ h w) {i : Nat} {c : Array Value} {g : Gw} {l : Loc} (hi : h.get i = some (.cells c g)) (hl : μ i = some l) : l.e = g.e := by
  obtain ⟨l', hl', hb⟩ := x.blk i _ hi
  rw [hl] at hl'; cases hl'
  exact hb.1

theorem sub_list (s : ByteArray) (l r : Nat) : (⟨((s.data.toList.drop l).take (r - l)).toArray⟩ : ByteArray) = s.extract l r := by
  have := Lib.extract_toList s l r
  rw [ByteArray.toList_eq] at this
  rw [← this]

theorem sliceB_ok (x : HR Z G μ h w) {t : TypeId} {u u' v : Value} {lo hi lo' hi' : Option Value} (hv : sliceB P h t u lo hi = some v) (hu : VR μ u u') (h1 : VRo μ lo lo') (h2 : VRo μ hi hi') :
    ∃ v', (Instr.sliceAt t u' lo' hi' none).run P w = .ok v' w ∧ VR μ v v' := by
  unfold sliceB at hv
  split at hv
  · rename_i s hun
    simp only [Option.map_eq_some_iff] at hv
    obtain ⟨⟨l, r⟩, hb, rfl⟩ := hv
    simp only [VR] at hu
    subst hu
    obtain ⟨hrun, _⟩ := boundsB_ok (P := P) (w := w) false hb h1 h2 (Nat.le_refl _)
    rw [← size_list] at hrun
    refine ⟨.string (s.extract l r), ?_, ?_⟩
    · simp only [Instr.sliceAt, Instr.slice, Sem.run_bind, run_underlying hun, Result.andThen_ok, Option.isSome_none, Bool.false_eq_true, if_false, hrun]
      rfl
    · simp only [VR, sub_list]
  · rename_i e k c hun
    split at hv
    case h_2 => cases hv
    rename_i size l r hs hb
    simp only [Option.some.injEq] at hv
    subst hv
    simp only [VR] at hu
    subst hu
    obtain ⟨hrun, _⟩ := boundsB_ok (P := P) (w := w) true hb h1 h2 (Nat.le_refl _)
    have hsz := run_sizeOf (P := P) (w := w) hs
    refine ⟨.slice none (r - l) (c - l), ?_, by simp only [VR]⟩
    simp only [Instr.sliceAt, Instr.slice, Sem.run_bind, run_underlying hun, Result.andThen_ok, hrun, hsz]
    simp
  · rename_i e ad k c hun
    split at hv
    · rename_i size l r cs hs hb hi
      split at hv
      case h_2 => cases hv
      rename_i hsp
      simp only [Option.some.injEq] at hv
      subst hv
      simp only [VR] at hu
      obtain ⟨L, c', _, hL, rfl, h0, _⟩ := hu
      have he := grow_of x hi hL
      have := h0 he
      subst this
      obtain ⟨hrun, _⟩ := boundsB_ok (P := P) (w := w) true hb h1 h2 (Nat.le_refl _)
      have hsz := run_sizeOf (P := P) (w := w) hs
      refine ⟨.slice (some (if c' = l then ⟨L.b, L.o + ad.off, none⟩ else ⟨L.b, L.o + ad.off + l * size, none⟩)) (r - l) (c' - l), ?_, ?_⟩
      · simp only [Instr.sliceAt, Instr.slice, Sem.run_bind, run_underlying hun, Result.andThen_ok, hrun, hsz, Option.map_some, Addr.add_lit]
        split <;> rfl
      · by_cases hcl : c' = l
        · rw [beq_iff.2 hcl, if_pos hcl]
          simp only [VR]
          exact ⟨L, c' - l, hsp, hL, rfl, fun _ => rfl, fun hne => absurd he hne⟩
        · have : Nat.beq c' l = false := by
            cases hq : Nat.beq c' l with
            | false => rfl
            | true => exact absurd (beq_iff.1 hq) hcl
          rw [this, if_neg hcl]
          simp only [VR]
          exact ⟨L, c' - l, trivial, hL, by rw [Nat.add_assoc], fun _ => rfl, fun hne => absurd he hne⟩
    · rename_i size l r cs g tt hs hb hi
      split at hv
      case h_2 => cases hv
      rename_i hsp hg hlc hrc
      have hg' := beq_iff.1 hg
      have hlc' := blt_iff.1 hlc
      have hrc' := ble_iff.1 hrc
      simp only [Option.some.injEq] at hv
      subst hv
      simp only [VR] at hu
      obtain ⟨L, c', _, hL, rfl, h0, h3⟩ := hu
      have he := grow_of x hi hL
      simp only [Gw.e] at he
      have hgne : L.e ≠ 0 := by omega
      obtain ⟨hnc, hcc, hroom⟩ := h3 hgne
      obtain ⟨hrun, hlr, _⟩ := boundsB_ok (P := P) (w := w) true hb h1 h2 hcc
      have hsz := run_sizeOf (P := P) (w := w) hs
      have hne : ¬ c' = l := by omega
      refine ⟨.slice (some ⟨L.b, L.o + ad.off + l * size, none⟩) (r - l) (c' - l), ?_, ?_⟩
      · simp only [Instr.sliceAt, Instr.slice, Sem.run_bind, run_underlying hun, Result.andThen_ok, hrun, hsz, Option.map_some, Addr.add_lit, if_neg hne]
        rfl
      · simp only [VR]
        refine ⟨L, c' - l, trivial, hL, by rw [Nat.add_assoc], fun h => absurd h hgne, fun _ => ⟨by split <;> omega, by split <;> omega, ?_⟩⟩
        rw [he, hg'] at hroom ⊢
        have : c' * size = l * size + (c' - l) * size := by rw [← Nat.add_mul]; congr 1; omega
        omega
    · cases hv
  · rename_i m e ad hun
    split at hv
    · rename_i size l r cs hs hb hi
      split at hv
      case h_2 => cases hv
      rename_i hsp
      simp only [Option.some.injEq] at hv
      subst hv
      simp only [VR] at hu
      obtain ⟨L, _, hL, rfl⟩ := hu
      have he := grow_of x hi hL
      obtain ⟨hrun, _⟩ := boundsB_ok (P := P) (w := w) false hb h1 h2 (Nat.le_refl _)
      have hsz := run_sizeOf (P := P) (w := w) hs
      refine ⟨.slice (some (if m = l then ⟨L.b, L.o + ad.off, none⟩ else ⟨L.b, L.o + ad.off + l * size, none⟩)) (r - l) (m - l), ?_, ?_⟩
      · simp only [Instr.sliceAt, Instr.sureAddr, Sem.run_bind, run_underlying hun, Sem.run_pure, Result.andThen_ok, hrun, hsz, Addr.add_lit]
      · by_cases hcl : m = l
        · rw [beq_iff.2 hcl, if_pos hcl]
          simp only [VR]
          exact ⟨L, m - l, hsp, hL, rfl, fun _ => rfl, fun hne => absurd he hne⟩
        · have : Nat.beq m l = false := by
            cases hq : Nat.beq m l with
            | false => rfl
            | true => exact absurd (beq_iff.1 hq) hcl
          rw [this, if_neg hcl]
          simp only [VR]
          exact ⟨L, m - l, trivial, hL, by rw [Nat.add_assoc], fun _ => rfl, fun hne => absurd he hne⟩
    · cases hv
  · cases hv

theorem fieldAddrB_ok {s : TypeId} {u u' v : Value} {f : Nat} (hv : fieldAddrB P s u f = some v) (hu : VR μ u u') :
    ∃ v', (Instr.fieldAt s u' f).run P w = .ok v' w ∧ VR μ v v' := by
  unfold fieldAddrB at hv
  split at hv
  case h_2 => cases hv
  rename_i fs ad hun
  split at hv
  case h_2 => cases hv
  rename_i fd hf hsp
  split at hv
  case h_2 => cases hv
  rename_i k hs
  simp only [Option.some.injEq] at hv
  subst hv
  simp only [VR] at hu
  obtain ⟨L, _, hL, rfl⟩ := hu
  have hsz := run_sizeOf (P := P) (w := w) hs
  refine ⟨.pointer (some ⟨L.b, L.o + ad.off + fd.offset, none⟩), ?_, ?_⟩
  · simp only [Instr.fieldAt, Instr.sureAddr, fieldPlace, Sem.run_bind, run_underlying hun, Result.andThen_ok, hf, Sem.run_pure, hsz, if_neg (Nat.succ_ne_zero k), Addr.add_lit]
  · simp only [VR]
    exact ⟨L, trivial, hL, by rw [Nat.add_assoc]⟩

theorem fieldB_ok {t : TypeId} {u u' v : Value} {f : Nat} (hv : fieldB P t u f = some v) (hu : VR μ u u') :
    ∃ v', (Instr.field t u' f).run P w = .ok v' w ∧ VR μ v v' := by
  unfold fieldB at hv
  split at hv
  case h_2 => cases hv
  rename_i fs c hun
  split at hv
  case h_2 => cases hv
  rename_i fd hf
  obtain ⟨c', rfl, hc⟩ := VR.agg_inv hu
  obtain ⟨v', hp, hr⟩ := partB_ok (w := w) hv hc
  refine ⟨v', ?_, hr⟩
  simp only [Instr.field, Sem.run_bind, run_underlying hun, Result.andThen_ok, hf, asAgg, Sem.run_pure, hp]

theorem indexAddrB_ok {t : TypeId} {u u' i i' v : Value} (hv : indexAddrB P t u i = some v) (hu : VR μ u u') (hi : VR μ i i') :
    ∃ v', (Instr.indexAt t u' i').run P w = .ok v' w ∧ VR μ v v' := by
  unfold indexAddrB at hv
  split at hv
  case h_2 => cases hv
  rename_i kd j
  simp only [VR] at hi
  subst hi
  split at hv
  · rename_i e ad m c hun
    split at hv
    case h_2 => cases hv
    rename_i size hlt hs hsp
    simp only [Option.some.injEq] at hv
    subst hv
    simp only [VR] at hu
    obtain ⟨L, c', _, hL, rfl, _⟩ := hu
    have hsz := run_sizeOf (P := P) (w := w) hs
    have hj : (0 : Int) ≤ Int.ofNat j ∧ Int.ofNat j < (m : Int) := ⟨by simp, by have := blt_iff.1 hlt; simp; omega⟩
    refine ⟨.pointer (some ⟨L.b, L.o + ad.off + j * size, none⟩), ?_, ?_⟩
    · simp only [Instr.indexAt, asIntOf, Sem.run_bind, Sem.run_pure, run_underlying hun, Result.andThen_ok, if_pos hj, hsz, Addr.add_lit]
      rfl
    · simp only [VR]
      exact ⟨L, trivial, hL, by rw [Nat.add_assoc]⟩
  · rename_i m e ad hun
    split at hv
    case h_2 => cases hv
    rename_i size hlt hs hsp
    simp only [Option.some.injEq] at hv
    subst hv
    simp only [VR] at hu
    obtain ⟨L, _, hL, rfl⟩ := hu
    have hsz := run_sizeOf (P := P) (w := w) hs
    have hj : (0 : Int) ≤ Int.ofNat j ∧ Int.ofNat j < (m : Int) := ⟨by simp, by have := blt_iff.1 hlt; simp; omega⟩
    refine ⟨.pointer (some ⟨L.b, L.o + ad.off + j * size, none⟩), ?_, ?_⟩
    · simp only [Instr.indexAt, Instr.sureAddr, asIntOf, Sem.run_bind, Sem.run_pure, run_underlying hun, Result.andThen_ok, if_pos hj, hsz, Addr.add_lit]
      rfl
    · simp only [VR]
      exact ⟨L, trivial, hL, by rw [Nat.add_assoc]⟩
  · cases hv

theorem indexB_ok {t : TypeId} {u u' i i' v : Value} (hv : indexB P t u i = some v) (hu : VR μ u u') (hi : VR μ i i') :
    ∃ v', (Instr.index t u' i').run P w = .ok v' w ∧ VR μ v v' := by
  unfold indexB at hv
  split at hv
  case h_2 => cases hv
  rename_i kd j
  simp only [VR] at hi
  subst hi
  split at hv
  · rename_i s hun
    rw [Option.map_eq_some_iff] at hv
    obtain ⟨b, hb, rfl⟩ := hv
    simp only [VR] at hu
    subst hu
    have hb' : s[(Int.ofNat j).toNat]? = some b := by
      show s[j]? = some b
      have hlt : j < s.data.toList.length := (List.getElem?_eq_some_iff.1 hb).1
      have hlt' : j < s.size := by rw [size_list]; exact hlt
      rw [getElem?_pos s j hlt']
      congr 1
      have := (List.getElem?_eq_some_iff.1 hb).2
      rw [← this]
      simp [ByteArray.getElem_eq_getElem_data]
    refine ⟨.int .u8 b.toNat, ?_, by simp only [VR]⟩
    have h0 : (0 : Int) ≤ Int.ofNat j := by simp
    simp only [Instr.index, asIntOf, Sem.run_bind, Sem.run_pure, run_underlying hun, Result.andThen_ok, if_pos h0, hb']
  · rename_i m e c hun
    split at hv
    case h_2 => cases hv
    rename_i size hlt hs
    obtain ⟨c', rfl, hc⟩ := VR.agg_inv hu
    obtain ⟨v', hp, hr⟩ := partB_ok (w := w) hv hc
    have hsz := run_sizeOf (P := P) (w := w) hs
    have hj : (0 : Int) ≤ Int.ofNat j ∧ Int.ofNat j < (m : Int) := ⟨by simp, by have := blt_iff.1 hlt; simp; omega⟩
    refine ⟨v', ?_, hr⟩
    simp only [Instr.index, asIntOf, Sem.run_bind, Sem.run_pure, run_underlying hun, Result.andThen_ok, if_pos hj, hsz]
    exact hp
  · cases hv

end
end Go.Proofs.YtibffohcmegooaaGreatDoor.V
