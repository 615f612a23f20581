/- The small machine's slices, fields, indexes, comparisons and conversions agree with the model's. Conditions: none. -/
import Derived.Test.YtebaekbmminjnaaGreatDoorVe
namespace Go.Proofs.YtebaekbmminjnaaGreatDoor.V
set_option linter.all false
open Go

section
variable {P : Program} {Z : AH} {G n : Nat} {μ : Mu} {env : T (Option Value)} {a : Act} {h : AH} {w : World}

theorem grow_of (x : HR Z G μ h w) {i : Nat} {c : Array Value} {g : Gw} {l : Loc} (hi : h.get i = some (.cells c g)) (hl : μ i = some l) : l.e = g.e := by
  obtain ⟨l', hl', hb⟩ := x.blk i _ hi
  rw [hl] at hl'; cases hl'
  exact hb.1

theorem sub_list (s : ByteArray) (l r : Nat) : (⟨((s.data.toList.drop l).take (r - l)).toArray⟩ : ByteArray) = s.extract l r := by
  have := Lib.extract_toList s l r
  rw [ByteArray.toList_eq] at this
  rw [← this]

theorem sliceB_ok (x : HR Z G μ h w) {t : TypeId} {u u' v : Value} {lo hi lo' hi' : Option Value} (hv : sliceB P h t u lo hi = some v) (hu : VR μ u u') (h1 : VRo μ lo lo') (h2 : VRo μ hi hi') :
    ∃ v', (Instr.sliceAt t u' lo' hi' none).run P w = .ok v' w ∧ VR μ v v' := by
  unfold sliceB at hv
  split at hv
  · rename_i s hun
    simp only [Option.map_eq_some_iff] at hv
    obtain ⟨⟨l, r⟩, hb, rfl⟩ := hv
    simp only [VR] at hu
    subst hu
    obtain ⟨hrun, _⟩ := boundsB_ok (P := P) (w := w) false hb h1 h2 (Nat.le_refl _)
    rw [← size_list] at hrun
    refine ⟨.string (s.extract l r), ?_, ?_⟩
    · simp only [Instr.sliceAt, Instr.slice, Sem.run_bind, run_underlying hun, Result.andThen_ok, Option.isSome_none, Bool.false_eq_true, if_false, hrun]
      rfl
    · simp only [VR, sub_list]
  · rename_i e k c hun
    split at hv
    case h_2 => cases hv
    rename_i size l r hs hb
    simp only [Option.some.injEq] at hv
    subst hv
    simp only [VR] at hu
    subst hu
    obtain ⟨hrun, _⟩ := boundsB_ok (P := P) (w := w) true hb h1 h2 (Nat.le_refl _)
    have hsz := run_sizeOf (P := P) (w := w) hs
    refine ⟨.slice none (r - l) (c - l), ?_, by simp only [VR]⟩
    simp only [Instr.sliceAt, Instr.slice, Sem.run_bind, run_underlying hun, Result.andThen_ok, hrun, hsz]
    simp
  · rename_i e ad k c hun
    split at hv
    · rename_i size l r cs hs hb hi
      split at hv
      case h_2 => cases hv
      rename_i hsp
      simp only [Option.some.injEq] at hv
      subst hv
      simp only [VR] at hu
      obtain ⟨L, c', _, hL, rfl, h0, _⟩ := hu
      have he := grow_of x hi hL
      have := h0 he
      subst this
      obtain ⟨hrun, _⟩ := boundsB_ok (P := P) (w := w) true hb h1 h2 (Nat.le_refl _)
      have hsz := run_sizeOf (P := P) (w := w) hs
      refine ⟨.slice (some (if c' = l then ⟨L.b, L.o + ad.off, none⟩ else ⟨L.b, L.o + ad.off + l * size, none⟩)) (r - l) (c' - l), ?_, ?_⟩
      · simp only [Instr.sliceAt, Instr.slice, Sem.run_bind, run_underlying hun, Result.andThen_ok, hrun, hsz, Option.map_some, Addr.add_lit]
        split <;> rfl
      · by_cases hcl : c' = l
        · rw [beq_iff.2 hcl, if_pos hcl]
          simp only [VR]
          exact ⟨L, c' - l, hsp, hL, rfl, fun _ => rfl, fun hne => absurd he hne⟩
        · have : Nat.beq c' l = false := by
            cases hq : Nat.beq c' l with
            | false => rfl
            | true => exact absurd (beq_iff.1 hq) hcl
          rw [this, if_neg hcl]
          simp only [VR]
          exact ⟨L, c' - l, trivial, hL, by rw [Nat.add_assoc], fun _ => rfl, fun hne => absurd he hne⟩
    · rename_i size l r cs g tt hs hb hi
      split at hv
      case h_2 => cases hv
      rename_i hsp hg hlc hrc
      have hg' := beq_iff.1 hg
      have hlc' := blt_iff.1 hlc
      have hrc' := ble_iff.1 hrc
      simp only [Option.some.injEq] at hv
      subst hv
      simp only [VR] at hu
      obtain ⟨L, c', _, hL, rfl, h0, h3⟩ := hu
      have he := grow_of x hi hL
      simp only [Gw.e] at he
      have hgne : L.e ≠ 0 := by omega
      obtain ⟨hnc, hcc, hroom⟩ := h3 hgne
      obtain ⟨hrun, hlr, _⟩ := boundsB_ok (P := P) (w := w) true hb h1 h2 hcc
      have hsz := run_sizeOf (P := P) (w := w) hs
      have hne : ¬ c' = l := by omega
      refine ⟨.slice (some ⟨L.b, L.o + ad.off + l * size, none⟩) (r - l) (c' - l), ?_, ?_⟩
      · simp only [Instr.sliceAt, Instr.slice, Sem.run_bind, run_underlying hun, Result.andThen_ok, hrun, hsz, Option.map_some, Addr.add_lit, if_neg hne]
        rfl
      · simp only [VR]
        refine ⟨L, c' - l, trivial, hL, by rw [Nat.add_assoc], fun h => absurd h hgne, fun _ => ⟨by split <;> omega, by split <;> omega, ?_⟩⟩
        rw [he, hg'] at hroom ⊢
        have : c' * size = l * size + (c' - l) * size := by rw [← Nat.add_mul]; congr 1; omega
        omega
    · cases hv
  · rename_i m e ad hun
    split at hv
    · rename_i size l r cs hs hb hi
      split at hv
      case h_2 => cases hv
      rename_i hsp
      simp only [Option.some.injEq] at hv
      subst hv
      simp only [VR] at hu
      obtain ⟨L, _, hL, rfl⟩ := hu
      have he := grow_of x hi hL
      obtain ⟨hrun, _⟩ := boundsB_ok (P := P) (w := w) false hb h1 h2 (Nat.le_refl _)
      have hsz := run_sizeOf (P := P) (w := w) hs
      refine ⟨.slice (some (if m = l then ⟨L.b, L.o + ad.off, none⟩ else ⟨L.b, L.o + ad.off + l * size, none⟩)) (r - l) (m - l), ?_, ?_⟩
      · simp only [Instr.sliceAt, Instr.sureAddr, Sem.run_bind, run_underlying hun, Sem.run_pure, Result.andThen_ok, hrun, hsz, Addr.add_lit]
      · by_cases hcl : m = l
        · rw [beq_iff.2 hcl, if_pos hcl]
          simp only [VR]
          exact ⟨L, m - l, hsp, hL, rfl, fun _ => rfl, fun hne => absurd he hne⟩
        · have : Nat.beq m l = false := by
            cases hq : Nat.beq m l with
            | false => rfl
            | true => exact absurd (beq_iff.1 hq) hcl
          rw [this, if_neg hcl]
          simp only [VR]
          exact ⟨L, m - l, trivial, hL, by rw [Nat.add_assoc], fun _ => rfl, fun hne => absurd he hne⟩
    · cases hv
  · cases hv

theorem fieldAddrB_ok {s : TypeId} {u u' v : Value} {f : Nat} (hv : fieldAddrB P s u f = some v) (hu : VR μ u u') :
    ∃ v', (Instr.fieldAt s u' f).run P w = .ok v' w ∧ VR μ v v' := by
  unfold fieldAddrB at hv
  split at hv
  case h_2 => cases hv
  rename_i fs ad hun
  split at hv
  case h_2 => cases hv
  rename_i fd hf hsp
  split at hv
  case h_2 => cases hv
  rename_i k hs
  simp only [Option.some.injEq] at hv
  subst hv
  simp only [VR] at hu
  obtain ⟨L, _, hL, rfl⟩ := hu
  have hsz := run_sizeOf (P := P) (w := w) hs
  refine ⟨.pointer (some ⟨L.b, L.o + ad.off + fd.offset, none⟩), ?_, ?_⟩
  · simp only [Instr.fieldAt, Instr.sureAddr, fieldPlace, Sem.run_bind, run_underlying hun, Result.andThen_ok, hf, Sem.run_pure, hsz, if_neg (Nat.succ_ne_zero k), Addr.add_lit]
  · simp only [VR]
    exact ⟨L, trivial, hL, by rw [Nat.add_assoc]⟩

theorem fieldB_ok {t : TypeId} {u u' v : Value} {f : Nat} (hv : fieldB P t u f = some v) (hu : VR μ u u') :
    ∃ v', (Instr.field t u' f).run P w = .ok v' w ∧ VR μ v v' := by
  unfold fieldB at hv
  split at hv
  case h_2 => cases hv
  rename_i fs c hun
  split at hv
  case h_2 => cases hv
  rename_i fd hf
  obtain ⟨c', rfl, hc⟩ := VR.agg_inv hu
  obtain ⟨v', hp, hr⟩ := partB_ok (w := w) hv hc
  refine ⟨v', ?_, hr⟩
  simp only [Instr.field, Sem.run_bind, run_underlying hun, Result.andThen_ok, hf, asAgg, Sem.run_pure, hp]

theorem indexAddrB_ok {t : TypeId} {u u' i i' v : Value} (hv : indexAddrB P t u i = some v) (hu : VR μ u u') (hi : VR μ i i') :
    ∃ v', (Instr.indexAt t u' i').run P w = .ok v' w ∧ VR μ v v' := by
  unfold indexAddrB at hv
  split at hv
  case h_2 => cases hv
  rename_i kd j
  simp only [VR] at hi
  subst hi
  split at hv
  · rename_i e ad m c hun
    split at hv
    case h_2 => cases hv
    rename_i size hlt hs hsp
    simp only [Option.some.injEq] at hv
    subst hv
    simp only [VR] at hu
    obtain ⟨L, c', _, hL, rfl, _⟩ := hu
    have hsz := run_sizeOf (P := P) (w := w) hs
    have hj : (0 : Int) ≤ Int.ofNat j ∧ Int.ofNat j < (m : Int) := ⟨by simp, by have := blt_iff.1 hlt; simp; omega⟩
    refine ⟨.pointer (some ⟨L.b, L.o + ad.off + j * size, none⟩), ?_, ?_⟩
    · simp only [Instr.indexAt, asIntOf, Sem.run_bind, Sem.run_pure, run_underlying hun, Result.andThen_ok, if_pos hj, hsz, Addr.add_lit]
      rfl
    · simp only [VR]
      exact ⟨L, trivial, hL, by rw [Nat.add_assoc]⟩
  · rename_i m e ad hun
    split at hv
    case h_2 => cases hv
    rename_i size hlt hs hsp
    simp only [Option.some.injEq] at hv
    subst hv
    simp only [VR] at hu
    obtain ⟨L, _, hL, rfl⟩ := hu
    have hsz := run_sizeOf (P := P) (w := w) hs
    have hj : (0 : Int) ≤ Int.ofNat j ∧ Int.ofNat j < (m : Int) := ⟨by simp, by have := blt_iff.1 hlt; simp; omega⟩
    refine ⟨.pointer (some ⟨L.b, L.o + ad.off + j * size, none⟩), ?_, ?_⟩
    · simp only [Instr.indexAt, Instr.sureAddr, asIntOf, Sem.run_bind, Sem.run_pure, run_underlying hun, Result.andThen_ok, if_pos hj, hsz, Addr.add_lit]
      rfl
    · simp only [VR]
      exact ⟨L, trivial, hL, by rw [Nat.add_assoc]⟩
  · cases hv

theorem indexB_ok {t : TypeId} {u u' i i' v : Value} (hv : indexB P t u i = some v) (hu : VR μ u u') (hi : VR μ i i') :
    ∃ v', (Instr.index t u' i').run P w = .ok v' w ∧ VR μ v v' := by
  unfold indexB at hv
  split at hv
  case h_2 => cases hv
  rename_i kd j
  simp only [VR] at hi
  subst hi
  split at hv
  · rename_i s hun
    rw [Option.map_eq_some_iff] at hv
    obtain ⟨b, hb, rfl⟩ := hv
    simp only [VR] at hu
    subst hu
    have hb' : s[(Int.ofNat j).toNat]? = some b := by
      show s[j]? = some b
      have hlt : j < s.data.toList.length := (List.getElem?_eq_some_iff.1 hb).1
      have hlt' : j < s.size := by rw [size_list]; exact hlt
      rw [getElem?_pos s j hlt']
      congr 1
      have := (List.getElem?_eq_some_iff.1 hb).2
      rw [← this]
      simp [ByteArray.getElem_eq_getElem_data]
    refine ⟨.int .u8 b.toNat, ?_, by simp only [VR]⟩
    have h0 : (0 : Int) ≤ Int.ofNat j := by simp
    simp only [Instr.index, asIntOf, Sem.run_bind, Sem.run_pure, run_underlying hun, Result.andThen_ok, if_pos h0, hb']
  · rename_i m e c hun
    split at hv
    case h_2 => cases hv
    rename_i size hlt hs
    obtain ⟨c', rfl, hc⟩ := VR.agg_inv hu
    obtain ⟨v', hp, hr⟩ := partB_ok (w := w) hv hc
    have hsz := run_sizeOf (P := P) (w := w) hs
    have hj : (0 : Int) ≤ Int.ofNat j ∧ Int.ofNat j < (m : Int) := ⟨by simp, by have := blt_iff.1 hlt; simp; omega⟩
    refine ⟨v', ?_, hr⟩
    simp only [Instr.index, asIntOf, Sem.run_bind, Sem.run_pure, run_underlying hun, Result.andThen_ok, if_pos hj, hsz]
    exact hp
  · cases hv

end
end Go.Proofs.YtebaekbmminjnaaGreatDoor.V
