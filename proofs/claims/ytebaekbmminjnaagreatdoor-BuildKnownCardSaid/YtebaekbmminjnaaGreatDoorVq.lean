/- The small machine's start in a world whose listed variables hold what is listed. Conditions: none. -/
import Derived.Test.YtebaekbmminjnaaGreatDoorVp
import Derived.LaidSub
namespace Go.Proofs.YtebaekbmminjnaaGreatDoor.V
set_option linter.all false
open Go

/-- Each listed variable's number and cells, and the blocks that they lead to, numbered from n on. -/
def gList (P : Program) (n : Nat) : List (String × DataW Unit) → Option (List (Nat × List Value) × List (List Value))
  | [] => some ([], [])
  | (s, d) :: r => match P.globalNamed s with
    | some g => match (P.globals[g]?).map (·.type) with
      | some t => match gD P t n d with
        | some x => match gList P (n + x.2.length) r with
          | some y => some ((g, x.1) :: y.1, x.2 ++ y.2)
          | none => none
        | none => none
      | none => none
    | none => none

def pairsFrom (n : Nat) : List (List Value) → List (Nat × List Value)
  | [] => []
  | c :: r => (n, c) :: pairsFrom (n + 1) r

noncomputable def treeOf : List (Nat × List Value) → T (Option Blk)
  | [] => .leaf none
  | (i, c) :: r => T.set 16 (treeOf r) i (some (.cells ⟨c⟩ .no))

/-- The start: the listed variables' cells and blocks, nothing to be written. -/
noncomputable def startL (G : Nat) (y : List (Nat × List Value) × List (List Value)) : AH :=
  { t := treeOf (y.1 ++ pairsFrom G y.2), next := G + y.2.length, lock := G + y.2.length, imp := G + y.2.length, fl := true }

theorem treeOf_fits : ∀ l, (treeOf l).fits 16
  | [] => T.fits_leaf _ _
  | (_, _) :: r => T.fits_set 16 _ _ _ (treeOf_fits r)

theorem treeOf_get : ∀ (l : List (Nat × List Value)) (i : Nat) (b : Blk), (∀ q ∈ l, q.1 < 65536) → i < 65536 → (treeOf l).get i = some b → ∃ c, (i, c) ∈ l ∧ b = .cells ⟨c⟩ .no
  | [], i, b, _, _, h => by simp only [treeOf, T.get_leaf] at h; cases h
  | (j, c) :: r, i, b, hl, hi, h => by
    simp only [treeOf] at h
    rw [T.get_set 16 _ _ _ _ (treeOf_fits r) (by simpa using hl (j, c) (by simp)) (by simpa using hi)] at h
    split at h
    · rename_i e
      cases h
      exact ⟨c, by simp [e], rfl⟩
    · obtain ⟨c', h1, h2⟩ := treeOf_get r i b (fun q hq => hl q (by simp [hq])) hi h
      exact ⟨c', by simp [h1], h2⟩

theorem pairsFrom_mem : ∀ (l : List (List Value)) (n i : Nat) (c : List Value), (i, c) ∈ pairsFrom n l → n ≤ i ∧ l[i - n]? = some c
  | [], n, i, c, h => by simp [pairsFrom] at h
  | d :: r, n, i, c, h => by
    simp only [pairsFrom, List.mem_cons, Prod.mk.injEq] at h
    rcases h with ⟨rfl, rfl⟩ | h
    · simp
    · obtain ⟨h1, h2⟩ := pairsFrom_mem r (n + 1) i c h
      refine ⟨by omega, ?_⟩
      rw [show i - n = (i - (n + 1)) + 1 from by omega]
      simpa using h2

section
variable {P : Program} {w : World}

theorem gList_ok : ∀ (l : List (String × DataW Unit)) (n : Nat) (y : List (Nat × List Value) × List (List Value)) (ps : List MemPlace), gList P n l = some y → DataW.LaidVars P w l ps →
    ∃ ls, Places w n y.2 ls ∧ ∀ μ : Mu, (∀ i q, ls[i]? = some q → μ (n + i) = some q) → ∀ (g : Nat) (c : List Value), (g, c) ∈ y.1 → ∃ cs el fr, w.heap[g]? = some (.cells cs el fr) ∧ VRL μ c cs.toList
  | [], n, y, ps, h, _ => by
    simp only [gList, Option.some.injEq] at h
    subst h
    exact ⟨[], Places.nil, fun μ _ g c hg => by simp at hg⟩
  | (s, d) :: r, n, y, ps, h, hv => by
    simp only [gList] at h
    split at h
    case h_2 => cases h
    rename_i g hg
    split at h
    case h_2 => cases h
    rename_i t ht
    split at h
    case h_2 => cases h
    rename_i x hx
    split at h
    case h_2 => cases h
    rename_i z hz
    cases h
    obtain ⟨g', t', cs, fuel, p, q, h1, h2, h3, h4, h5, _⟩ := hv
    rw [hg] at h1; cases h1
    rw [ht] at h2; cases h2
    obtain ⟨la, a1, a2⟩ := gD_ok d t n x hx fuel _ p h4
    obtain ⟨lb, b1, b2⟩ := gList_ok r (n + x.2.length) z q hz h5
    refine ⟨la ++ lb, a1.append b1, fun μ hμ g0 c0 hc => ?_⟩
    simp only [List.mem_cons, Prod.mk.injEq] at hc
    rcases hc with ⟨rfl, rfl⟩ | hc
    · unfold World.var? at h3
      rw [hg] at h3
      simp only [Option.bind_some] at h3
      split at h3
      · rename_i cs' el fr hh
        cases h3
        exact ⟨cs, el, fr, hh, a2 μ (at_left hμ)⟩
      · cases h3
    · exact b2 μ (by rw [← a1.1]; exact at_right hμ) g0 c0 hc

theorem startL_HR {G : Nat} {l : List (String × DataW Unit)} {y : List (Nat × List Value) × List (List Value)} {ps : List MemPlace} (hy : gList P G l = some y) (hv : DataW.LaidVars P w l ps) (hG : G + y.2.length ≤ 65536) (hg : ∀ q ∈ y.1, q.1 < G) :
    ∃ μ, HR (startL G y) G μ (startL G y) w := by
  obtain ⟨ls, h1, h2⟩ := gList_ok l G y ps hy hv
  let μ : Mu := fun q => if q < G then some ⟨q, 0, (match w.heap[q]? with | some (.cells cs _ _) => cs.size | _ => 0), 0⟩ else ls[q - G]?
  have hμ : ∀ i q, ls[i]? = some q → μ (G + i) = some q := fun i q hq => by
    show (if G + i < G then _ else ls[G + i - G]?) = some q
    rw [if_neg (by omega), Nat.add_sub_cancel_left]
    exact hq
  refine ⟨μ, treeOf_fits _, hG, Nat.le_refl _, ?_, ?_, ?_, ?_, fun _ => ⟨Nat.le_refl _, fun _ _ => rfl⟩⟩
  · intro i hi _
    have hi' : G + y.2.length ≤ i := hi
    show (if i < G then _ else ls[i - G]?) = none
    rw [if_neg (by omega)]
    exact List.getElem?_eq_none (by rw [h1.1]; omega)
  · intro g hgG
    exact ⟨_, if_pos hgG, rfl, rfl⟩
  · intro i b hb
    have hi : i < G + y.2.length := (AH.get_in (h := startL G y) (by rw [hb]; simp)).resolve_right (fun h => by
      rw [AH.get_old h] at hb; cases hb)
    have hb' : (treeOf (y.1 ++ pairsFrom G y.2)).get i = some b := by
      unfold AH.get at hb
      split at hb
      · split at hb
        · exact hb
        · cases hb
      · cases hb
    have hpr : ∀ q ∈ y.1 ++ pairsFrom G y.2, q.1 < 65536 := by
      intro q hq
      rcases List.mem_append.1 hq with h | h
      · have := hg q h; omega
      · obtain ⟨e1, e2⟩ := pairsFrom_mem _ _ q.1 q.2 h
        have := (List.getElem?_eq_some_iff.1 e2).1
        omega
    obtain ⟨c, hc, rfl⟩ := treeOf_get _ i b hpr (by omega) hb'
    have hown : (startL G y).own i = false := by
      cases hn : (startL G y).own i with
      | false => rfl
      | true => have := (AH.own_iff.1 hn).1; simp only [startL] at this; omega
    rw [hown]
    rcases List.mem_append.1 hc with h | h
    · have hlt := hg _ h
      obtain ⟨cs, el, fr, hh, hvr⟩ := h2 μ hμ i c h
      refine ⟨_, if_pos hlt, ?_⟩
      simp only [hh]
      refine ⟨rfl, ⟨el, (by unfold World.shape?; rw [hh]), trivial⟩, by have := hvr.length; simp at this ⊢; omega, ?_, fun h => by cases h⟩
      intro k v hk
      obtain ⟨v', h5, h6⟩ := hvr.at (k := k) (v := v) (by simpa using hk)
      refine ⟨v', ?_, h6⟩
      unfold World.cell?
      rw [hh]
      simpa using h5
    · obtain ⟨e1, e2⟩ := pairsFrom_mem _ _ i c h
      have hlt := (List.getElem?_eq_some_iff.1 e2).1
      have hq : ls[i - G]? = some (ls[i - G]'(by rw [h1.1]; exact hlt)) := List.getElem?_eq_getElem _
      refine ⟨_, ?_, h1.2 μ hμ (i - G) c _ e2 hq⟩
      show (if i < G then _ else ls[i - G]?) = _
      rw [if_neg (by omega)]
      exact hq
  · intro i j li lj hi _ hgi _ _ _
    obtain ⟨h3, h5⟩ := AH.own_iff.1 hi
    have h3 : G + y.2.length ≤ i := h3
    rcases AH.get_in hgi with h4 | h4
    · have h4 : i < G + y.2.length := h4
      omega
    · omega

end
end Go.Proofs.YtebaekbmminjnaaGreatDoor.V
