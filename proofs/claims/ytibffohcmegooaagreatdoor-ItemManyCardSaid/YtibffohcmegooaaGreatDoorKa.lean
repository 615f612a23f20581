/- The small machine's start in a world whose listed variables hold what is listed. Conditions: none. -/
import Derived.Test.YtibffohcmegooaaGreatDoorVp
import Derived.LaidSub
import Derived.Test.YtibffohcmegooaaGreatDoorVs
import Derived.ChangeSame
namespace Go.Proofs.YtibffohcmegooaaGreatDoor.V
set_option linter.all false
open Go

/-- Each listed variable's number and cells, and the blocks that they lead to, numbered from n on. -/
def gList (P : Program) (n : Nat) : List (String × DataW Unit) → Option (List (Nat × List Value) × List (List Value))
  | [] => some ([], [])
  | (s, d) :: r => match P.globalNamed s with
    | some g => match (P.globals[g]?).map (·.type) with
      | some t => match gD P t n d with
        | some x => match gList P (n + x.2.length) r with
          | some y => some ((g, x.1) :: y.1, x.2 ++ y.2)
          | none => none
        | none => none
      | none => none
    | none => none

def pairsFrom (n : Nat) : List (List Value) → List (Nat × List Value)
  | [] => []
  | c :: r => (n, c) :: pairsFrom (n + 1) r

noncomputable def treeOf : List (Nat × List Value) → T (Option Blk)
  | [] => .leaf none
  | (i, c) :: r => T.set 24 (treeOf r) i (some (.cells ⟨c⟩ .no))

/-- The start: the listed variables' cells and blocks, nothing to be written. -/
noncomputable def startL (G : Nat) (y : List (Nat × List Value) × List (List Value)) : AH :=
  { t := treeOf (y.1 ++ pairsFrom G y.2), next := G + y.2.length, lock := G + y.2.length, imp := G + y.2.length, fl := true }

theorem treeOf_fits : ∀ l, (treeOf l).fits 24
  | [] => T.fits_leaf _ _
  | (_, _) :: r => T.fits_set 24 _ _ _ (treeOf_fits r)

theorem treeOf_get : ∀ (l : List (Nat × List Value)) (i : Nat) (b : Blk), (∀ q ∈ l, q.1 < 16777216) → i < 16777216 → (treeOf l).get i = some b → ∃ c, (i, c) ∈ l ∧ b = .cells ⟨c⟩ .no
  | [], i, b, _, _, h => by simp only [treeOf, T.get_leaf] at h; cases h
  | (j, c) :: r, i, b, hl, hi, h => by
    simp only [treeOf] at h
    rw [T.get_set 24 _ _ _ _ (treeOf_fits r) (by simpa using hl (j, c) (by simp)) (by simpa using hi)] at h
    split at h
    · rename_i e
      cases h
      exact ⟨c, by simp [e], rfl⟩
    · obtain ⟨c', h1, h2⟩ := treeOf_get r i b (fun q hq => hl q (by simp [hq])) hi h
      exact ⟨c', by simp [h1], h2⟩

theorem pairsFrom_mem : ∀ (l : List (List Value)) (n i : Nat) (c : List Value), (i, c) ∈ pairsFrom n l → n ≤ i ∧ l[i - n]? = some c
  | [], n, i, c, h => by simp [pairsFrom] at h
  | d :: r, n, i, c, h => by
    simp only [pairsFrom, List.mem_cons, Prod.mk.injEq] at h
    rcases h with ⟨rfl, rfl⟩ | h
    · simp
    · obtain ⟨h1, h2⟩ := pairsFrom_mem r (n + 1) i c h
      refine ⟨by omega, ?_⟩
      rw [show i - n = (i - (n + 1)) + 1 from by omega]
      simpa using h2

section
variable {P : Program} {w : World}

theorem gList_ok : ∀ (l : List (String × DataW Unit)) (n : Nat) (y : List (Nat × List Value) × List (List Value)) (ps : List MemPlace), gList P n l = some y → DataW.LaidVars P w l ps →
    ∃ ls, Places w n y.2 ls ∧ ∀ μ : Mu, (∀ i q, ls[i]? = some q → μ (n + i) = some q) → ∀ (g : Nat) (c : List Value), (g, c) ∈ y.1 → ∃ cs el fr, w.heap[g]? = some (.cells cs el fr) ∧ VRL μ c cs.toList
  | [], n, y, ps, h, _ => by
    simp only [gList, Option.some.injEq] at h
    subst h
    exact ⟨[], Places.nil, fun μ _ g c hg => by simp at hg⟩
  | (s, d) :: r, n, y, ps, h, hv => by
    simp only [gList] at h
    split at h
    case h_2 => cases h
    rename_i g hg
    split at h
    case h_2 => cases h
    rename_i t ht
    split at h
    case h_2 => cases h
    rename_i x hx
    split at h
    case h_2 => cases h
    rename_i z hz
    cases h
    obtain ⟨g', t', cs, fuel, p, q, h1, h2, h3, h4, h5, _⟩ := hv
    rw [hg] at h1; cases h1
    rw [ht] at h2; cases h2
    obtain ⟨la, a1, a2⟩ := gD_ok d t n x hx fuel _ p h4
    obtain ⟨lb, b1, b2⟩ := gList_ok r (n + x.2.length) z q hz h5
    refine ⟨la ++ lb, a1.append b1, fun μ hμ g0 c0 hc => ?_⟩
    simp only [List.mem_cons, Prod.mk.injEq] at hc
    rcases hc with ⟨rfl, rfl⟩ | hc
    · unfold World.var? at h3
      rw [hg] at h3
      simp only [Option.bind_some] at h3
      split at h3
      · rename_i cs' el fr hh
        cases h3
        exact ⟨cs, el, fr, hh, a2 μ (at_left hμ)⟩
      · cases h3
    · exact b2 μ (by rw [← a1.1]; exact at_right hμ) g0 c0 hc

theorem startL_HR {G : Nat} {l : List (String × DataW Unit)} {y : List (Nat × List Value) × List (List Value)} {ps : List MemPlace} (hy : gList P G l = some y) (hv : DataW.LaidVars P w l ps) (hG : G + y.2.length ≤ 16777216) (hg : ∀ q ∈ y.1, q.1 < G) :
    ∃ μ, HR (startL G y) G μ (startL G y) w := by
  obtain ⟨ls, h1, h2⟩ := gList_ok l G y ps hy hv
  let μ : Mu := fun q => if q < G then some ⟨q, 0, (match w.heap[q]? with | some (.cells cs _ _) => cs.size | _ => 0), 0⟩ else ls[q - G]?
  have hμ : ∀ i q, ls[i]? = some q → μ (G + i) = some q := fun i q hq => by
    show (if G + i < G then _ else ls[G + i - G]?) = some q
    rw [if_neg (by omega), Nat.add_sub_cancel_left]
    exact hq
  refine ⟨μ, treeOf_fits _, hG, Nat.le_refl _, ?_, ?_, ?_, ?_, fun _ => ⟨Nat.le_refl _, fun _ _ => rfl⟩⟩
  · intro i hi _
    have hi' : G + y.2.length ≤ i := hi
    show (if i < G then _ else ls[i - G]?) = none
    rw [if_neg (by omega)]
    exact List.getElem?_eq_none (by rw [h1.1]; omega)
  · intro g hgG
    exact ⟨_, if_pos hgG, rfl, rfl⟩
  · intro i b hb
    have hi : i < G + y.2.length := (AH.get_in (h := startL G y) (by rw [hb]; simp)).resolve_right (fun h => by
      rw [AH.get_old h] at hb; cases hb)
    have hb' : (treeOf (y.1 ++ pairsFrom G y.2)).get i = some b := by
      unfold AH.get at hb
      split at hb
      · split at hb
        · exact hb
        · cases hb
      · cases hb
    have hpr : ∀ q ∈ y.1 ++ pairsFrom G y.2, q.1 < 16777216 := by
      intro q hq
      rcases List.mem_append.1 hq with h | h
      · have := hg q h; omega
      · obtain ⟨e1, e2⟩ := pairsFrom_mem _ _ q.1 q.2 h
        have := (List.getElem?_eq_some_iff.1 e2).1
        omega
    obtain ⟨c, hc, rfl⟩ := treeOf_get _ i b hpr (by omega) hb'
    have hown : (startL G y).own i = false := by
      cases hn : (startL G y).own i with
      | false => rfl
      | true => have := (AH.own_iff.1 hn).1; simp only [startL] at this; omega
    rw [hown]
    rcases List.mem_append.1 hc with h | h
    · have hlt := hg _ h
      obtain ⟨cs, el, fr, hh, hvr⟩ := h2 μ hμ i c h
      refine ⟨_, if_pos hlt, ?_⟩
      simp only [hh]
      refine ⟨rfl, ⟨el, (by unfold World.shape?; rw [hh]), trivial⟩, by have := hvr.length; simp at this ⊢; omega, ?_, fun h => by cases h⟩
      intro k v hk
      obtain ⟨v', h5, h6⟩ := hvr.at (k := k) (v := v) (by simpa using hk)
      refine ⟨v', ?_, h6⟩
      unfold World.cell?
      rw [hh]
      simpa using h5
    · obtain ⟨e1, e2⟩ := pairsFrom_mem _ _ i c h
      have hlt := (List.getElem?_eq_some_iff.1 e2).1
      have hq : ls[i - G]? = some (ls[i - G]'(by rw [h1.1]; exact hlt)) := List.getElem?_eq_getElem _
      refine ⟨_, ?_, h1.2 μ hμ (i - G) c _ e2 hq⟩
      show (if i < G then _ else ls[i - G]?) = _
      rw [if_neg (by omega)]
      exact hq
  · intro i j li lj hi _ hgi _ _ _
    obtain ⟨h3, h5⟩ := AH.own_iff.1 hi
    have h3 : G + y.2.length ≤ i := h3
    rcases AH.get_in hgi with h4 | h4
    · have h4 : i < G + y.2.length := h4
      omega
    · omega

end
end Go.Proofs.YtibffohcmegooaaGreatDoor.V

namespace Go.Proofs.YtibffohcmegooaaGreatDoor.V
set_option linter.all false
open Go Go.ChangeShapes

def isTrueB : R → Bool
  | some (.bool true, none) => true
  | _ => false

/-- All that was there is there yet. -/
def Kept (w w' : World) : Prop := w'.os = w.os ∧ w'.output = w.output ∧ w.heap.size ≤ w'.heap.size ∧ (∀ b, b < w.heap.size → w'.heap[b]? = w.heap[b]?) ∧ w'.tape = w.tape

theorem Kept.but {w w' : World} (h : Kept w w') (may : MemPlace → Prop) : w.keptBut w' may := by
  refine ⟨h.1, h.2.1, fun i hi => ?_⟩
  rw [h.2.2.2.1 i hi]
  cases w.heap[i]? with
  | none => rfl
  | some o => cases o <;> simp

theorem post_of_kept {H : Type} {enc : TypeId × Value → H} {P : Program} {f : Func} {s : ChangeSpec} {apart fresh handsOn : Bool} {W W' : World} {args : Array Value} {v : Value} {ds gs : List (DataW H)} {before pa pv : List MemPlace}
    (hW : DataW.Whole enc P f.params.toList s.vars apart W args.toList ds gs before)
    (hres : ∀ (b : Nat) (sp : Nat → Bool) (hd : Bool), DataW.TrodAll enc P W' b sp hd f.resultTypes.toList (v.resultList f.resultTypes.size) (s.fn H (ds ++ gs)).results [])
    (hargs : ∀ sp : Nat → Bool, (∀ p ∈ before, sp p.block = true) → DataW.TrodAll enc P W' 0 sp true f.params.toList args.toList (s.fn H (ds ++ gs)).args pa)
    (hvars : ∀ sp : Nat → Bool, (∀ p ∈ before, sp p.block = true) → DataW.TrodVars enc P W' sp s.vars (s.fn H (ds ++ gs)).vars pv)
    (hk : Kept W W') : s.post enc P f apart fresh handsOn false W args v W' := by
  have hold : ∀ p ∈ before, (fun b => decide (b < W.heap.size)) p.block = true := fun p hp => by simpa using hW.lt p hp
  exact ⟨ds, gs, before, [], pa, pv, hW, hres _ _ _, hargs _ hold, hvars _ hold, hk.but _, fun h => by cases h⟩

/-- The start's numbers and blocks are shut. -/
noncomputable def shutY (G : Nat) (y : List (Nat × List Value) × List (List Value)) : Bool := y.1.all (fun q => Nat.blt q.1 G && inL (G + y.2.length) q.2) && (y.2.all (inL (G + y.2.length)) && Nat.ble (G + y.2.length) 16777216)

section
variable {P : Program} {G : Nat} {y : List (Nat × List Value) × List (List Value)}

theorem startL_ok (hy : shutY G y = true) : Start (startL G y) G := by
  unfold shutY at hy
  simp only [Bool.and_eq_true, List.all_eq_true] at hy
  obtain ⟨h1, h2, h3⟩ := hy
  have h3 : G + y.2.length ≤ 16777216 := ble_iff.1 h3
  refine ⟨treeOf_fits _, h3, rfl, rfl, Nat.le_add_right _ _, rfl, fun _ => rfl, ?_⟩
  intro i b hb
  have hi : i < G + y.2.length := (AH.get_in (h := startL G y) (by rw [hb]; simp)).resolve_right (fun h => by rw [AH.get_old h] at hb; cases hb)
  have hb' : (treeOf (y.1 ++ pairsFrom G y.2)).get i = some b := by
    unfold AH.get at hb
    split at hb
    · split at hb
      · exact hb
      · cases hb
    · cases hb
  have hpr : ∀ q ∈ y.1 ++ pairsFrom G y.2, q.1 < 16777216 := by
    intro q hq
    rcases List.mem_append.1 hq with h | h
    · have := blt_iff.1 (h1 q h).1; omega
    · obtain ⟨e1, e2⟩ := pairsFrom_mem _ _ q.1 q.2 h
      have := (List.getElem?_eq_some_iff.1 e2).1
      omega
  obtain ⟨c, hc, rfl⟩ := treeOf_get _ i b hpr (by omega) hb'
  refine ⟨⟨c⟩, .no, rfl, ?_⟩
  rcases List.mem_append.1 hc with h | h
  · exact (h1 _ h).2
  · obtain ⟨e1, e2⟩ := pairsFrom_mem _ _ i c h
    obtain ⟨hlt, he⟩ := List.getElem?_eq_some_iff.1 e2
    have := h2 _ (List.getElem_mem hlt)
    rw [he] at this
    exact this

theorem kept_of_same {w w' : World} (s : Same w w') : Kept w w' := ⟨s.os, s.output, s.size, s.blk, s.tape⟩

/-- In a world that holds the listed variables a call whose answer is known gives it. -/
theorem fact_laid (hs : shutY G y = true) {l : List (String × DataW Unit)} {ps : List MemPlace} {w : World} (hy : gList P G l = some y) (hv : DataW.LaidVars P w l ps) {g : FuncId} {args : List Value} {v : Value} (f : PFact P (startL G y) G g args v) :
    Calls P g args.toArray w fun e w' => e = .returned v ∧ Kept w w' := by
  have hs' := hs
  unfold shutY at hs'
  simp only [Bool.and_eq_true, List.all_eq_true] at hs'
  obtain ⟨μ, hr⟩ := startL_HR hy hv (ble_iff.1 hs'.2.2) (fun q hq => blt_iff.1 (hs'.1 q hq).1)
  exact (f.2.2 μ _ w hr rfl).mono fun e w' ⟨h1, h2⟩ => ⟨h1, kept_of_same h2⟩

/-- A closed call's answer by the kernel's run. -/
theorem true_of_run {ext : FuncId → Option Ext} {fuel d : Nat} {base : Orc} {mt : FuncId → Nat} (hs : shutY G y = true) (hext : ExtOK P ext) (hname : NoNum P) (hmix : P.follows .mixedOrders = true) (hbase : BaseOK P (startL G y) G base) {g : FuncId}
    (hb : isTrueB (deepB P G ext fuel base mt d g [] (startL G y)) = true) (hg : Nat.beq g yid = false := by rfl) : PFact P (startL G y) G g [] (.bool true) := by
  cases hd : deepB P G ext fuel base mt d g [] (startL G y) with
  | none => rw [hd] at hb; simp [isTrueB] at hb
  | some r =>
    obtain ⟨v, ho⟩ := r
    rw [hd] at hb
    unfold isTrueB at hb
    split at hb
    · rename_i e
      cases e
      exact fact_of (deepB_ok hext hname hmix hbase mt d) (startL_ok hs) rfl rfl hd hg
    · cases hb

/-- An answer is the value that was said. -/
def isV (v : Value) : R → Bool
  | some (u, none) => sameV u v
  | _ => false

theorem fact_of_run {ext : FuncId → Option Ext} {fuel d : Nat} {base : Orc} {mt : FuncId → Nat} (hs : shutY G y = true) (hext : ExtOK P ext) (hname : NoNum P) (hmix : P.follows .mixedOrders = true) (hbase : BaseOK P (startL G y) G base) {g : FuncId} {args : List Value} {v : Value}
    (ha : pureL args = true) (hv : pureV v = true) (hb : isV v (deepB P G ext fuel base mt d g args (startL G y)) = true) (hg : Nat.beq g yid = false := by rfl) : PFact P (startL G y) G g args v := by
  cases hd : deepB P G ext fuel base mt d g args (startL G y) with
  | none => rw [hd] at hb; simp [isV] at hb
  | some r =>
    obtain ⟨u, ho⟩ := r
    rw [hd] at hb
    unfold isV at hb
    split at hb
    · rename_i e
      cases e
      have := sameV_eq hb
      subst this
      exact fact_of (deepB_ok hext hname hmix hbase mt d) (startL_ok hs) ha hv hd hg
    · cases hb

theorem memo_nil : BaseOK P (startL G y) G (memo []) := memo_ok (fun q hq => by cases hq)

end

/-- No function bears the name that the machine treats apart, by one look at all. -/
def noNumB (P : Program) : Bool := P.funcs.all fun fn => !(fn.name == "runtime.NumGoroutine")
theorem noNum_of {P : Program} (h : noNumB P = true) : NoNum P := by
  intro f fn hf
  unfold noNumB at h
  rw [Array.all_eq_true] at h
  obtain ⟨hlt, rfl⟩ := Array.getElem?_eq_some_iff.1 hf
  simpa using h f hlt

end Go.Proofs.YtibffohcmegooaaGreatDoor.V
