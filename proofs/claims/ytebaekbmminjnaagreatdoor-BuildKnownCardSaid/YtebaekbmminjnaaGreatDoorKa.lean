/- A call without arguments that the small machine answers 'true' from the empty memory returns true and leaves all memory that was there. Conditions: the program's tables (the served functions, the names). -/
import Derived.Test.YtebaekbmminjnaaGreatDoorVs
import Derived.Test.YtebaekbmminjnaaGreatDoorVq
import Derived.ChangeSame
namespace Go.Proofs.YtebaekbmminjnaaGreatDoor.V
set_option linter.all false
open Go Go.ChangeShapes

def isTrueB : R → Bool
  | some (.bool true, none) => true
  | _ => false

/-- All that was there is there yet. -/
def Kept (w w' : World) : Prop := w'.os = w.os ∧ w'.output = w.output ∧ w.heap.size ≤ w'.heap.size ∧ (∀ b, b < w.heap.size → w'.heap[b]? = w.heap[b]?) ∧ w'.tape = w.tape

theorem Kept.but {w w' : World} (h : Kept w w') (may : MemPlace → Prop) : w.keptBut w' may := by
  refine ⟨h.1, h.2.1, fun i hi => ?_⟩
  rw [h.2.2.2.1 i hi]
  cases w.heap[i]? with
  | none => rfl
  | some o => cases o <;> simp

theorem post_of_kept {H : Type} {enc : TypeId × Value → H} {P : Program} {f : Func} {s : ChangeSpec} {apart fresh handsOn : Bool} {W W' : World} {args : Array Value} {v : Value} {ds gs : List (DataW H)} {before pa pv : List MemPlace}
    (hW : DataW.Whole enc P f.params.toList s.vars apart W args.toList ds gs before)
    (hres : ∀ (b : Nat) (sp : Nat → Bool) (hd : Bool), DataW.TrodAll enc P W' b sp hd f.resultTypes.toList (v.resultList f.resultTypes.size) (s.fn H (ds ++ gs)).results [])
    (hargs : ∀ sp : Nat → Bool, (∀ p ∈ before, sp p.block = true) → DataW.TrodAll enc P W' 0 sp true f.params.toList args.toList (s.fn H (ds ++ gs)).args pa)
    (hvars : ∀ sp : Nat → Bool, (∀ p ∈ before, sp p.block = true) → DataW.TrodVars enc P W' sp s.vars (s.fn H (ds ++ gs)).vars pv)
    (hk : Kept W W') : s.post enc P f apart fresh handsOn false W args v W' := by
  have hold : ∀ p ∈ before, (fun b => decide (b < W.heap.size)) p.block = true := fun p hp => by simpa using hW.lt p hp
  exact ⟨ds, gs, before, [], pa, pv, hW, hres _ _ _, hargs _ hold, hvars _ hold, hk.but _, fun h => by cases h⟩

/-- The start's numbers and blocks are shut. -/
noncomputable def shutY (G : Nat) (y : List (Nat × List Value) × List (List Value)) : Bool := y.1.all (fun q => Nat.blt q.1 G && inL (G + y.2.length) q.2) && (y.2.all (inL (G + y.2.length)) && Nat.ble (G + y.2.length) 65536)

section
variable {P : Program} {G : Nat} {y : List (Nat × List Value) × List (List Value)}

theorem startL_ok (hy : shutY G y = true) : Start (startL G y) G := by
  unfold shutY at hy
  simp only [Bool.and_eq_true, List.all_eq_true] at hy
  obtain ⟨h1, h2, h3⟩ := hy
  have h3 : G + y.2.length ≤ 65536 := ble_iff.1 h3
  refine ⟨treeOf_fits _, h3, rfl, rfl, Nat.le_add_right _ _, rfl, fun _ => rfl, ?_⟩
  intro i b hb
  have hi : i < G + y.2.length := (AH.get_in (h := startL G y) (by rw [hb]; simp)).resolve_right (fun h => by rw [AH.get_old h] at hb; cases hb)
  have hb' : (treeOf (y.1 ++ pairsFrom G y.2)).get i = some b := by
    unfold AH.get at hb
    split at hb
    · split at hb
      · exact hb
      · cases hb
    · cases hb
  have hpr : ∀ q ∈ y.1 ++ pairsFrom G y.2, q.1 < 65536 := by
    intro q hq
    rcases List.mem_append.1 hq with h | h
    · have := blt_iff.1 (h1 q h).1; omega
    · obtain ⟨e1, e2⟩ := pairsFrom_mem _ _ q.1 q.2 h
      have := (List.getElem?_eq_some_iff.1 e2).1
      omega
  obtain ⟨c, hc, rfl⟩ := treeOf_get _ i b hpr (by omega) hb'
  refine ⟨⟨c⟩, .no, rfl, ?_⟩
  rcases List.mem_append.1 hc with h | h
  · exact (h1 _ h).2
  · obtain ⟨e1, e2⟩ := pairsFrom_mem _ _ i c h
    obtain ⟨hlt, he⟩ := List.getElem?_eq_some_iff.1 e2
    have := h2 _ (List.getElem_mem hlt)
    rw [he] at this
    exact this

theorem kept_of_same {w w' : World} (s : Same w w') : Kept w w' := ⟨s.os, s.output, s.size, s.blk, s.tape⟩

/-- In a world that holds the listed variables a call whose answer is known gives it. -/
theorem fact_laid (hs : shutY G y = true) {l : List (String × DataW Unit)} {ps : List MemPlace} {w : World} (hy : gList P G l = some y) (hv : DataW.LaidVars P w l ps) {g : FuncId} {args : List Value} {v : Value} (f : PFact P (startL G y) G g args v) :
    Calls P g args.toArray w fun e w' => e = .returned v ∧ Kept w w' := by
  have hs' := hs
  unfold shutY at hs'
  simp only [Bool.and_eq_true, List.all_eq_true] at hs'
  obtain ⟨μ, hr⟩ := startL_HR hy hv (ble_iff.1 hs'.2.2) (fun q hq => blt_iff.1 (hs'.1 q hq).1)
  exact (f.2.2 μ _ w hr rfl).mono fun e w' ⟨h1, h2⟩ => ⟨h1, kept_of_same h2⟩

/-- A closed call's answer by the kernel's run. -/
theorem true_of_run {ext : FuncId → Option Ext} {fuel d : Nat} {base : Orc} {mt : FuncId → Nat} (hs : shutY G y = true) (hext : ExtOK P ext) (hname : NoNum P) (hmix : P.follows .mixedOrders = true) (hbase : BaseOK P (startL G y) G base) {g : FuncId}
    (hb : isTrueB (deepB P G ext fuel base mt d g [] (startL G y)) = true) (hg : Nat.beq g yid = false := by rfl) : PFact P (startL G y) G g [] (.bool true) := by
  cases hd : deepB P G ext fuel base mt d g [] (startL G y) with
  | none => rw [hd] at hb; simp [isTrueB] at hb
  | some r =>
    obtain ⟨v, ho⟩ := r
    rw [hd] at hb
    unfold isTrueB at hb
    split at hb
    · rename_i e
      cases e
      exact fact_of (deepB_ok hext hname hmix hbase mt d) (startL_ok hs) rfl rfl hd hg
    · cases hb

/-- An answer is the value that was said. -/
def isV (v : Value) : R → Bool
  | some (u, none) => sameV u v
  | _ => false

theorem fact_of_run {ext : FuncId → Option Ext} {fuel d : Nat} {base : Orc} {mt : FuncId → Nat} (hs : shutY G y = true) (hext : ExtOK P ext) (hname : NoNum P) (hmix : P.follows .mixedOrders = true) (hbase : BaseOK P (startL G y) G base) {g : FuncId} {args : List Value} {v : Value}
    (ha : pureL args = true) (hv : pureV v = true) (hb : isV v (deepB P G ext fuel base mt d g args (startL G y)) = true) (hg : Nat.beq g yid = false := by rfl) : PFact P (startL G y) G g args v := by
  cases hd : deepB P G ext fuel base mt d g args (startL G y) with
  | none => rw [hd] at hb; simp [isV] at hb
  | some r =>
    obtain ⟨u, ho⟩ := r
    rw [hd] at hb
    unfold isV at hb
    split at hb
    · rename_i e
      cases e
      have := sameV_eq hb
      subst this
      exact fact_of (deepB_ok hext hname hmix hbase mt d) (startL_ok hs) ha hv hd hg
    · cases hb

theorem memo_nil : BaseOK P (startL G y) G (memo []) := memo_ok (fun q hq => by cases hq)

end

/-- No function bears the name that the machine treats apart, by one look at all. -/
def noNumB (P : Program) : Bool := P.funcs.all fun fn => !(fn.name == "runtime.NumGoroutine")
theorem noNum_of {P : Program} (h : noNumB P = true) : NoNum P := by
  intro f fn hf
  unfold noNumB at h
  rw [Array.all_eq_true] at h
  obtain ⟨hlt, rfl⟩ := Array.getElem?_eq_some_iff.1 hf
  simpa using h f hlt

end Go.Proofs.YtebaekbmminjnaaGreatDoor.V
