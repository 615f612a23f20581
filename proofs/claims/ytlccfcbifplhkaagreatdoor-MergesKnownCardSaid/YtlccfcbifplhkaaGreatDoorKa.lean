/- A call without arguments that the small machine answers 'true' from the empty memory returns true and leaves all memory that was there. Conditions: the program's tables (the served functions, the names). -/
import Derived.Test.YtlccfcbifplhkaaGreatDoorVn
import Derived.ChangeSame
namespace Go.Proofs.YtlccfcbifplhkaaGreatDoor.V
open Go Go.ChangeShapes

/-- The start: nothing known of the memory but the variables' places. -/
def start (G : Nat) : AH := { t := .leaf none, next := G, lock := G, imp := G }
def isTrueB : R → Bool
  | some (.bool true, none) => true
  | _ => false

/-- All that was there is there yet. -/
def Kept (w w' : World) : Prop := w'.os = w.os ∧ w'.output = w.output ∧ w.heap.size ≤ w'.heap.size ∧ ∀ b, b < w.heap.size → w'.heap[b]? = w.heap[b]?

theorem Kept.but {w w' : World} (h : Kept w w') (may : MemPlace → Prop) : w.keptBut w' may := by
  refine ⟨h.1, h.2.1, fun i hi => ?_⟩
  rw [h.2.2.2 i hi]
  cases w.heap[i]? with
  | none => rfl
  | some o => cases o <;> simp

theorem post_of_kept {H : Type} {enc : TypeId × Value → H} {P : Program} {f : Func} {s : ChangeSpec} {apart fresh handsOn : Bool} {W W' : World} {args : Array Value} {v : Value} {ds gs : List (DataW H)} {before pa pv : List MemPlace}
    (hW : DataW.Whole enc P f.params.toList s.vars apart W args.toList ds gs before)
    (hres : ∀ (b : Nat) (sp : Nat → Bool) (hd : Bool), DataW.TrodAll enc P W' b sp hd f.resultTypes.toList (v.resultList f.resultTypes.size) (s.fn H (ds ++ gs)).results [])
    (hargs : ∀ sp : Nat → Bool, (∀ p ∈ before, sp p.block = true) → DataW.TrodAll enc P W' 0 sp true f.params.toList args.toList (s.fn H (ds ++ gs)).args pa)
    (hvars : ∀ sp : Nat → Bool, (∀ p ∈ before, sp p.block = true) → DataW.TrodVars enc P W' sp s.vars (s.fn H (ds ++ gs)).vars pv)
    (hk : Kept W W') : s.post enc P f apart fresh handsOn false W args v W' := by
  have hold : ∀ p ∈ before, (fun b => decide (b < W.heap.size)) p.block = true := fun p hp => by simpa using hW.lt p hp
  exact ⟨ds, gs, before, [], pa, pv, hW, hres _ _ _, hargs _ hold, hvars _ hold, hk.but _, fun h => by cases h⟩

theorem start_get (G i : Nat) : (start G).get i = none := by
  simp only [start, AH.get, T.get]
  split <;> rfl

theorem start_HR {G : Nat} (hG : G ≤ 65536) (w : World) : ∃ μ, HR G μ (start G) w := by
  refine ⟨fun i => if i < G then some ⟨i, 0, 0, 0⟩ else none, T.fits_leaf _ _, hG, Nat.le_refl _, ?_, ?_, ?_, ?_⟩
  · intro i hi
    have : ¬ i < G := Nat.not_lt.2 hi
    simp [this]
  · intro g hg
    exact ⟨⟨g, 0, 0, 0⟩, by simp [hg], rfl, rfl⟩
  · intro i b hb; rw [start_get] at hb; cases hb
  · intro i j li lj _ _ hi _ _ _; exact absurd (start_get G i) hi

theorem kept_of_FR {G : Nat} {μ ν : Mu} {w w' : World} {h' : AH} (f : FR (start G) μ w h' ν w') : Kept w w' :=
  ⟨f.os, f.output, f.size, fun b hb => f.blk b hb (by
    rintro ⟨i, l, _, hg, _, _⟩
    exact hg (start_get G i))⟩

theorem closed_call {P : Program} {G fuel d : Nat} {ext : FuncId → Option Ext} {mt : FuncId → Bool} {g : FuncId} (hext : ExtOK P ext) (hname : NoNum P) (hmix : P.follows .mixedOrders = true) (hG : G ≤ 65536)
    (hb : isTrueB (deepB P G ext fuel mt d g [] (start G)) = true) (w : World) :
    Calls P g #[] w fun e w' => e = .returned (.bool true) ∧ Kept w w' := by
  obtain ⟨μ, hr⟩ := start_HR hG w
  cases hd : deepB P G ext fuel mt d g [] (start G) with
  | none => rw [hd] at hb; simp [isTrueB] at hb
  | some r =>
    obtain ⟨v, ho⟩ := r
    rw [hd] at hb
    have hv : v = .bool true := by
      unfold isTrueB at hb; split at hb
      · rename_i e; cases e; rfl
      · cases hb
    subst hv
    refine ((deepB_ok (fuel := fuel) hext hname hmix mt d) g [] _ _ _ hd μ w [] hr VRL.nil).mono fun e w' ⟨v', he, ν, hv, _, f⟩ => ?_
    refine ⟨?_, kept_of_FR f⟩
    rw [he]; simp only [VR] at hv; rw [hv]

/-- No function bears the name that the machine treats apart, by one look at all. -/
def noNumB (P : Program) : Bool := P.funcs.all fun fn => !(fn.name == "runtime.NumGoroutine")
theorem noNum_of {P : Program} (h : noNumB P = true) : NoNum P := by
  intro f fn hf
  unfold noNumB at h
  rw [Array.all_eq_true] at h
  obtain ⟨hlt, rfl⟩ := Array.getElem?_eq_some_iff.1 hf
  simpa using h f hlt

end Go.Proofs.YtlccfcbifplhkaaGreatDoor.V
