/- A call's answer by the kernel's run, where calls are deferred and panics raised. Conditions: the program's tables. -/
import Derived.Test.YtelimgiehdfblaaGreatDoorKa
import Derived.Test.YtelimgiehdfblaaGreatDoorVt
namespace Go.Proofs.YtelimgiehdfblaaGreatDoor.V
set_option linter.all false
open Go Go.ChangeShapes

section
variable {P : Program} {G : Nat} {y : List (Nat × List Value) × List (List Value)}

/-- The same where calls are deferred and panics raised. -/
theorem fact_of_runX {ext : FuncId → Option Ext} {fuel d : Nat} {base : Orc} {mt : FuncId → Nat} {pt : FuncId → Bool} (hs : shutY G y = true) (hext : ExtOK P ext) (hname : NoNum P) (hmix : P.follows .mixedOrders = true) (hbase : BaseOK P (startL G y) G base) {g : FuncId} {args : List Value} {v : Value}
    (ha : pureL args = true) (hv : pureV v = true) (hb : isV v ((deepX P G ext fuel base mt pt d).1 g args (startL G y)) = true) (hg : Nat.beq g yid = false := by rfl) : PFact P (startL G y) G g args v := by
  cases hd : (deepX P G ext fuel base mt pt d).1 g args (startL G y) with
  | none => rw [hd] at hb; simp [isV] at hb
  | some r =>
    obtain ⟨u, ho⟩ := r
    rw [hd] at hb
    unfold isV at hb
    split at hb
    · rename_i e
      cases e
      have := sameV_eq hb
      subst this
      exact fact_of (deepX_ok hext hname hmix hbase mt pt d).1 (startL_ok hs) ha hv hd hg
    · cases hb

end

end Go.Proofs.YtelimgiehdfblaaGreatDoor.V
