/- ItemMany's call answers true, whatever the arguments. Conditions: none. -/
import Derived.Test.YtibffohcmegooaaGreatDoorKx
import Derived.Test.YtibffohcmegooaaGreatDoorGj
namespace Go.Proofs.YtibffohcmegooaaGreatDoor.V
set_option linter.all false
open Go
noncomputable section

def ML : List (FuncId × List Value × Value) := [(5, [.int .i64 1], .agg ⟨itA 3 t1B⟩), (5, [.int .i64 2], .agg ⟨itA 3 t2B⟩), (10, [.string tX], .agg ⟨itA 1 tX⟩), (32, [atm 3 t1B], .bool true), (32, [atm 3 t2B], .bool true), (32, [atm 1 tX], .bool true), (9, [], .bool true)]
theorem ML_ok : ∀ q ∈ ML, PFact Tryz.prog Z 19 q.1 q.2.1 q.2.2 :=
  List.forall_mem_cons.2 ⟨n1, List.forall_mem_cons.2 ⟨n2, List.forall_mem_cons.2 ⟨n3, List.forall_mem_cons.2 ⟨n4, List.forall_mem_cons.2 ⟨n5, List.forall_mem_cons.2 ⟨n6, List.forall_mem_cons.2 ⟨m7, fun q hq => by cases hq⟩⟩⟩⟩⟩⟩⟩

theorem memo_yes {g : FuncId} {args : List Value} {v : Value} {h : AH} (hf : h.fl = true) (hm : findMemo g args ML = some v) : memo ML g args h = some (v, none) := by
  unfold memo
  rw [hf]
  simp only [hm]

theorem beforehand : BeforeG (memo ML) where
  num1 := fun h hf => memo_yes hf rfl
  num2 := fun h hf => memo_yes hf rfl
  str := fun h hf => memo_yes hf rfl
  val1 := fun h hf => memo_yes hf rfl
  val2 := fun h hf => memo_yes hf rfl
  valX := fun h hf => memo_yes hf rfl
  works := fun h hf => memo_yes hf rfl

theorem find_no {g : FuncId} {args : List Value} : ∀ (l : List (FuncId × List Value × Value)), (∀ q ∈ l, Nat.beq q.1 g = false) → findMemo g args l = none
  | [], _ => rfl
  | (f, a, v) :: l, h => by
    have h1 : Nat.beq f g = false := h _ (List.mem_cons_self ..)
    simp only [findMemo, h1]
    exact find_no l fun q hq => h q (List.mem_cons_of_mem _ hq)

theorem reads : Alike Tryz.prog Tryz.prog (memo ML) walkG where
  ut := fun _ => rfl
  sz := fun _ => rfl
  ag := fun _ => rfl
  ze := fun _ => rfl
  inf := fun _ => rfl
  fn := fun _ => rfl
  no := fun g args h hw => by
    have hk : ∀ q ∈ ML, Nat.beq q.1 g = false := by
      intro q hq
      cases hb : Nat.beq q.1 g with
      | false => rfl
      | true =>
        have := beq_iff.1 hb
        subst this
        have hall : ∀ q ∈ ML, walkG q.1 = false := by
          simp only [ML, List.forall_mem_cons]
          exact ⟨rfl, rfl, rfl, rfl, rfl, rfl, rfl, fun q hq => by cases hq⟩
        rw [hall q hq] at hw
        cases hw
    unfold memo
    cases h.fl with
    | false => rfl
    | true => simp only [find_no ML hk]

theorem hok_of {H : AH} {G : Nat} (s : Start H G) : HOK H := ⟨s.fits, s.nxt⟩
theorem imp_of {H : AH} {G : Nat} (s : Start H G) : H.imp ≤ H.next := Nat.le_of_eq s.imp
theorem next_of {G : Nat} {y : List (Nat × List Value) × List (List Value)} (h : Nat.ble (G + y.2.length + 1) 1000 = true) : (startL G y).next < 1000 := Nat.le_of_ble_eq_true h
theorem Z_ok : HOK Z := hok_of (startL_ok shut)
theorem Z_small : Z.next < 1000 := next_of (by kernel_rfl)
theorem law_call {d nn : Nat} {ar : Bool} (h1 : nn < 256) (hd : 100 ≤ d) : deepF Tryz.prog 19 ext1 2199023255552 (memo ML) mtG d 3 [.int .u8 nn, .bool ar] Z = some (.bool true, none) := by
  cases ar
  · exact many_flat reads beforehand Z_ok (startL_ok shut).fl (imp_of (startL_ok shut)) Z_small hd h1
  · exact many_arr reads beforehand Z_ok (startL_ok shut).fl (imp_of (startL_ok shut)) Z_small hd h1
theorem law_fact {nn : Nat} {ar : Bool} (h1 : nn < 256) : PFact Tryz.prog Z 19 3 [.int .u8 nn, .bool ar] (.bool true) :=
  fact_of (deepF_ok (fuel := 2199023255552) ext_ok noNum Tryz.checked.mixed (memo_ok ML_ok) mtG 100) (startL_ok shut) rfl rfl (law_call h1 (Nat.le_refl 100))
end
end Go.Proofs.YtibffohcmegooaaGreatDoor.V
