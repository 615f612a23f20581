/- ItemDepth's call answers true, whatever the arguments. Conditions: none. -/
import Derived.Test.YtiecjjcemnafaaaGreatDoorKx
import Derived.Test.YtiecjjcemnafaaaGreatDoorHq
namespace Go.Proofs.YtiecjjcemnafaaaGreatDoor.V
set_option linter.all false
open Go
noncomputable section

def ML : List (FuncId × List Value × Value) := [(22, [.int .i64 7], .agg (itA 3 ⟨#[55]⟩)), (55, [atm 3 ⟨#[55]⟩], .bool true), (55, [atm 1 ⟨#[107]⟩], .bool true), (87, [.string ⟨#[118]⟩], .bool true), (108, [.string ⟨#[101, 113]⟩, atm 3 ⟨#[55]⟩, atm 3 ⟨#[55]⟩], .tuple #[.bool true, .int .i64 0]), (113, [atm 1 ⟨#[107]⟩, atm 1 ⟨#[107]⟩], .bool true), (13, [], .bool true)]
theorem ML_ok : ∀ q ∈ ML, PFact Tryz.prog Z 19 q.1 q.2.1 q.2.2 :=
  List.forall_mem_cons.2 ⟨n1, List.forall_mem_cons.2 ⟨n2, List.forall_mem_cons.2 ⟨n3, List.forall_mem_cons.2 ⟨n4, List.forall_mem_cons.2 ⟨n5, List.forall_mem_cons.2 ⟨n6, List.forall_mem_cons.2 ⟨m77, fun q hq => by cases hq⟩⟩⟩⟩⟩⟩⟩

theorem memo_yes {g : FuncId} {args : List Value} {v : Value} {h : AH} (hf : h.fl = true) (hm : findMemo g args ML = some v) : memo ML g args h = some (v, none) := by
  unfold memo
  rw [hf]
  simp only [hm]

theorem beforehand : Beforehand (memo ML) where
  num := fun h hf => memo_yes hf rfl
  val := fun h hf => memo_yes hf rfl
  key := fun h hf => memo_yes hf rfl
  name := fun h hf => memo_yes hf rfl
  eq := fun h hf => memo_yes hf rfl
  same := fun h hf => memo_yes hf rfl
  works := fun h hf => memo_yes hf rfl

theorem find_no {g : FuncId} {args : List Value} : ∀ (l : List (FuncId × List Value × Value)), (∀ q ∈ l, Nat.beq q.1 g = false) → findMemo g args l = none
  | [], _ => rfl
  | (f, a, v) :: l, h => by
    have h1 : Nat.beq f g = false := h _ (List.mem_cons_self ..)
    simp only [findMemo, h1]
    exact find_no l fun q hq => h q (List.mem_cons_of_mem _ hq)

theorem reads : Alike Tryz.prog Tryz.prog (memo ML) walkI where
  ut := fun _ => rfl
  sz := fun _ => rfl
  ag := fun _ => rfl
  ze := fun _ => rfl
  inf := fun _ => rfl
  fn := fun _ => rfl
  no := fun g args h hw => by
    have hk : ∀ q ∈ ML, Nat.beq q.1 g = false := by
      intro q hq
      cases hb : Nat.beq q.1 g with
      | false => rfl
      | true =>
        have := beq_iff.1 hb
        subst this
        have hall : ∀ q ∈ ML, walkI q.1 = false := by
          simp only [ML, List.forall_mem_cons]
          exact ⟨rfl, rfl, rfl, rfl, rfl, rfl, rfl, fun q hq => by cases hq⟩
        rw [hall q hq] at hw
        cases hw
    unfold memo
    cases h.fl with
    | false => rfl
    | true => simp only [find_no ML hk]

theorem hok_of {H : AH} {G : Nat} (s : Start H G) : HOK H := ⟨s.fits, s.nxt⟩
theorem imp_of {H : AH} {G : Nat} (s : Start H G) : H.imp ≤ H.next := Nat.le_of_eq s.imp
theorem next_of {G : Nat} {y : List (Nat × List Value) × List (List Value)} (h : Nat.ble (G + y.2.length + 1) 1000 = true) : (startL G y).next < 1000 := Nat.le_of_ble_eq_true h
theorem Z_ok : HOK Z := hok_of (startL_ok shut)
theorem Z_small : Z.next < 1000 := next_of (by kernel_rfl)
theorem law_call {d nn kn : Nat} (hd : 4000 ≤ d) (h1 : nn < 256) (h2 : kn < 256) : deepF Tryz.prog 19 ext1 2199023255552 (memo ML) mtI d 6 [.int .u8 nn, .int .u8 kn] Z = some (.bool true, none) :=
  law_ok reads beforehand Z_ok (startL_ok shut).fl (imp_of (startL_ok shut)) Z_small hd h1 h2
theorem law_fact_at {d nn kn : Nat} (hd : 4000 ≤ d) (h1 : nn < 256) (h2 : kn < 256) : PFact Tryz.prog Z 19 6 [.int .u8 nn, .int .u8 kn] (.bool true) :=
  fact_of (deepF_ok (fuel := 2199023255552) ext_ok noNum Tryz.checked.mixed (memo_ok ML_ok) mtI d) (startL_ok shut) rfl rfl (law_call hd h1 h2)
theorem law_fact {nn kn : Nat} (h1 : nn < 256) (h2 : kn < 256) : PFact Tryz.prog Z 19 6 [.int .u8 nn, .int .u8 kn] (.bool true) := law_fact_at (Nat.le_refl 4000) h1 h2
end
end Go.Proofs.YtiecjjcemnafaaaGreatDoor.V
