/- Symbolic runs: appending to a row of open capacity. Conditions: none. -/
import Derived.Test.YtibffohcmegooaaGreatDoorWb
namespace Go.Proofs.YtibffohcmegooaaGreatDoor.V
set_option linter.all false
open Go
noncomputable section

/-- What stands where a row has grown out of a block. -/
structure Grown (h h' : AH) (old : Option Nat) (b : Blk) : Prop where
  get : ∀ j, h'.get j = if j = h.next then some b else if some j = old then none else h.get j
  next : h'.next = h.next + 1
  lock : h'.lock = h.lock
  imp : h'.imp = h.imp
  fl : h'.fl = h.fl
  ok : HOK h'

theorem Grown.of_new {h h' : AH} {b : Blk} (n : New h h' b) : Grown h h' none b :=
  ⟨fun j => by rw [n.get]; split <;> simp, n.next, n.lock, n.imp, n.fl, n.ok⟩

theorem Grown.of_put {h h1 h2 : AH} {i : Nat} {b : Blk} (hi : i < h.next) (u : Upd h h1 i none) (n : New h1 h2 b) : Grown h h2 (some i) b :=
  ⟨fun j => by
    rw [n.get, u.next, u.get]
    by_cases h1 : j = h.next
    · rw [if_pos h1, if_pos h1]
    · rw [if_neg h1, if_neg h1]
      by_cases h2 : j = i
      · rw [if_pos h2, if_pos (by rw [h2])]
      · rw [if_neg h2, if_neg (by simpa using h2)], by rw [n.next, u.next], by rw [n.lock, u.lock], by rw [n.imp, u.imp], by rw [n.fl, u.fl], n.ok⟩

section
variable {P : Program} {h : AH} {t tx elem ex : TypeId} {i : TypeInfo} {z : Value}

/-- Onto nil. -/
theorem appendS_nil (hok : HOK h) (h1 : P.underlying t = some (.slice elem)) (h2 : P.underlying tx = some (.slice ex)) (h3 : P.info? elem = some i) (h4 : zeroOf P elem = some z) (h5 : z.cells.size = i.size) {e : Nat} (h6 : i.size = e + 1)
    {b2 o2 m c2 : Nat} {c : Array Value} {g : Gw} (hm : 0 < m) (hb2 : h.get b2 = some (.cells c g)) (hle : o2 + m * i.size ≤ c.size) (hbig : m * (i.bytes + 1) ≤ 1099511627776) (hn : h.next < 16777216) :
    ∃ h', appendB P h #[t, tx] (.slice none 0 0) (.slice (some ⟨b2, o2, none⟩) m c2) = some (.slice (some ⟨h.next, 0, none⟩) m m, some h') ∧ Grown h h' none (.cells ((c.toList.drop o2).take (m * i.size)).toArray (.up e (some elem))) := by
  obtain ⟨h', e1, e2⟩ := hok.new hn (.cells ((c.toList.drop o2).take (m * i.size)).toArray (.up e (some elem)))
  refine ⟨h', ?_, .of_new e2⟩
  have hlen : ((c.toList.drop o2).take (m * i.size)).length = m * i.size := by simp; omega
  have hpos : 0 < m * i.size := Nat.mul_pos hm (by omega)
  obtain ⟨v, vs, hcons⟩ : ∃ v vs, (c.toList.drop o2).take (m * i.size) = v :: vs := by
    cases hc : (c.toList.drop o2).take (m * i.size) with
    | nil => rw [hc] at hlen; simp at hlen; omega
    | cons v vs => exact ⟨v, vs, rfl⟩
  have hf : firstB h i.size m (.slice (some ⟨b2, o2, none⟩) m c2) = some ((c.toList.drop o2).take (m * i.size)) := by
    unfold firstB
    simp only [hb2, ble_iff.2 hle]
  unfold appendB
  simp only [List.getElem?_toArray, List.getElem?_cons_zero, List.getElem?_cons_succ, h1, h2, h3, h4, lenB, isIntD, beq_iff.2 h5, Nat.zero_add, ble_iff.2 hbig, hf, beq_iff.2 hlen]
  have hz : Nat.beq i.size 0 = false := by rw [h6]; rfl
  simp only [hz]
  rw [hcons] at e1 ⊢
  unfold appendTo
  simp only [show Nat.beq 0 0 = true from rfl]
  unfold newB
  rw [h6]
  simp only [gwOf]
  rw [e1]

/-- Onto a full row of open capacity. -/
theorem appendS_up (hok : HOK h) (h1 : P.underlying t = some (.slice elem)) (h2 : P.underlying tx = some (.slice ex)) (h3 : P.info? elem = some i) (h4 : zeroOf P elem = some z) (h5 : z.cells.size = i.size) {e : Nat} (h6 : i.size = e + 1)
    {b2 o2 m c2 : Nat} {c : Array Value} {g : Gw} (hm : 0 < m) (hb2 : h.get b2 = some (.cells c g)) (hle : o2 + m * i.size ≤ c.size) (hone : ((c.toList.drop o2).take (m * i.size)).all oneB = true)
    {b k : Nat} {cs : Array Value} (hb : h.get b = some (.cells cs (.up e (some elem)))) (hmay : h.may b = true) (hk : k * i.size ≤ cs.size) (hbig : (k + m) * (i.bytes + 1) ≤ 1099511627776) (hn : h.next < 16777216) :
    ∃ h', appendB P h #[t, tx] (.slice (some ⟨b, 0, none⟩) k k) (.slice (some ⟨b2, o2, none⟩) m c2) = some (.slice (some ⟨h.next, 0, none⟩) (k + m) (k + m), some h') ∧
      Grown h h' (some b) (.cells (cs.toList.take (k * i.size) ++ (c.toList.drop o2).take (m * i.size)).toArray (.up e (some elem))) := by
  have hlt := HOK.lt hmay hb
  have hu := hok.put hlt none
  obtain ⟨h', e1, e2⟩ := hu.ok.new (by show h.next < 16777216; exact hn) (.cells (cs.toList.take (k * i.size) ++ (c.toList.drop o2).take (m * i.size)).toArray (.up e (some elem)))
  refine ⟨h', ?_, .of_put hlt hu e2⟩
  have hlen : ((c.toList.drop o2).take (m * i.size)).length = m * i.size := by simp; omega
  have hpos : 0 < m * i.size := Nat.mul_pos hm (by omega)
  have hf : firstB h i.size m (.slice (some ⟨b2, o2, none⟩) m c2) = some ((c.toList.drop o2).take (m * i.size)) := by
    unfold firstB
    simp only [hb2, ble_iff.2 hle]
  have hcap : Nat.ble (k + m) k = false := by
    cases hb : Nat.ble (k + m) k with
    | false => rfl
    | true => have := ble_iff.1 hb; omega
  have hz : Nat.beq i.size 0 = false := by rw [h6]; rfl
  unfold appendB
  simp only [List.getElem?_toArray, List.getElem?_cons_zero, List.getElem?_cons_succ, h1, h2, h3, h4, lenB, isIntD, beq_iff.2 h5, ble_iff.2 hbig, hf, beq_iff.2 hlen, hz]
  generalize hnew : (c.toList.drop o2).take (m * i.size) = new at hlen hone e1 ⊢
  cases new with
  | nil => simp at hlen; omega
  | cons v vs =>
    unfold appendTo
    simp only [hb, hcap, Nat.zero_add, ble_iff.2 hk, hmay, hone, beq_iff.2 h6.symm, List.drop_zero, upTy, show Nat.beq 0 0 = true from rfl, beq_iff.2 rfl]
    unfold newB
    rw [e1]
    rfl

/-- In place. -/
theorem appendS_in (hok : HOK h) (h1 : P.underlying t = some (.slice elem)) (h2 : P.underlying tx = some (.slice ex)) (h3 : P.info? elem = some i) (h4 : zeroOf P elem = some z) (h5 : z.cells.size = i.size) (h6 : 0 < i.size)
    {b2 o2 m c2 : Nat} {c : Array Value} {g : Gw} (hm : 0 < m) (hb2 : h.get b2 = some (.cells c g)) (hle : o2 + m * i.size ≤ c.size) (hone : ((c.toList.drop o2).take (m * i.size)).all oneB = true)
    {b o k sc : Nat} {cs : Array Value} {g' : Gw} (hb : h.get b = some (.cells cs g')) (hmay : h.may b = true) (hk : k + m ≤ sc) (hcs : o + (k + m) * i.size ≤ cs.size) (hbig : (k + m) * (i.bytes + 1) ≤ 1099511627776) :
    ∃ h', appendB P h #[t, tx] (.slice (some ⟨b, o, none⟩) k sc) (.slice (some ⟨b2, o2, none⟩) m c2) = some (.slice (some ⟨b, o, none⟩) (k + m) sc, some h') ∧
      Upd h h' b (some (.cells (putL cs (o + k * i.size) ((c.toList.drop o2).take (m * i.size))) g')) := by
  have hlt := HOK.lt hmay hb
  refine ⟨_, ?_, hok.put hlt _⟩
  have hlen : ((c.toList.drop o2).take (m * i.size)).length = m * i.size := by simp; omega
  have hpos : 0 < m * i.size := Nat.mul_pos hm h6
  have hf : firstB h i.size m (.slice (some ⟨b2, o2, none⟩) m c2) = some ((c.toList.drop o2).take (m * i.size)) := by
    unfold firstB
    simp only [hb2, ble_iff.2 hle]
  have hz : Nat.beq i.size 0 = false := by
    cases hb : Nat.beq i.size 0 with
    | false => rfl
    | true => have := beq_iff.1 hb; omega
  unfold appendB
  simp only [List.getElem?_toArray, List.getElem?_cons_zero, List.getElem?_cons_succ, h1, h2, h3, h4, lenB, isIntD, beq_iff.2 h5, ble_iff.2 hbig, hf, beq_iff.2 hlen, hz]
  have hroom : o + k * i.size + m * i.size ≤ cs.size := by rw [Nat.add_assoc, ← Nat.add_mul]; exact hcs
  generalize hnew : (c.toList.drop o2).take (m * i.size) = new at hlen hone ⊢
  cases new with
  | nil => simp at hlen; omega
  | cons v vs =>
    unfold appendTo
    have h7 : Nat.ble (o + k * i.size + (v :: vs).length) cs.size = true := ble_iff.2 (by rw [hlen]; exact hroom)
    simp only [hb, ble_iff.2 hk, hmay, hone, h7]

theorem makeS_new (hok : HOK h) (h1 : P.underlying t = some (.slice elem)) (h3 : P.info? elem = some i) (h4 : zeroOf P elem = some z) (h5 : z.cells.size = i.size) {k1 k2 : IntKind} {l c : Nat} (hlc : l ≤ c) (hbig : c * (i.bytes + 1) ≤ 1099511627776) (hn : h.next < 16777216) :
    ∃ h', makeSliceB P h t (.int k1 (l : Int)) (.int k2 (c : Int)) = some (.slice (some ⟨h.next, 0, none⟩) l c, some h') ∧ New h h' (.cells (zerosB z.cells.toList c).toArray .no) := by
  obtain ⟨h', e1, e2⟩ := hok.new hn (.cells (zerosB z.cells.toList c).toArray .no)
  refine ⟨h', ?_, e2⟩
  unfold makeSliceB
  simp only [h1, Int.ofNat_eq_natCast, h3, h4, beq_iff.2 h5, ble_iff.2 hlc, ble_iff.2 hbig]
  unfold newB
  rw [e1]

theorem append_of {h : AH} {ts : Array TypeId} {s x : Value} {r : Value × Option AH} (ha : appendB P h ts s x = some r) : builtinB P h .append ts [s, x] = some r := by
  simp only [builtinB, ha]
end
end
end Go.Proofs.YtibffohcmegooaaGreatDoor.V

namespace Go.Proofs.YtibffohcmegooaaGreatDoor.V
set_option linter.all false
open Go
noncomputable section

section
variable {h h' : AH} {i j : Nat} {b : Option Blk} {c : Blk} {x : Option Blk}
theorem Upd.at (u : Upd h h' i b) : h'.get i = b := by rw [u.get, if_pos rfl]
theorem Upd.ne (u : Upd h h' i b) (hn : j ≠ i) (hx : h.get j = x) : h'.get j = x := by rw [u.get, if_neg hn]; exact hx
theorem New.at (u : New h h' c) : h'.get h.next = some c := by rw [u.get, if_pos rfl]
theorem New.ne (u : New h h' c) (hn : j ≠ h.next) (hx : h.get j = x) : h'.get j = x := by rw [u.get, if_neg hn]; exact hx
theorem Upd.mayOf (u : Upd h h' i b) (hm : h.may j = true) : h'.may j = true := by
  unfold AH.may AH.own at hm ⊢
  rw [u.lock, u.imp]; exact hm
theorem New.mayOf (u : New h h' c) (hm : h.may j = true) : h'.may j = true := by
  unfold AH.may AH.own at hm ⊢
  rw [u.lock, u.imp]; exact hm
theorem New.mayNew (u : New h h' c) (hok : HOK h) (h1 : h.lock ≤ h.next) (h2 : h.imp ≤ h.next) (hlt : h.next < 16777216) : h'.may h.next = true := by
  unfold AH.may
  simp only [Bool.and_eq_true]
  rw [u.lock]
  refine ⟨ble_iff.2 h1, AH.own_iff.2 ?_⟩
  rw [u.imp]
  omega
theorem New.lt (u : New h h' c) (hx : h.next < 16777216) : h.next < h'.next := by rw [u.next]; omega
theorem brk_true {b : Bool} {A B : Prop} (hb : b = true) (hA : A) : match (generalizing := false) b with | true => A | false => B := by cases hb; exact hA
theorem brk_false {b : Bool} {A B : Prop} (hb : b = false) (hB : B) : match (generalizing := false) b with | true => A | false => B := by cases hb; exact hB
end

/-! Short words. -/
theorem q1 {p : Prop} [Decidable p] : (decide p = true) = p := decide_eq_true_eq
theorem q2 {p : Prop} [Decidable p] : (decide p = false) ↔ ¬p := decide_eq_false_iff_not
theorem q3 {α : Type} [BEq α] [LawfulBEq α] {a b : α} : (a == b) = true ↔ a = b := beq_iff_eq
theorem q4 {α : Type} [BEq α] [LawfulBEq α] {a b : α} : (a == b) = false ↔ a ≠ b := beq_eq_false_iff_ne
theorem q5 {α : Type} {a : α} {l : List α} : (a :: l).length = l.length + 1 := List.length_cons
theorem q6 {α : Type} : ([] : List α).length = 0 := List.length_nil
theorem q7 {a b : Int} : (a != b) = true ↔ a ≠ b := bne_iff_ne
theorem q8 {a b : Int} : (a != b) = false ↔ a = b := bne_eq_false_iff_eq
theorem uA {h h' : AH} {i : Nat} {b : Option Blk} (u : Upd h h' i b) : h'.get i = b := u.at
theorem nA {h h' : AH} {c : Blk} (u : New h h' c) : h'.get h.next = some c := u.at
theorem uN {h h' : AH} {i j : Nat} {b x : Option Blk} (u : Upd h h' i b) (hn : j ≠ i) (hx : h.get j = x) : h'.get j = x := u.ne hn hx
theorem nN {h h' : AH} {j : Nat} {c : Blk} {x : Option Blk} (u : New h h' c) (hn : j ≠ h.next) (hx : h.get j = x) : h'.get j = x := u.ne hn hx

theorem sameL_int {k : IntKind} {z : Int} : sameL [.int k z] [.int k z] = true := by simp [sameL, sameV]
theorem beq_less {a b : Nat} (h : a < b) : Nat.beq a b = false := by
  cases hb : Nat.beq a b with
  | false => rfl
  | true => have := Nat.eq_of_beq_eq_true hb; omega

/-- What lies below a number is the same; the numbers grow. -/
structure Ke (K : Nat) (h h' : AH) : Prop where
  get : ∀ j, j < K → h'.get j = h.get j
  next : h.next ≤ h'.next
  lock : h'.lock = h.lock
  imp : h'.imp = h.imp
  fl : h'.fl = h.fl
  ok : HOK h'
theorem Ke.refl {K : Nat} {h : AH} (x : HOK h) : Ke K h h := ⟨fun _ _ => rfl, Nat.le_refl _, rfl, rfl, rfl, x⟩
theorem Ke.new {K : Nat} {h0 h h' : AH} {c : Blk} (s : Ke K h0 h) (u : New h h' c) (hK : K ≤ h.next) : Ke K h0 h' :=
  ⟨fun j hj => by rw [u.get, if_neg (by omega)]; exact s.get j hj, by rw [u.next]; have := s.next; omega, by rw [u.lock, s.lock], by rw [u.imp, s.imp], by rw [u.fl, s.fl], u.ok⟩
theorem Ke.upd {K : Nat} {h0 h h' : AH} {i : Nat} {b : Option Blk} (s : Ke K h0 h) (u : Upd h h' i b) (hK : K ≤ i) : Ke K h0 h' :=
  ⟨fun j hj => by rw [u.get, if_neg (by omega)]; exact s.get j hj, by rw [u.next]; exact s.next, by rw [u.lock, s.lock], by rw [u.imp, s.imp], by rw [u.fl, s.fl], u.ok⟩
theorem Ke.trans {K : Nat} {h0 h h' : AH} (s : Ke K h0 h) (u : Ke K h h') : Ke K h0 h' :=
  ⟨fun j hj => (u.get j hj).trans (s.get j hj), Nat.le_trans s.next u.next, u.lock.trans s.lock, u.imp.trans s.imp, u.fl.trans s.fl, u.ok⟩
theorem Ke.at {K j : Nat} {h h' : AH} {x : Option Blk} (s : Ke K h h') (hj : j < K) (hx : h.get j = x) : h'.get j = x := (s.get j hj).trans hx
theorem Ke.mayOf {K j : Nat} {h h' : AH} (s : Ke K h h') (hm : h.may j = true) : h'.may j = true := by
  unfold AH.may AH.own at hm ⊢
  rw [s.lock, s.imp]; exact hm
theorem Ke.down {K L : Nat} {h h' : AH} (s : Ke K h h') (hL : L ≤ K) : Ke L h h' := ⟨fun j hj => s.get j (by omega), s.next, s.lock, s.imp, s.fl, s.ok⟩
section
variable {h h' : AH} {i : Nat} {b : Option Blk} {c : Blk} {x : Bool}
theorem Upd.flOf (u : Upd h h' i b) (hx : h.fl = x) : h'.fl = x := u.fl.trans hx
theorem New.flOf (u : New h h' c) (hx : h.fl = x) : h'.fl = x := u.fl.trans hx
theorem Ke.flOf {K : Nat} (u : Ke K h h') (hx : h.fl = x) : h'.fl = x := u.fl.trans hx
theorem Upd.keep {j : Nat} {h0 : AH} (u : Upd h h' i b) (hn : j ≠ i) (hx : h.get j = h0.get j) : h'.get j = h0.get j := by rw [u.get, if_neg hn]; exact hx
theorem New.keep {j : Nat} {h0 : AH} (u : New h h' c) (hn : j ≠ h.next) (hx : h.get j = h0.get j) : h'.get j = h0.get j := by rw [u.get, if_neg hn]; exact hx
end

section
variable {P : Program} {ext : FuncId → Option Ext} {orc : Orc} {h : AH} {g : FuncId} {fn : Func} {first captured args : List Value} {k : VK}
/-- A call whose answer is known, memory left alone. -/
theorem callB_pure (hf : P.funcs[g]? = some fn) (hb : fn.body.isSome = true) (hk : HOK h ∧ ∃ v, orc g (first ++ args ++ captured) h = some (v, none) ∧ k v none) :
    ∃ v ho, callB P ext orc h (.func (.func g) ⟨first⟩ ⟨captured⟩) args = some (v, ho) ∧ HOK (ho.getD h) ∧ k v ho := by
  obtain ⟨c, hc⟩ := Option.isSome_iff_exists.1 hb
  obtain ⟨hok, v, ho, hk⟩ := hk
  exact ⟨v, none, (callB_fn hf hc).trans ho, hok, hk⟩
/-- A call that leaves another memory. -/
theorem callB_heap (hf : P.funcs[g]? = some fn) (hb : fn.body.isSome = true) (hk : ∃ Q : Value → AH → Prop, (∃ v h', orc g (first ++ args ++ captured) h = some (v, some h') ∧ HOK h' ∧ Q v h') ∧ ∀ v h', HOK h' → Q v h' → k v (some h')) :
    ∃ v ho, callB P ext orc h (.func (.func g) ⟨first⟩ ⟨captured⟩) args = some (v, ho) ∧ HOK (ho.getD h) ∧ k v ho := by
  obtain ⟨c, hc⟩ := Option.isSome_iff_exists.1 hb
  obtain ⟨Q, ⟨v, h', h1, h2, h3⟩, hk⟩ := hk
  exact ⟨v, some h', (callB_fn hf hc).trans h1, h2, hk v h' h2 h3⟩
/-- A call of whatever function, by its answer. -/
theorem callB_that {fv : Value} (hk : ∃ Q : Value → AH → Prop, (∃ v h', callB P ext orc h fv args = some (v, some h') ∧ HOK h' ∧ Q v h') ∧ ∀ v h', HOK h' → Q v h' → k v (some h')) :
    ∃ v ho, callB P ext orc h fv args = some (v, ho) ∧ HOK (ho.getD h) ∧ k v ho := by
  obtain ⟨Q, ⟨v, h', h1, h2, h3⟩, hk⟩ := hk
  exact ⟨v, some h', h1, h2, hk v h' h2 h3⟩
theorem callB_val {fv : Value} (hk : HOK h ∧ ∃ v, callB P ext orc h fv args = some (v, none) ∧ k v none) :
    ∃ v ho, callB P ext orc h fv args = some (v, ho) ∧ HOK (ho.getD h) ∧ k v ho := by
  obtain ⟨hok, v, h1, hk⟩ := hk
  exact ⟨v, none, h1, hok, hk⟩
/-- The other way round: a call through a value, by the function's answer. -/
theorem callB_by {r : Value × Option AH} (hf : P.funcs[g]? = some fn) (hb : fn.body.isSome = true) (ho : orc g (first ++ args ++ captured) h = some r) : callB P ext orc h (.func (.func g) ⟨first⟩ ⟨captured⟩) args = some r := by
  obtain ⟨c, hc⟩ := Option.isSome_iff_exists.1 hb
  exact (callB_fn hf hc).trans ho
end

end
end Go.Proofs.YtibffohcmegooaaGreatDoor.V

namespace Go.Proofs.YtibffohcmegooaaGreatDoor.V
set_option linter.all false
open Go
noncomputable section

/-- A program that reads as another one; what is known beforehand says nothing of the functions that are walked. -/
structure Alike (P P0 : Program) (base : Orc) (walk : Nat → Bool) : Prop where
  ut : ∀ t, P.underlying t = P0.underlying t
  sz : ∀ t, szOf P t = szOf P0 t
  ag : ∀ t, isAggB P t = isAggB P0 t
  ze : ∀ t, zeroOf P t = zeroOf P0 t
  inf : ∀ t, P.info? t = P0.info? t
  fn : ∀ g : FuncId, P.funcs[g]? = P0.funcs[g]?
  no : ∀ g args h, walk g = true → base g args h = none

section
variable {P : Program} {G fuel : Nat} {ext : FuncId → Option Ext} {base : Orc} {mt : FuncId → List Value → Nat} {g : FuncId} {fn : Func} {args : List Value} {h : AH}

theorem over_eq {d : Nat} {v : Value} (hd : 0 < d) (hg : Nat.beq g yid = false) (hb : base g args h = none) (hm : mt g args = 0) (hf : P.funcs[g]? = some fn) (hn : Nat.ble fn.ntmps 4095 = true) (hok : HOK h) (hv : pureV v = true)
    (hk : funcK P G ext fuel (deepF P G ext fuel base mt (d - 1)) fn args h.locked fun u _ => u = v) : deepF P G ext fuel base mt d g args h = some (v, none) := by
  obtain ⟨d, rfl⟩ : ∃ e, d = e + 1 := ⟨d - 1, by omega⟩
  obtain ⟨u, h', h1, _, rfl⟩ := funcK_ok hf hn hok.locked hk
  simp only [deepF, hg, hb, hm, overF]
  have h1' : bodyF P G ext fuel (deepF P G ext fuel base mt d) g args h.locked = some (u, h') := h1
  simp only [h1', hv]

theorem over_to {d : Nat} {Q : Value → AH → Prop} (hd : 0 < d) (hg : Nat.beq g yid = false) (hb : base g args h = none) (hm : mt g args = 0) (hf : P.funcs[g]? = some fn) (hn : Nat.ble fn.ntmps 4095 = true) (hok : HOK h)
    (hk : funcK P G ext fuel (deepF P G ext fuel base mt (d - 1)) fn args h.locked fun v h' => pureV v = false ∧ Q v { h' with lock := h.lock }) : ∃ v h', deepF P G ext fuel base mt d g args h = some (v, some h') ∧ HOK h' ∧ Q v h' := by
  obtain ⟨d, rfl⟩ : ∃ e, d = e + 1 := ⟨d - 1, by omega⟩
  exact over_any hg hb hm hf hn hok hk

theorem mut_to {d : Nat} {Q : Value → AH → Prop} (hd : 0 < d) (hg : Nat.beq g yid = false) (hb : base g args h = none) (hm : mt g args = 1 ∨ mt g args = 2) (hl : Nat.beq h.lock h.next = false) (hf : P.funcs[g]? = some fn) (hn : Nat.ble fn.ntmps 4095 = true) (hok : HOK h)
    (hk : funcK P G ext fuel (deepF P G ext fuel base mt (d - 1)) fn args h Q) : ∃ v h', deepF P G ext fuel base mt d g args h = some (v, some h') ∧ HOK h' ∧ Q v h' := by
  obtain ⟨d, rfl⟩ : ∃ e, d = e + 1 := ⟨d - 1, by omega⟩
  exact mut_any hg hb hm hl hf hn hok hk

theorem base_eq {r : Value × Option AH} (hg : Nat.beq g yid = false) (hb : base g args h = some r) : ∀ d, deepF P G ext fuel base mt d g args h = some r
  | 0 => by simp only [deepF, hg, hb]
  | d + 1 => by simp only [deepF, hg, hb]
end

end
end Go.Proofs.YtibffohcmegooaaGreatDoor.V

namespace Go.Proofs.YtibffohcmegooaaGreatDoor.V
set_option linter.all false
open Go
noncomputable section

section
variable {P : Program} {G n fuel : Nat} {ext : FuncId → Option Ext} {orc : Orc} {base : Orc} {mt : FuncId → List Value → Nat} {g : FuncId} {fn : Func} {h : AH} {first captured args : List Value} {y : Value}

theorem seqB_by {r : Value × Option AH} (hf : P.funcs[g]? = some fn) (hb : fn.body.isSome = true) (ho : orc g (first ++ [y] ++ captured) h = some r) : seqB P orc h (.func (.func g) ⟨first⟩ ⟨captured⟩) y = some r := by
  obtain ⟨c, hc⟩ := Option.isSome_iff_exists.1 hb
  unfold seqB
  simp only [hf, hc]
  exact ho

/-- The call of a function that is ranged over, by its answer. -/
theorem seq_of {Q K : AH → Prop} (hf : P.funcs[g]? = some fn) (hb : fn.body.isSome = true) (hk : ∃ v h2, orc g (first ++ [y] ++ captured) h = some (v, some h2) ∧ HOK h2 ∧ Q h2) (hn : ∀ h2, HOK h2 → Q h2 → K h2) :
    ∃ Q : AH → Prop, (∃ v h2, seqB P orc h (.func (.func g) ⟨first⟩ ⟨captured⟩) y = some (v, some h2) ∧ HOK h2 ∧ Q h2) ∧ ∀ h2, HOK h2 → Q h2 → K h2 := by
  obtain ⟨v, h2, h1, h3, h4⟩ := hk
  exact ⟨Q, ⟨v, h2, seqB_by hf hb h1, h3, h4⟩, hn⟩

/-- A call of a loop's yield. -/
theorem callB_yield {i : Nat} {k : VK} (hP : P.funcs[yid]? = none) (hk : ∃ Q : Value → AH → Prop, (∃ v h', orc yid (.func (.yield i) ⟨[]⟩ ⟨[]⟩ :: args) h = some (v, some h') ∧ HOK h' ∧ Q v h') ∧ ∀ v h', HOK h' → Q v h' → k v (some h')) :
    ∃ v ho, callB P ext orc h (.func (.yield i) ⟨[]⟩ ⟨[]⟩) args = some (v, ho) ∧ HOK (ho.getD h) ∧ k v ho := by
  obtain ⟨Q, ⟨v, h', h1, h2, h3⟩, hk⟩ := hk
  refine ⟨v, some h', ?_, h2, hk v h' h2 h3⟩
  unfold callB
  simp only [hP]
  exact h1

/-- A round. -/
def roundK (P : Program) (G : Nat) (ext : FuncId → Option Ext) (orc : Orc) (fuel i n : Nat) (ps : Array Tmp) (x y : Code) (env : Ev) (h : AH) (k : Value → AH → Prop) : Prop :=
  codeK P G ext orc n fuel x env h fun out env1 h1 => match out with
    | .normal => ∃ env0 n0 ps0 x0 y0 pend0, h1.get i = some (.loop env0 n0 ps0 x0 y0 .ready pend0) ∧ i < h1.next ∧ ∀ hb, Upd h1 hb i (some (.loop env0 n0 ps0 x0 y0 .busy pend0)) →
        codeK P G ext orc n fuel y env1 hb fun out env2 h2 => ∃ env3 n3 ps3 x3 y3 st3 pend3, h2.get i = some (.loop env3 n3 ps3 x3 y3 st3 pend3) ∧ i < h2.next ∧ (match outJump out with
          | none => ∀ h3, Upd h2 h3 i (some (.loop env3 n3 ps3 x3 y3 .ready none)) → k (.bool true) h3
          | some c => ∀ h3, Upd h2 h3 i (some (.loop env3 n3 ps3 x3 y3 .done (some c))) → k (.bool false) h3)
    | _ => False

theorem yield_to {d i : Nat} {env : Ev} {ps : Array Tmp} {x z : Code} {pend : Option Code} {Q : Value → AH → Prop} (hd : 0 < d) (hP : P.funcs[yid]? = none) (hok : HOK h) (hg : h.get i = some (.loop env n ps x z .ready pend)) (hm : h.may i = true) (hs : Nat.beq ps.size args.length = true)
    (hk : roundK P G ext (deepF P G ext fuel base mt (d - 1)) fuel i n ps x z (setParams n ps.toList args env) h Q) :
    ∃ v h', deepF P G ext fuel base mt d yid (.func (.yield i) ⟨[]⟩ ⟨[]⟩ :: args) h = some (v, some h') ∧ HOK h' ∧ Q v h' := by
  obtain ⟨d, rfl⟩ : ∃ e, d = e + 1 := ⟨d - 1, by omega⟩
  obtain ⟨out, env1, h1, hb1, hok1, hk⟩ := codeK_ok x hok hk
  cases out with
  | exit id => exact hk.elim
  | ret => exact hk.elim
  | normal =>
    obtain ⟨env0, n0, ps0, x0, y0, pend0, hg1, hi1, hk⟩ := hk
    have hu1 := hok1.put hi1 (some (.loop env0 n0 ps0 x0 y0 .busy pend0))
    obtain ⟨out, env2, h2, hb2, hok2, hk⟩ := codeK_ok z hu1.ok (hk _ hu1)
    obtain ⟨env3, n3, ps3, x3, y3, st3, pend3, hg2, hi2, hk⟩ := hk
    have hy : Nat.beq yid yid = true := by kernel_rfl
    cases out with
    | normal =>
      have hu2 := hok2.put hi2 (some (.loop env3 n3 ps3 x3 y3 .ready none))
      refine ⟨.bool true, _, ?_, hu2.ok, hk _ hu2⟩
      simp only [deepF, hy, hP]
      unfold yieldB
      have hb1' : codeB P G ext (deepF P G ext fuel base mt d) n fuel x (setParams n ps.toList args env) h = some (.normal, env1, h1) := hb1
      have hb2' : codeB P G ext (deepF P G ext fuel base mt d) n fuel z env1 (h1.put i (some (.loop env0 n0 ps0 x0 y0 .busy pend0))) = some (.normal, env2, h2) := hb2
      simp only [hg, hm, hs, hb1', hg1, hb2', hg2, outJump]
    | exit id =>
      have hu2 := hok2.put hi2 (some (.loop env3 n3 ps3 x3 y3 .done (some (.exit id))))
      refine ⟨.bool false, _, ?_, hu2.ok, hk _ hu2⟩
      simp only [deepF, hy, hP]
      unfold yieldB
      have hb1' : codeB P G ext (deepF P G ext fuel base mt d) n fuel x (setParams n ps.toList args env) h = some (.normal, env1, h1) := hb1
      have hb2' : codeB P G ext (deepF P G ext fuel base mt d) n fuel z env1 (h1.put i (some (.loop env0 n0 ps0 x0 y0 .busy pend0))) = some (.exit id, env2, h2) := hb2
      simp only [hg, hm, hs, hb1', hg1, hb2', hg2, outJump]
    | ret =>
      have hu2 := hok2.put hi2 (some (.loop env3 n3 ps3 x3 y3 .done (some .ret)))
      refine ⟨.bool false, _, ?_, hu2.ok, hk _ hu2⟩
      simp only [deepF, hy, hP]
      unfold yieldB
      have hb1' : codeB P G ext (deepF P G ext fuel base mt d) n fuel x (setParams n ps.toList args env) h = some (.normal, env1, h1) := hb1
      have hb2' : codeB P G ext (deepF P G ext fuel base mt d) n fuel z env1 (h1.put i (some (.loop env0 n0 ps0 x0 y0 .busy pend0))) = some (.ret, env2, h2) := hb2
      simp only [hg, hm, hs, hb1', hg1, hb2', hg2, outJump]
end

end
end Go.Proofs.YtibffohcmegooaaGreatDoor.V
