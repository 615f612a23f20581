/- The small machine's append agrees with the model's, whatever capacity is drawn. Conditions: none. -/
import Derived.Test.YtebaekbmminjnaaGreatDoorVi
namespace Go.Proofs.YtebaekbmminjnaaGreatDoor.V
set_option linter.all false
open Go

section
variable {P : Program} {Z : AH} {G n : Nat} {μ : Mu} {env : T (Option Value)} {a : Act} {h : AH} {w : World}

theorem lenB_ok {x x' : Value} {k : Nat} (hl : lenB x = some k) (hx : VR μ x x') : (Builtin.lenOf x').run P w = .ok k w := by
  unfold lenB at hl
  split at hl
  · rename_i ad k c
    cases hl
    cases ad with
    | none => simp only [VR] at hx; subst hx; rfl
    | some ad => simp only [VR] at hx; obtain ⟨_, _, _, _, rfl, _⟩ := hx; rfl
  · cases hl
    simp only [VR] at hx
    subst hx
    show Result.ok _ w = _
    rw [size_list]
  · cases hl

theorem firstB_ok (x : HR Z G μ h w) {size k : Nat} {u u' : Value} {l : List Value} (hf : firstB h size k u = some l) (hu : VR μ u u') (hk : lenB u = some k) :
    ∃ l', VRL μ l l' ∧ ∀ w2 : World, w2.heap = w.heap → (Builtin.firstCells size k u').run P w2 = .ok l'.toArray w2 := by
  unfold firstB at hf
  split at hf
  · cases hf
    simp only [VR] at hu
    subst hu
    exact ⟨[], VRL.nil, fun _ _ => rfl⟩
  · rename_i ad k' c'
    simp only [VR] at hu
    obtain ⟨L, cc, _, hL, rfl, _⟩ := hu
    split at hf
    case h_2 => cases hf
    rename_i c g hsp hi
    split at hf
    case h_2 => cases hf
    rename_i hle
    cases hf
    obtain ⟨L2, l', hL2, _, hlen, hr, hc⟩ := row_of x hi ad.off (k * size) (ble_iff.1 hle)
    rw [hL] at hL2; cases hL2
    refine ⟨l', hr, fun w2 hw2 => ?_⟩
    have := run_loadCellsFrom (P := P) (w := w2) L.b (L.o + ad.off) l' 0 #[] (fun j v' hv' => by
      have := hc j v' hv'
      simpa [World.cell?, hw2] using this)
    rw [hlen] at this
    simp only [Builtin.firstCells, loadCells]
    rw [this]
    simp
  · rename_i s
    cases hf
    simp only [VR] at hu
    subst hu
    simp only [lenB, Option.some.injEq] at hk
    subst hk
    refine ⟨_, VRL.of_pure ?_, fun w2 _ => ?_⟩
    · generalize List.take s.data.toList.length s.data.toList = q
      induction q with
      | nil => rfl
      | cons b bs ih => simpa [pureL, pureV] using ih
    · simp only [Builtin.firstCells, Sem.run_pure]
      congr 1
      apply Array.ext'
      simp only [ByteArray.data_extract, Array.toList_map, Array.toList_extract, List.extract_eq_take_drop, List.drop_zero, Nat.sub_zero]
  · cases hf

theorem grow_le (need : Nat) : ∀ r c, c ≤ need → Builtin.growBy need r c ≤ need + (need + 768) / 4
  | 0, c, hc => by simp only [Builtin.growBy]; omega
  | r + 1, c, hc => by
    simp only [Builtin.growBy]
    split
    · omega
    · by_cases hn : c + (c + 768) / 4 ≤ need
      · exact grow_le need r _ hn
      · cases r with
        | zero => simp only [Builtin.growBy]; omega
        | succ r => simp only [Builtin.growBy]; rw [if_pos (by omega)]; omega

theorem next_le {need sc : Nat} (h : ¬ need ≤ sc) : Builtin.nextslicecap need sc ≤ 2 * need + 192 := by
  unfold Builtin.nextslicecap
  split
  · omega
  · split
    · omega
    · have := grow_le need 4 sc (by omega)
      omega

theorem next_bytes {need sc b : Nat} (h : ¬ need ≤ sc) (hb : need * (b + 1) ≤ 1099511627776) : ¬ (Builtin.nextslicecap need sc * b > 2 ^ 48) := by
  have h1 := next_le h
  have h2 : Builtin.nextslicecap need sc * b ≤ (2 * need + 192) * b := Nat.mul_le_mul_right _ h1
  have h3 : (2 * need + 192) * b = 2 * (need * b) + 192 * b := by rw [Nat.add_mul, Nat.mul_assoc]
  have h4 : need * b + need ≤ 1099511627776 := by rw [Nat.mul_add, Nat.mul_one] at hb; exact hb
  have h5 : b ≤ need * b := Nat.le_mul_of_pos_left b (by omega)
  have h6 : (2 : Nat) ^ 48 = 281474976710656 := by decide
  rw [h6]
  omega

theorem zeroCells_size (z : Array Value) (k : Nat) : (Builtin.zeroCells z k).size = k * z.size := by simp [Builtin.zeroCells]

section app
variable {ts : Array TypeId} {ty t tx elem : TypeId} {dx : TypeDesc} {i : TypeInfo} {z x' : Value} {base : Option Addr} {sl sc k : Nat}

theorem append_room (h0 : ts[0]? = some t) (h1 : ts[1]? = some tx) (hu : P.underlying t = some (.slice elem)) (hux : P.underlying tx = some dx) (hdx : isIntD dx = false) (hi : P.info? elem = some i)
    (hlen : (Builtin.lenOf x').run P w = .ok k w) {new : Array Value} (hnew : (Builtin.firstCells i.size k x').run P w = .ok new w) (hle : sl + k ≤ sc) :
    (Builtin.append_ ts ty #[.slice base sl sc, x']).run P w =
      match base with
      | none => .ok (.slice none (sl + k) sc) w
      | some a => ((storeCells (a.add (sl * i.size)) new.toList).run P w).andThen fun _ w' => .ok (.slice (some a) (sl + k) sc) w' := by
  have hsz : (sizeOf elem).run P w = .ok i.size w := run_sizeOf (by simp [szOf, hi])
  unfold Builtin.append_
  simp only [h0, h1, List.getElem?_toArray, List.getElem?_cons_zero, List.getElem?_cons_succ, Sem.run_bind, run_underlying hu, Result.andThen_ok, hsz, run_underlying hux, Sem.run_pure]
  cases dx <;> first
    | (simp [isIntD] at hdx; done)
    | (simp only [Bool.false_eq_true, if_false, Sem.run_bind, hlen, Result.andThen_ok, if_pos hle, Bool.not_false, if_true, hnew]
       cases base <;> simp)

theorem append_grow (h0 : ts[0]? = some t) (h1 : ts[1]? = some tx) (hu : P.underlying t = some (.slice elem)) (hux : P.underlying tx = some dx) (hdx : isIntD dx = false) (hi : P.info? elem = some i)
    (hlen : (Builtin.lenOf x').run P w = .ok k w) (hz : ∀ w : World, (zeroValue elem).run P w = .ok z w) {old new : Array Value} (hold : ∀ w2 : World, w2.heap = w.heap → (Builtin.firstCells i.size sl (.slice base sl sc)).run P w2 = .ok old w2)
    (hnew : ∀ w2 : World, w2.heap = w.heap → (Builtin.firstCells i.size k x').run P w2 = .ok new w2) (hle : ¬ sl + k ≤ sc) (hb : (sl + k) * (i.bytes + 1) ≤ 1099511627776) :
    ∃ cap rest, sl + k ≤ cap ∧ rest.size = (cap - (sl + k)) * z.cells.size ∧
      (Builtin.append_ ts ty #[.slice base sl sc, x']).run P w = .ok (.slice (some ⟨w.heap.size, 0, none⟩) (sl + k) cap) (w.drew.alloc (.cells (old ++ new ++ rest) elem)) := by
  have hti : ∀ w : World, (typeInfo elem).run P w = .ok i w := fun w => by simp [typeInfo, hi]
  have hsz : (sizeOf elem).run P w = .ok i.size w := run_sizeOf (by simp [szOf, hi])
  have hbig := next_bytes hle hb
  have hneed : sl + k ≤ 1099511627776 := Nat.le_trans (Nat.le_mul_of_pos_right _ (by omega)) hb
  have hmax : ¬ (((sl + k : Nat) : Int) > IntKind.i64.max) := by rw [IntKind.max_i64]; omega
  have hforce : (Question.appendCap (sl + k) sc elem).forced = false := rfl
  refine ⟨(Question.appendCap (sl + k) sc elem).cut (w.tape w.drawn (.appendCap (sl + k) sc elem)), Builtin.zeroCells z.cells ((Question.appendCap (sl + k) sc elem).cut (w.tape w.drawn (.appendCap (sl + k) sc elem)) - (sl + k)), ?_, zeroCells_size _ _, ?_⟩
  · simp only [Question.cut]; omega
  unfold Builtin.append_
  simp only [h0, h1, List.getElem?_toArray, List.getElem?_cons_zero, List.getElem?_cons_succ, Sem.run_bind, run_underlying hu, Result.andThen_ok, hsz, run_underlying hux, Sem.run_pure]
  cases dx <;> first
    | (simp [isIntD] at hdx; done)
    | (simp only [Bool.false_eq_true, if_false, Sem.run_bind, hlen, Result.andThen_ok, if_neg hle, Bool.not_false, if_true, hti, hmax, false_and, if_neg hbig, Sem.run_pure, run_choose, hforce, run_askRoom, World.drew_eq]
       rw [hold w.drew rfl]
       simp only [Result.andThen_ok]
       rw [hnew w.drew rfl]
       simp only [Result.andThen_ok]
       rw [hz w.drew]
       rfl)
end app

/-- A new abstract block at a block that stands already, which no other live one shares. -/
theorem HR.newAt {h' : AH} (x : HR Z G μ h w) {b : Blk} {i : Nat} (hn : h.new b = some (i, h')) (l : Loc)
    (hfree : ∀ k lk, h.get k ≠ none → μ k = some lk → lk.b ≠ l.b) (hb : ∀ ν, μ.le ν → BR ν true b l w) :
    i = h.next ∧ ∃ ν : Mu, ν i = some l ∧ HR Z G ν h' w ∧ μ.le ν ∧ h'.lock = h.lock ∧ h'.imp = h.imp ∧ h.next ≤ h'.next ∧ (∀ q, (q < h.next ∨ 65536 ≤ q) → ν q = μ q) ∧ (∀ q, (q < h.next ∨ 65536 ≤ q) → h'.get q = h.get q) ∧
      (∀ k lk, h'.may k = true → h'.get k ≠ none → ν k = some lk → lk.b = l.b ∨ (h.may k = true ∧ h.get k ≠ none ∧ μ k = some lk)) := by
  unfold AH.new at hn
  split at hn
  case h_2 => cases hn
  rename_i hlt
  have hlt' : h.next < 65536 := blt_iff.1 hlt
  simp only [Option.some.injEq, Prod.mk.injEq] at hn
  obtain ⟨rfl, rfl⟩ := hn
  refine ⟨rfl, fun j => if j = h.next then some l else μ j, by simp, ?_⟩
  have hle : μ.le fun j => if j = h.next then some l else μ j := by
    intro j lj hj
    have : j ≠ h.next := fun he => by rw [he, x.fresh _ (Nat.le_refl _) hlt'] at hj; cases hj
    simp [this, hj]
  have hget : ∀ j, AH.get { h with t := T.set 16 h.t h.next (some b), next := h.next + 1 } j = if j = h.next then some b else h.get j := by
    intro j
    by_cases hjo : j < 65536
    · unfold AH.get
      simp only [blt_iff.2 hjo]
      by_cases hj : j < h.next + 1
      · simp only [blt_iff.2 hj]
        rw [T.get_set 16 _ _ _ _ x.fits (by simpa using hlt') (by simpa using hjo)]
        by_cases he : j = h.next
        · simp [he]
        · have h2 : Nat.blt j h.next = true := blt_iff.2 (by omega)
          simp [he, h2]
      · have h3 : j ≠ h.next := by omega
        simp [blt_no hj, blt_no (show ¬ j < h.next by omega), h3]
    · rw [AH.get_old (by omega), AH.get_old (h := h) (by omega), if_neg (by omega)]
  refine ⟨⟨T.fits_set 16 _ _ _ x.fits, by simp; omega, by have := x.imp; simp; omega, ?_, ?_, ?_, ?_, ?_⟩, hle, rfl, rfl, by simp, fun q hq => if_neg (by omega), fun q hq => by rw [hget, if_neg (by omega)], ?_⟩
  · intro j hj hj2
    have hj' : h.next + 1 ≤ j := hj
    have : j ≠ h.next := by omega
    simp [this, x.fresh j (by omega) hj2]
  · intro g hg
    obtain ⟨lg, hl, h1, h2⟩ := x.glob g hg
    exact ⟨lg, hle _ _ hl, h1, h2⟩
  · intro j bb hj
    rw [hget] at hj
    by_cases he : j = h.next
    · subst he
      simp at hj; subst hj
      have : h.own h.next = true := AH.own_iff.2 ⟨x.imp, hlt'⟩
      exact ⟨l, by simp, by show BR _ (h.own h.next) _ _ _; rw [this]; exact hb _ hle⟩
    · rw [if_neg he] at hj
      obtain ⟨lj, hl, hr⟩ := x.blk j bb hj
      exact ⟨lj, hle _ _ hl, hr.mono hle⟩
  · intro j k lj lk hi hjk hj hk hlj hlk
    rw [hget] at hj hk
    by_cases h1 : j = h.next
    · subst h1
      simp at hlj; subst hlj
      have h2 : k ≠ h.next := fun h => hjk h.symm
      rw [if_neg h2] at hk
      simp [h2] at hlk
      exact fun he => hfree k lk hk hlk he.symm
    · rw [if_neg h1] at hj
      simp [h1] at hlj
      by_cases h2 : k = h.next
      · subst h2
        simp at hlk; subst hlk
        exact hfree j lj hj hlj
      · rw [if_neg h2] at hk
        simp [h2] at hlk
        exact x.inj j k lj lk hi hjk hj hk hlj hlk
  · intro hf
    obtain ⟨s1, s2⟩ := x.std hf
    refine ⟨s1, fun i hi => ?_⟩
    have := x.imp
    rw [hget, if_neg (by omega)]
    exact s2 i hi
  · intro k lk hmay hk hlk
    rw [hget] at hk
    by_cases h1 : k = h.next
    · subst h1
      simp at hlk; subst hlk
      exact .inl rfl
    · rw [if_neg h1] at hk
      simp [h1] at hlk
      exact .inr ⟨hmay, hk, hlk⟩

theorem FR.drew (h : AH) (μ : Mu) (w : World) : FR h μ w h μ w.drew :=
  ⟨Mu.le_refl _, rfl, rfl, rfl, Nat.le_refl _, rfl, rfl, Nat.le_refl _, fun _ _ => rfl, fun _ _ h => h, fun _ h _ => h, fun _ _ _ => rfl, fun _ _ _ => rfl⟩

end
end Go.Proofs.YtebaekbmminjnaaGreatDoor.V
