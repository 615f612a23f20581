/- The small machine's append agrees with the model's, whatever capacity is drawn. Conditions: none. -/
import Derived.Test.YtibffohcmegooaaGreatDoorVr
namespace Go.Proofs.YtibffohcmegooaaGreatDoor.V
set_option linter.all false
open Go

section
variable {P : Program} {Z : AH} {G n : Nat} {μ : Mu} {env : T (Option Value)} {a : Act} {h : AH} {w : World}

theorem lenB_ok {x x' : Value} {k : Nat} (hl : lenB x = some k) (hx : VR μ x x') : (Builtin.lenOf x').run P w = .ok k w := by
  unfold lenB at hl
  split at hl
  · rename_i ad k c
    cases hl
    cases ad with
    | none => simp only [VR] at hx; subst hx; rfl
    | some ad => simp only [VR] at hx; obtain ⟨_, _, _, _, rfl, _⟩ := hx; rfl
  · cases hl
    simp only [VR] at hx
    subst hx
    show Result.ok _ w = _
    rw [size_list]
  · cases hl

theorem firstB_ok (x : HR Z G μ h w) {size k : Nat} {u u' : Value} {l : List Value} (hf : firstB h size k u = some l) (hu : VR μ u u') (hk : lenB u = some k) :
    ∃ l', VRL μ l l' ∧ ∀ w2 : World, w2.heap = w.heap → (Builtin.firstCells size k u').run P w2 = .ok l'.toArray w2 := by
  unfold firstB at hf
  split at hf
  · cases hf
    simp only [VR] at hu
    subst hu
    exact ⟨[], VRL.nil, fun _ _ => rfl⟩
  · rename_i ad k' c'
    simp only [VR] at hu
    obtain ⟨L, cc, _, hL, rfl, _⟩ := hu
    split at hf
    case h_2 => cases hf
    rename_i c g hsp hi
    split at hf
    case h_2 => cases hf
    rename_i hle
    cases hf
    obtain ⟨L2, l', hL2, _, hlen, hr, hc⟩ := row_of x hi ad.off (k * size) (ble_iff.1 hle)
    rw [hL] at hL2; cases hL2
    refine ⟨l', hr, fun w2 hw2 => ?_⟩
    have := run_loadCellsFrom (P := P) (w := w2) L.b (L.o + ad.off) l' 0 #[] (fun j v' hv' => by
      have := hc j v' hv'
      simpa [World.cell?, hw2] using this)
    rw [hlen] at this
    simp only [Builtin.firstCells, loadCells]
    rw [this]
    simp
  · rename_i s
    cases hf
    simp only [VR] at hu
    subst hu
    simp only [lenB, Option.some.injEq] at hk
    subst hk
    refine ⟨_, VRL.of_pure ?_, fun w2 _ => ?_⟩
    · generalize List.take s.data.toList.length s.data.toList = q
      induction q with
      | nil => rfl
      | cons b bs ih => simpa [pureL, pureV] using ih
    · simp only [Builtin.firstCells, Sem.run_pure]
      congr 1
      apply Array.ext'
      simp only [ByteArray.data_extract, Array.toList_map, Array.toList_extract, List.extract_eq_take_drop, List.drop_zero, Nat.sub_zero]
  · cases hf

theorem grow_le (need : Nat) : ∀ r c, c ≤ need → Builtin.growBy need r c ≤ need + (need + 768) / 4
  | 0, c, hc => by simp only [Builtin.growBy]; omega
  | r + 1, c, hc => by
    simp only [Builtin.growBy]
    split
    · omega
    · by_cases hn : c + (c + 768) / 4 ≤ need
      · exact grow_le need r _ hn
      · cases r with
        | zero => simp only [Builtin.growBy]; omega
        | succ r => simp only [Builtin.growBy]; rw [if_pos (by omega)]; omega

theorem next_le {need sc : Nat} (h : ¬ need ≤ sc) : Builtin.nextslicecap need sc ≤ 2 * need + 192 := by
  unfold Builtin.nextslicecap
  split
  · omega
  · split
    · omega
    · have := grow_le need 4 sc (by omega)
      omega

theorem next_bytes {need sc b : Nat} (h : ¬ need ≤ sc) (hb : need * (b + 1) ≤ 1099511627776) : ¬ (Builtin.nextslicecap need sc * b > 2 ^ 48) := by
  have h1 := next_le h
  have h2 : Builtin.nextslicecap need sc * b ≤ (2 * need + 192) * b := Nat.mul_le_mul_right _ h1
  have h3 : (2 * need + 192) * b = 2 * (need * b) + 192 * b := by rw [Nat.add_mul, Nat.mul_assoc]
  have h4 : need * b + need ≤ 1099511627776 := by rw [Nat.mul_add, Nat.mul_one] at hb; exact hb
  have h5 : b ≤ need * b := Nat.le_mul_of_pos_left b (by omega)
  have h6 : (2 : Nat) ^ 48 = 281474976710656 := by decide
  rw [h6]
  omega

theorem zeroCells_size (z : Array Value) (k : Nat) : (Builtin.zeroCells z k).size = k * z.size := by simp [Builtin.zeroCells]

section app
variable {ts : Array TypeId} {ty t tx elem : TypeId} {dx : TypeDesc} {i : TypeInfo} {z x' : Value} {base : Option Addr} {sl sc k : Nat}

theorem append_room (h0 : ts[0]? = some t) (h1 : ts[1]? = some tx) (hu : P.underlying t = some (.slice elem)) (hux : P.underlying tx = some dx) (hdx : isIntD dx = false) (hi : P.info? elem = some i)
    (hlen : (Builtin.lenOf x').run P w = .ok k w) {new : Array Value} (hnew : (Builtin.firstCells i.size k x').run P w = .ok new w) (hle : sl + k ≤ sc) :
    (Builtin.append_ ts ty #[.slice base sl sc, x']).run P w =
      match base with
      | none => .ok (.slice none (sl + k) sc) w
      | some a => ((storeCells (a.add (sl * i.size)) new.toList).run P w).andThen fun _ w' => .ok (.slice (some a) (sl + k) sc) w' := by
  have hsz : (sizeOf elem).run P w = .ok i.size w := run_sizeOf (by simp [szOf, hi])
  unfold Builtin.append_
  simp only [h0, h1, List.getElem?_toArray, List.getElem?_cons_zero, List.getElem?_cons_succ, Sem.run_bind, run_underlying hu, Result.andThen_ok, hsz, run_underlying hux, Sem.run_pure]
  cases dx <;> first
    | (simp [isIntD] at hdx; done)
    | (simp only [Bool.false_eq_true, if_false, Sem.run_bind, hlen, Result.andThen_ok, if_pos hle, Bool.not_false, if_true, hnew]
       cases base <;> simp)

theorem append_grow (h0 : ts[0]? = some t) (h1 : ts[1]? = some tx) (hu : P.underlying t = some (.slice elem)) (hux : P.underlying tx = some dx) (hdx : isIntD dx = false) (hi : P.info? elem = some i)
    (hlen : (Builtin.lenOf x').run P w = .ok k w) (hz : ∀ w : World, (zeroValue elem).run P w = .ok z w) {old new : Array Value} (hold : ∀ w2 : World, w2.heap = w.heap → (Builtin.firstCells i.size sl (.slice base sl sc)).run P w2 = .ok old w2)
    (hnew : ∀ w2 : World, w2.heap = w.heap → (Builtin.firstCells i.size k x').run P w2 = .ok new w2) (hle : ¬ sl + k ≤ sc) (hb : (sl + k) * (i.bytes + 1) ≤ 1099511627776) :
    ∃ cap rest, sl + k ≤ cap ∧ rest.size = (cap - (sl + k)) * z.cells.size ∧
      (Builtin.append_ ts ty #[.slice base sl sc, x']).run P w = .ok (.slice (some ⟨w.heap.size, 0, none⟩) (sl + k) cap) (w.drew.alloc (.cells (old ++ new ++ rest) elem)) := by
  have hti : ∀ w : World, (typeInfo elem).run P w = .ok i w := fun w => by simp [typeInfo, hi]
  have hsz : (sizeOf elem).run P w = .ok i.size w := run_sizeOf (by simp [szOf, hi])
  have hbig := next_bytes hle hb
  have hneed : sl + k ≤ 1099511627776 := Nat.le_trans (Nat.le_mul_of_pos_right _ (by omega)) hb
  have hmax : ¬ (((sl + k : Nat) : Int) > IntKind.i64.max) := by rw [IntKind.max_i64]; omega
  have hforce : (Question.appendCap (sl + k) sc elem).forced = false := rfl
  refine ⟨(Question.appendCap (sl + k) sc elem).cut (w.tape w.drawn (.appendCap (sl + k) sc elem)), Builtin.zeroCells z.cells ((Question.appendCap (sl + k) sc elem).cut (w.tape w.drawn (.appendCap (sl + k) sc elem)) - (sl + k)), ?_, zeroCells_size _ _, ?_⟩
  · simp only [Question.cut]; omega
  unfold Builtin.append_
  simp only [h0, h1, List.getElem?_toArray, List.getElem?_cons_zero, List.getElem?_cons_succ, Sem.run_bind, run_underlying hu, Result.andThen_ok, hsz, run_underlying hux, Sem.run_pure]
  cases dx <;> first
    | (simp [isIntD] at hdx; done)
    | (simp only [Bool.false_eq_true, if_false, Sem.run_bind, hlen, Result.andThen_ok, if_neg hle, Bool.not_false, if_true, hti, hmax, false_and, if_neg hbig, Sem.run_pure, run_choose, hforce, run_askRoom, World.drew_eq]
       rw [hold w.drew rfl]
       simp only [Result.andThen_ok]
       rw [hnew w.drew rfl]
       simp only [Result.andThen_ok]
       rw [hz w.drew]
       rfl)
end app

/-- A new abstract block at a block that stands already, which no other live one shares. -/
theorem HR.newAt {h' : AH} (x : HR Z G μ h w) {b : Blk} {i : Nat} (hn : h.new b = some (i, h')) (l : Loc)
    (hfree : ∀ k lk, h.get k ≠ none → μ k = some lk → lk.b ≠ l.b) (hb : ∀ ν, μ.le ν → BR ν true b l w) :
    i = h.next ∧ ∃ ν : Mu, ν i = some l ∧ HR Z G ν h' w ∧ μ.le ν ∧ h'.lock = h.lock ∧ h'.imp = h.imp ∧ h.next ≤ h'.next ∧ (∀ q, (q < h.next ∨ 16777216 ≤ q) → ν q = μ q) ∧ (∀ q, (q < h.next ∨ 16777216 ≤ q) → h'.get q = h.get q) ∧
      (∀ k lk, h'.may k = true → h'.get k ≠ none → ν k = some lk → lk.b = l.b ∨ (h.may k = true ∧ h.get k ≠ none ∧ μ k = some lk)) := by
  unfold AH.new at hn
  split at hn
  case h_2 => cases hn
  rename_i hlt
  have hlt' : h.next < 16777216 := blt_iff.1 hlt
  simp only [Option.some.injEq, Prod.mk.injEq] at hn
  obtain ⟨rfl, rfl⟩ := hn
  refine ⟨rfl, fun j => if j = h.next then some l else μ j, by simp, ?_⟩
  have hle : μ.le fun j => if j = h.next then some l else μ j := by
    intro j lj hj
    have : j ≠ h.next := fun he => by rw [he, x.fresh _ (Nat.le_refl _) hlt'] at hj; cases hj
    simp [this, hj]
  have hget : ∀ j, AH.get { h with t := T.set 24 h.t h.next (some b), next := h.next + 1 } j = if j = h.next then some b else h.get j := by
    intro j
    by_cases hjo : j < 16777216
    · unfold AH.get
      simp only [blt_iff.2 hjo]
      by_cases hj : j < h.next + 1
      · simp only [blt_iff.2 hj]
        rw [T.get_set 24 _ _ _ _ x.fits (by simpa using hlt') (by simpa using hjo)]
        by_cases he : j = h.next
        · simp [he]
        · have h2 : Nat.blt j h.next = true := blt_iff.2 (by omega)
          simp [he, h2]
      · have h3 : j ≠ h.next := by omega
        simp [blt_no hj, blt_no (show ¬ j < h.next by omega), h3]
    · rw [AH.get_old (by omega), AH.get_old (h := h) (by omega), if_neg (by omega)]
  refine ⟨⟨T.fits_set 24 _ _ _ x.fits, by simp; omega, by have := x.imp; simp; omega, ?_, ?_, ?_, ?_, ?_⟩, hle, rfl, rfl, by simp, fun q hq => if_neg (by omega), fun q hq => by rw [hget, if_neg (by omega)], ?_⟩
  · intro j hj hj2
    have hj' : h.next + 1 ≤ j := hj
    have : j ≠ h.next := by omega
    simp [this, x.fresh j (by omega) hj2]
  · intro g hg
    obtain ⟨lg, hl, h1, h2⟩ := x.glob g hg
    exact ⟨lg, hle _ _ hl, h1, h2⟩
  · intro j bb hj
    rw [hget] at hj
    by_cases he : j = h.next
    · subst he
      simp at hj; subst hj
      have : h.own h.next = true := AH.own_iff.2 ⟨x.imp, hlt'⟩
      exact ⟨l, by simp, by show BR _ (h.own h.next) _ _ _; rw [this]; exact hb _ hle⟩
    · rw [if_neg he] at hj
      obtain ⟨lj, hl, hr⟩ := x.blk j bb hj
      exact ⟨lj, hle _ _ hl, hr.mono hle⟩
  · intro j k lj lk hi hjk hj hk hlj hlk
    rw [hget] at hj hk
    by_cases h1 : j = h.next
    · subst h1
      simp at hlj; subst hlj
      have h2 : k ≠ h.next := fun h => hjk h.symm
      rw [if_neg h2] at hk
      simp [h2] at hlk
      exact fun he => hfree k lk hk hlk he.symm
    · rw [if_neg h1] at hj
      simp [h1] at hlj
      by_cases h2 : k = h.next
      · subst h2
        simp at hlk; subst hlk
        exact hfree j lj hj hlj
      · rw [if_neg h2] at hk
        simp [h2] at hlk
        exact x.inj j k lj lk hi hjk hj hk hlj hlk
  · intro hf
    obtain ⟨s1, s2⟩ := x.std hf
    refine ⟨s1, fun i hi => ?_⟩
    have := x.imp
    rw [hget, if_neg (by omega)]
    exact s2 i hi
  · intro k lk hmay hk hlk
    rw [hget] at hk
    by_cases h1 : k = h.next
    · subst h1
      simp at hlk; subst hlk
      exact .inl rfl
    · rw [if_neg h1] at hk
      simp [h1] at hlk
      exact .inr ⟨hmay, hk, hlk⟩

theorem FR.drew (h : AH) (μ : Mu) (w : World) : FR h μ w h μ w.drew :=
  ⟨Mu.le_refl _, rfl, rfl, rfl, Nat.le_refl _, rfl, rfl, Nat.le_refl _, fun _ _ => rfl, fun _ _ h => h, fun _ h _ => h, fun _ _ _ => rfl, fun _ _ _ => rfl⟩

end
end Go.Proofs.YtibffohcmegooaaGreatDoor.V

namespace Go.Proofs.YtibffohcmegooaaGreatDoor.V
set_option linter.all false
open Go

section
variable {P : Program} {Z : AH} {G n : Nat} {μ : Mu} {env : T (Option Value)} {a : Act} {h : AH} {w : World}

theorem append_nil {ts : Array TypeId} {ty t tx elem : TypeId} {dx : TypeDesc} {i : TypeInfo} {x' s' : Value} {base : Option Addr} {sl sc k : Nat} (x : HR Z G μ h w) (h0 : ts[0]? = some t) (h1 : ts[1]? = some tx)
    (hu : P.underlying t = some (.slice elem)) (hux : P.underlying tx = some dx) (hdx : isIntD dx = false) (hi : P.info? elem = some i) (hlen : (Builtin.lenOf x').run P w = .ok k w)
    (hnew : (Builtin.firstCells i.size k x').run P w = .ok #[] w) (hs : VR μ (.slice base sl sc) s') (hle : sl + k ≤ sc) (hk : k = 0) :
    ∃ u' w', (Builtin.append_ ts ty #[s', x']).run P w = .ok u' w' ∧ Owe Z G μ h w (.slice base (sl + k) sc) none u' w' := by
  subst hk
  cases base with
  | none =>
    simp only [VR] at hs
    subst hs
    refine ⟨_, _, append_room (base := none) h0 h1 hu hux hdx hi hlen hnew hle, Owe.keep x ?_⟩
    simp only [VR]
  | some ad =>
    have hs2 := hs
    simp only [VR] at hs
    obtain ⟨L, sc', hsp, hL, rfl, hc0, hc1⟩ := hs
    have hle' : sl + 0 ≤ sc' := by
      by_cases he : L.e = 0
      · rw [hc0 he]; exact hle
      · have := hc1 he; omega
    refine ⟨.slice (some ⟨L.b, L.o + ad.off, none⟩) (sl + 0) sc', w, ?_, Owe.keep x ?_⟩
    · rw [append_room h0 h1 hu hux hdx hi hlen hnew hle']
      simp [storeCells]
    · simpa using hs2

theorem upTy_some {elem : TypeId} {off : Nat} {t' : Option TypeId} {u : TypeId} (h : upTy elem off t' = some u) : t' = some u ∧ off = 0 ∧ u = elem := by
  cases t' with
  | none => cases h
  | some t =>
    simp only [upTy] at h
    split at h
    · rename_i h1 h2
      cases h
      exact ⟨rfl, beq_iff.1 h1, beq_iff.1 h2⟩
    · cases h

theorem up_fit {g' : Nat} {t' : Option TypeId} {el elem : TypeId} {o off : Nat} (h : (Gw.up g' t').fit el o) : (Gw.up g' (upTy elem off t')).fit el (o + off) := by
  cases hu : upTy elem off t' with
  | none => trivial
  | some u =>
    obtain ⟨rfl, rfl, _⟩ := upTy_some hu
    exact h

theorem up_fit0 (g' : Nat) (t' : Option TypeId) (elem : TypeId) (off : Nat) : (Gw.up g' (upTy elem off t')).fit elem 0 := by
  cases hu : upTy elem off t' with
  | none => trivial
  | some u =>
    obtain ⟨_, _, h⟩ := upTy_some hu
    exact ⟨h.symm, rfl⟩

theorem appendTo_ok {ts : Array TypeId} {ty t tx elem : TypeId} {dx : TypeDesc} {i : TypeInfo} {z x' s' u : Value} {base : Option Addr} {sl sc k : Nat} {new new' : List Value} {ho : Option AH}
    (x : HR Z G μ h w) (h0 : ts[0]? = some t) (h1 : ts[1]? = some tx)
    (hu : P.underlying t = some (.slice elem)) (hux : P.underlying tx = some dx) (hdx : isIntD dx = false) (hi : P.info? elem = some i) (hlen : (Builtin.lenOf x').run P w = .ok k w)
    (hz : ∀ w : World, (zeroValue elem).run P w = .ok z w) (hzs : z.cells.size = i.size) (hsz0 : i.size ≠ 0) (hnl : new.length = k * i.size) (hvs : VRL μ new new')
    (hnew : ∀ w2 : World, w2.heap = w.heap → (Builtin.firstCells i.size k x').run P w2 = .ok new'.toArray w2) (hb : (sl + k) * (i.bytes + 1) ≤ 1099511627776)
    (hs : VR μ (.slice base sl sc) s') (ha : appendTo h elem i.size base sl sc k new = some (u, ho)) :
    ∃ u' w', (Builtin.append_ ts ty #[s', x']).run P w = .ok u' w' ∧ Owe Z G μ h w u ho u' w' := by
  have hnl' := hvs.length
  unfold appendTo at ha
  split at ha
  · -- nothing is appended
    simp only [VRL] at hvs
    subst hvs
    have hk : k = 0 := by
      have hm : k * i.size = 0 := by simpa using hnl.symm
      rcases Nat.mul_eq_zero.1 hm with h | h
      · exact h
      · exact absurd h hsz0
    split at ha
    case h_2 => cases ha
    rename_i hle
    cases ha
    exact append_nil x h0 h1 hu hux hdx hi hlen (hnew w rfl) hs (ble_iff.1 hle) hk
  rename_i v0 vs0
  have hkpos : 0 < k := by
    rcases Nat.eq_zero_or_pos k with h | h
    · subst h; simp at hnl
    · exact h
  split at ha
  · -- a nil slice
    split at ha
    case h_2 => cases ha
    rename_i e1 e2
    have e1' := beq_iff.1 e1
    have e2' := beq_iff.1 e2
    subst e1' e2'
    simp only [VR] at hs
    subst hs
    obtain ⟨cap, rest, hcap, hrest, hrun⟩ := append_grow (ty := ty) (old := #[]) (sl := 0) (sc := 0) (base := none) h0 h1 hu hux hdx hi hlen hz (fun _ _ => rfl) hnew (by omega) hb
    obtain ⟨ν, h', rfl, rfl, g1, g2, g3⟩ := new_cells (rest := rest) x.drew elem ha (c' := new'.toArray) (by simpa using hvs) (gwOf_fit _ _)
    rw [gwOf_e] at g1
    simp only [Nat.zero_add] at hcap hrest hrun
    refine ⟨_, _, hrun, ν, ?_, ?_, ?_⟩
    · simp only [VR]
      refine ⟨_, cap, trivial, g1, by simp, fun h => absurd h hsz0, fun _ => ⟨Nat.le_refl _, hcap, ?_⟩⟩
      simp only [Nat.zero_add, Array.size_append, List.size_toArray, hrest, ← hnl', hnl, hzs]
      rw [← Nat.add_mul, Nat.add_sub_cancel' hcap]
      exact Nat.le_refl _
    · simpa using g2
    · simpa using (FR.drew h μ w).trans g3
  · rename_i ad
    have hs2 := hs
    simp only [VR] at hs
    obtain ⟨L, sc', hsp', hL, rfl, hc0, hc1⟩ := hs
    split at ha
    case h_2 => cases ha
    rename_i c g hsp hget
    have he := grow_of x hget hL
    split at ha
    · -- room that is known
      rename_i hle
      have hle1 := ble_iff.1 hle
      have hle' : sl + k ≤ sc' := by
        by_cases he0 : L.e = 0
        · rw [hc0 he0]; exact hle1
        · have := hc1 he0; omega
      split at ha
      case h_2 => cases ha
      rename_i hm hin hone
      cases ha
      obtain ⟨r1, r2, r3⟩ := HR.store (P := P) x hm hget hL (o := ad.off + sl * i.size) (by have := ble_iff.1 hin; omega) hvs hone
      refine ⟨.slice (some ⟨L.b, L.o + ad.off, none⟩) (sl + k) sc', _, ?_, μ, ?_, r2, r3⟩
      · rw [append_room h0 h1 hu hux hdx hi hlen (hnew w rfl) hle']
        simp only [Addr.add_lit]
        rw [Nat.add_assoc, r1]
        rfl
      · simp only [VR]
        exact ⟨L, sc', hsp, hL, rfl, hc0, fun he0 => ⟨hle1, (hc1 he0).2.1, (hc1 he0).2.2⟩⟩
    · rename_i hle
      have hle1 : ¬ sl + k ≤ sc := fun hc => by rw [ble_iff.2 hc] at hle; cases hle
      split at ha
      case h_2 => cases ha
      rename_i hin
      obtain ⟨L2, old', hL2, _, holen, hor, hoc⟩ := row_of x hget ad.off (sl * i.size) (ble_iff.1 hin)
      rw [hL] at hL2; cases hL2
      have hold : ∀ w2 : World, w2.heap = w.heap → (Builtin.firstCells i.size sl (.slice (some ⟨L.b, L.o + ad.off, none⟩) sl sc')).run P w2 = .ok old'.toArray w2 := by
        intro w2 hw2
        have := run_loadCellsFrom (P := P) (w := w2) L.b (L.o + ad.off) old' 0 #[] (fun j v' hv' => by
          have := hoc j v' hv'
          simpa [World.cell?, hw2] using this)
        rw [holen] at this
        simp only [Builtin.firstCells, loadCells]
        rw [this]
        simp
      have hcat : VRL μ ((c.toList.drop ad.off).take (sl * i.size) ++ (v0 :: vs0)) (old' ++ new') := hor.append hvs
      have hcatlen : (old' ++ new').length = (sl + k) * i.size := by
        rw [List.length_append, holen, ← hnl', hnl, Nat.add_mul]
      have tot : ∀ cap, sl + k ≤ cap → (sl + k) * i.size + (cap - (sl + k)) * i.size = cap * i.size := fun cap hc => by
        rw [← Nat.add_mul, Nat.add_sub_cancel' hc]
      split at ha
      rotate_left
      · -- the capacity was known, and is too small
        rename_i hnoup
        have hsc := hc0 (he.trans (by cases g with | up g' => exact absurd rfl (hnoup g' _) | _ => rfl))
        subst hsc
        obtain ⟨cap, rest, hcap, hrest, hrun⟩ := append_grow (ty := ty) h0 h1 hu hux hdx hi hlen hz hold hnew hle1 hb
        obtain ⟨ν, h', rfl, rfl, g1, g2, g3⟩ := new_cells (rest := rest) x.drew elem ha (c' := (old' ++ new').toArray) (by simpa using hcat) (gwOf_fit _ _)
        rw [gwOf_e] at g1
        refine ⟨_, _, hrun, ν, ?_, ?_, ?_⟩
        · simp only [VR]
          refine ⟨_, cap, trivial, g1, by simp, fun h => absurd h hsz0, fun _ => ⟨Nat.le_refl _, hcap, ?_⟩⟩
          simp only [Nat.zero_add, Array.size_append, List.size_toArray, hrest, hcatlen, hzs, tot cap hcap]
          exact Nat.le_refl _
        · simpa using g2
        · simpa using (FR.drew h μ w).trans g3
      · split at ha
        case h_2 => cases ha
        rename_i hg hm hone
        have heL : L.e = i.size := he.trans (beq_iff.1 hg)
        have hL0 : L.e ≠ 0 := by rw [heL]; exact hsz0
        obtain ⟨hn1, hn2, hroom⟩ := hc1 hL0
        by_cases hle2 : sl + k ≤ sc'
        · -- in place
          obtain ⟨l, hl, hbr⟩ := x.blk _ _ hget
          rw [hL] at hl; cases hl
          obtain ⟨_, hsh, hinn, hcells, hfro⟩ := hbr
          have himp : h.own ad.block = true := AH.may_imp hm
          obtain ⟨el, hsh, hfit⟩ := hsh
          have hblk : ∃ full fro, w.heap[L.b]? = some (.cells full el fro) ∧ full.size = L.n := by
            unfold World.shape? at hsh
            split at hsh
            · rename_i cc ee ff hh
              simp only [Option.some.injEq, Prod.mk.injEq] at hsh
              obtain ⟨rfl, hsz⟩ := hsh
              exact ⟨cc, ff, hh, hsz⟩
            · cases hsh
          obtain ⟨full, fro, hfull, hfs⟩ := hblk
          have hneed : L.o + ad.off + (sl + k) * i.size ≤ L.n := by
            have : (sl + k) * i.size ≤ sc' * i.size := Nat.mul_le_mul_right _ hle2
            rw [heL] at hroom
            omega
          have hnlen : new'.length = k * i.size := by rw [← hnl', hnl]
          have hadd : (sl + k) * i.size = sl * i.size + k * i.size := Nat.add_mul _ _ _
          have hcell : ∀ j, j < new'.length → (w.cell? ⟨L.b, L.o + ad.off + sl * i.size + j, none⟩).isSome = true := by
            intro j hj
            simp only [World.cell?, hfull]
            rw [if_neg (by simp)]
            rw [Array.getElem?_eq_getElem (by omega)]
            rfl
          obtain ⟨s1, s2, s3, s4, s5, s6, s7⟩ := setL_same new' w L.b (L.o + ad.off + sl * i.size)
          have hst := run_storeCells (P := P) L.b (L.o + ad.off + sl * i.size) new' 0 w (ones_VR hvs hone) (by simpa using hcell) (fun j hj => hfro himp _ (by omega))
          obtain ⟨p1, p2⟩ := HR.put (b := none) x hm hget hL s1 s5 s2 s3 s4 (fun bb hbb => by cases hbb)
          unfold newB at ha
          split at ha
          case h_2 => cases ha
          rename_i j h' hnew'
          cases ha
          have hfree : ∀ q lq, (h.put ad.block none).get q ≠ none → μ q = some lq → lq.b ≠ L.b := by
            intro q lq hq hlq hbad
            rw [AH.get_put x (AH.may_lt hm (by rw [hget]; simp))] at hq
            by_cases hqe : q = ad.block
            · rw [if_pos hqe] at hq; exact hq rfl
            · rw [if_neg hqe] at hq
              exact x.inj ad.block q L lq (AH.may_imp hm) (fun h => hqe h.symm) (by rw [hget]; simp) hq hL hlq hbad.symm
          obtain ⟨rfl, ν, v1, v2, v3, v4, v5, v6, vo, vs, v7⟩ := HR.newAt p1 hnew' ⟨L.b, L.o + ad.off, L.n, L.e⟩ hfree (by
            intro ν hν
            refine ⟨he, ⟨el, by rw [s7]; exact hsh, up_fit hfit⟩, ?_, ?_, fun _ q hq => by rw [s6]; exact hfro himp q hq⟩
            · have := hcat.length
              simp only [List.size_toArray]
              rw [this, hcatlen]
              exact hneed
            · intro q v hv
              have hv' : ((c.toList.drop ad.off).take (sl * i.size) ++ (v0 :: vs0))[q]? = some v := by simpa using hv
              obtain ⟨v', hv1, hv2⟩ := hcat.at hv'
              refine ⟨v', ?_, hv2.mono hν⟩
              show (setL w L.b (L.o + ad.off + sl * i.size) new').cell? ⟨L.b, L.o + ad.off + q, none⟩ = some v'
              rw [setL_cell new' w L.b _ hcell]
              by_cases hq : q < sl * i.size
              · rw [if_neg (by omega)]
                rw [List.getElem?_append_left (by omega)] at hv1
                exact hoc q v' hv1
              · rw [List.getElem?_append_right (by omega), holen] at hv1
                have hlt : q - sl * i.size < new'.length := (List.getElem?_eq_some_iff.1 hv1).1
                rw [if_pos (by omega)]
                rw [show L.o + ad.off + q - (L.o + ad.off + sl * i.size) = q - sl * i.size from by omega]
                exact hv1)
          refine ⟨.slice (some ⟨L.b, L.o + ad.off, none⟩) (sl + k) sc', setL w L.b (L.o + ad.off + sl * i.size) new', ?_, ν, ?_, v2, ?_⟩
          · rw [append_room h0 h1 hu hux hdx hi hlen (hnew w rfl) hle2]
            simp only [Addr.add_lit]
            simp only [Nat.add_zero] at hst
            rw [hst]
            rfl
          · simp only [VR]
            exact ⟨_, sc', trivial, v1, by simp, fun h => absurd h hL0, fun _ => ⟨Nat.le_refl _, hle2, by simpa using hroom⟩⟩
          · refine ⟨v3, s2, s3, s4, by omega, v4, v5, v6, vo, fun q hq hg => p2.sub q hq (by have hg2 : h'.get q ≠ none := hg; rw [vs q hq] at hg2; exact hg2), ?_, ?_, fun q hq hmq => (vs q hq).trans (p2.keep q hq hmq)⟩
            · rintro bb ⟨q, lq, w1, w2, w3, rfl⟩ _
              rcases v7 q lq w1 w2 w3 with hq | ⟨q1, q2, q3⟩
              · exact ⟨ad.block, L, hm, by rw [hget]; simp, hL, hq.symm⟩
              · refine ⟨q, lq, q1, ?_, q3, rfl⟩
                intro hn
                rw [AH.get_put x (AH.may_lt hm (by rw [hget]; simp))] at q2
                by_cases hqe : q = ad.block
                · rw [if_pos hqe] at q2; exact q2 rfl
                · rw [if_neg hqe] at q2; exact q2 hn
            · intro bb _ hbb
              exact s5 bb fun he => hbb ⟨ad.block, L, hm, by rw [hget]; simp, hL, he.symm⟩
        · -- a new row
          obtain ⟨cap, rest, hcap, hrest, hrun⟩ := append_grow (ty := ty) h0 h1 hu hux hdx hi hlen hz hold hnew hle2 hb
          obtain ⟨p1, p2⟩ := HR.put (b := none) (w' := w) x hm hget hL rfl (fun _ _ => rfl) rfl rfl rfl (fun bb hbb => by cases hbb)
          obtain ⟨ν, h', rfl, rfl, g1, g2, g3⟩ := new_cells (rest := rest) p1.drew elem ha (c' := (old' ++ new').toArray) (by simpa using hcat) (up_fit0 _ _ _ _)
          rw [show Gw.e (.up _ _) = i.size from beq_iff.1 hg] at g1
          refine ⟨_, _, hrun, ν, ?_, ?_, ?_⟩
          · simp only [VR]
            refine ⟨_, cap, trivial, g1, by simp, fun h => absurd h hsz0, fun _ => ⟨Nat.le_refl _, hcap, ?_⟩⟩
            simp only [Nat.zero_add, Array.size_append, List.size_toArray, hrest, hcatlen, hzs, tot cap hcap]
            exact Nat.le_refl _
          · simpa using g2
          · simpa using (p2.trans (FR.drew _ μ w)).trans g3

theorem appendB_ok {ts : Array TypeId} {ty : TypeId} {s s' y y' u : Value} {ho : Option AH} (x : HR Z G μ h w) (hb : appendB P h ts s y = some (u, ho)) (hs : VR μ s s') (hy : VR μ y y') :
    ∃ u' w', (Builtin.append_ ts ty #[s', y']).run P w = .ok u' w' ∧ Owe Z G μ h w u ho u' w' := by
  unfold appendB at hb
  split at hb
  case h_2 => cases hb
  rename_i t tx h0 h1
  split at hb
  case h_2 => cases hb
  rename_i elem dx hu hux
  split at hb
  case h_2 => cases hb
  rename_i i z base sl sc k hi hz hk
  split at hb
  case h_2 => cases hb
  rename_i new e1 e2 e3 hf
  split at hb
  case h_2 => cases hb
  rename_i e4 e5
  have hlen := lenB_ok (P := P) (w := w) hk hy
  obtain ⟨new', hvs, hnew⟩ := firstB_ok (P := P) x hf hy hk
  have hz' : ∀ w : World, (zeroValue elem).run P w = .ok z w := fun w => (zeroOf_ok (w := w) hz).1
  exact appendTo_ok x h0 h1 hu hux e1 hi hlen hz' (beq_iff.1 e2) (fun h0 => by rw [h0] at e5; cases e5) (beq_iff.1 e4) hvs hnew (ble_iff.1 e3) hs hb


theorem append_zeros {ts : Array TypeId} {ty t tx elem : TypeId} {dx : TypeDesc} {i : TypeInfo} {z : Value} {m : Nat} {kk : IntKind} (h0 : ts[0]? = some t) (h1 : ts[1]? = some tx) (hu : P.underlying t = some (.slice elem)) (hux : P.underlying tx = some dx) (hdx : isIntD dx = true) (hi : P.info? elem = some i)
    (hz : ∀ w : World, (zeroValue elem).run P w = .ok z w) (hm : 0 < m) (hs : 0 < i.size) (hb : m * (i.bytes + 1) ≤ 1099511627776) :
    ∃ cap rest, m ≤ cap ∧ rest.size = (cap - m) * z.cells.size ∧
      (Builtin.append_ ts ty #[.slice none 0 0, .int kk (m : Int)]).run P w = .ok (.slice (some ⟨w.heap.size, 0, none⟩) m cap) (w.drew.alloc (.cells (Builtin.zeroCells z.cells m ++ rest) elem)) := by
  have hti : ∀ w : World, (typeInfo elem).run P w = .ok i w := fun w => by simp [typeInfo, hi]
  have hsz : (sizeOf elem).run P w = .ok i.size w := run_sizeOf (by simp [szOf, hi])
  have hle : ¬ 0 + m ≤ 0 := by omega
  have hb' : (0 + m) * (i.bytes + 1) ≤ 1099511627776 := by rw [Nat.zero_add]; exact hb
  have hbig := next_bytes hle hb'
  have hneed : m ≤ 1099511627776 := Nat.le_trans (Nat.le_mul_of_pos_right _ (by omega)) hb
  have hmax : ¬ (((0 + m : Nat) : Int) > IntKind.i64.max) := by rw [IntKind.max_i64]; omega
  have hforce : (Question.appendCap (0 + m) 0 elem).forced = false := rfl
  have hwrap : IntKind.i64.wrap (m : Int) = (m : Int) := by
    rw [IntKind.wrap_i64]
    omega
  have hneg : ¬ ((m : Int) < 0) := by omega
  have hbytes : ¬ ((m : Int) * (i.bytes : Nat) > 2 ^ 48) := by
    have : m * i.bytes ≤ m * (i.bytes + 1) := Nat.mul_le_mul_left _ (by omega)
    have h2 : ((m * i.bytes : Nat) : Int) ≤ 1099511627776 := by omega
    rw [Int.natCast_mul] at h2
    have : (2 : Int) ^ 48 = 281474976710656 := by decide
    omega
  have hmz : ¬ (m * i.size = 0) := by
    intro h
    rcases Nat.mul_eq_zero.1 h with h | h <;> omega
  refine ⟨(Question.appendCap (0 + m) 0 elem).cut (w.tape w.drawn (.appendCap (0 + m) 0 elem)), Builtin.zeroCells z.cells ((Question.appendCap (0 + m) 0 elem).cut (w.tape w.drawn (.appendCap (0 + m) 0 elem)) - m), ?_, zeroCells_size _ _, ?_⟩
  · simp only [Question.cut]; omega
  unfold Builtin.append_
  simp only [h0, h1, List.getElem?_toArray, List.getElem?_cons_zero, List.getElem?_cons_succ, Sem.run_bind, run_underlying hu, Result.andThen_ok, hsz, run_underlying hux, Sem.run_pure]
  cases dx <;> first
    | (simp [isIntD] at hdx; done)
    | skip
  simp only [if_true, Sem.run_bind, asInt, asIntOf, Sem.run_pure, Result.andThen_ok, hwrap, if_neg hneg, hti, if_neg hbytes, Int.toNat_natCast, if_neg hle, hmax, false_and, if_false, if_neg hbig, run_choose, hforce, run_askRoom, World.drew_eq, Bool.not_true, Bool.false_eq_true, if_neg hmz, hz]
  have hfirst : (Builtin.firstCells i.size 0 (.slice none 0 0)).run P w.drew = .ok #[] w.drew := rfl
  rw [hfirst]
  simp only [Result.andThen_ok, Nat.zero_add, Array.empty_append]
  rfl

theorem appendZ_ok {ts : Array TypeId} {ty : TypeId} {s s' y y' u : Value} {ho : Option AH} (x : HR Z G μ h w) (hb : appendZ P h ts s y = some (u, ho)) (hs : VR μ s s') (hy : VR μ y y') :
    ∃ u' w', (Builtin.append_ ts ty #[s', y']).run P w = .ok u' w' ∧ Owe Z G μ h w u ho u' w' := by
  unfold appendZ at hb
  split at hb
  case h_2 => cases hb
  rename_i t tx h0 h1
  split at hb
  case h_2 => cases hb
  rename_i elem dx hu hux
  split at hb
  case h_2 => cases hb
  rename_i i z kk n hi hz
  split at hb
  case h_2 => cases hb
  rename_i e1 e2 e3 e4
  simp only [VR] at hs hy
  subst hs hy
  have hz' : ∀ w : World, (zeroValue elem).run P w = .ok z w := fun w => (zeroOf_ok (w := w) hz).1
  have hz2 := (zeroOf_ok (w := w) hz).2.1
  have hpos : 0 < i.size := by
    rcases Nat.eq_zero_or_pos i.size with h | h
    · rw [h] at e4; cases e4
    · exact h
  obtain ⟨cap, rest, hcap, hrest, hrun⟩ := append_zeros (ty := ty) (kk := kk) h0 h1 hu hux e1 hi hz' (Nat.succ_pos n) hpos (ble_iff.1 e3)
  obtain ⟨ν, h', rfl, rfl, g1, g2, g3⟩ := new_cells (rest := rest) x.drew elem hb (c' := (zerosB z.cells.toList (n + 1)).toArray) (VRL.of_pure (by simpa using zerosL_pure (pure_cells hz2) (n + 1))) (gwOf_fit _ _)
  rw [gwOf_e] at g1
  have hzc : Builtin.zeroCells z.cells (n + 1) = (zerosB z.cells.toList (n + 1)).toArray := zeros_eq _ _
  have hzl : (zerosB z.cells.toList (n + 1)).length = (n + 1) * z.cells.size := by
    have := congrArg Array.size hzc
    rw [zeroCells_size] at this
    simpa using this.symm
  rw [hzc] at hrun
  refine ⟨_, _, hrun, ν, ?_, ?_, ?_⟩
  · simp only [VR]
    refine ⟨_, cap, trivial, g1, by simp, fun h => absurd h (Nat.pos_iff_ne_zero.1 hpos), fun _ => ⟨Nat.le_refl _, hcap, ?_⟩⟩
    simp only [Nat.zero_add, Array.size_append, List.size_toArray, hrest, hzl, beq_iff.1 e2]
    rw [← Nat.add_mul, Nat.add_sub_cancel' hcap]
    exact Nat.le_refl _
  · simpa using g2
  · simpa using (FR.drew h μ w).trans g3


theorem appendW_ok {ts : Array TypeId} {ty : TypeId} {s s' y y' u : Value} {ho : Option AH} (x : HR Z G μ h w) (hb : (match appendB P h ts s y with | some r => some r | none => appendZ P h ts s y) = some (u, ho)) (hs : VR μ s s') (hy : VR μ y y') :
    ∃ u' w', (Builtin.append_ ts ty #[s', y']).run P w = .ok u' w' ∧ Owe Z G μ h w u ho u' w' := by
  cases hc : appendB P h ts s y with
  | some r =>
    rw [hc] at hb
    cases hb
    exact appendB_ok x hc hs hy
  | none =>
    rw [hc] at hb
    exact appendZ_ok x hb hs hy
end
end Go.Proofs.YtibffohcmegooaaGreatDoor.V
