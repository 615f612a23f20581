/- The small machine's stores, new blocks and literals agree with the model's. Conditions: none. -/
import Derived.Test.YtebaekbmminjnaaGreatDoorVg
namespace Go.Proofs.YtebaekbmminjnaaGreatDoor.V
set_option linter.all false
open Go

mutual
theorem sameV_eq : ∀ {a b : Value}, sameV a b = true → a = b
  | .bool a, v, h => by
    simp only [sameV] at h
    split at h
    · simpa using h
    · cases h
  | .int j a, v, h => by
    simp only [sameV] at h
    split at h
    · split at h
      · rename_i hk
        have := of_decide_eq_true hk
        subst this
        simpa using h
      · cases h
    · cases h
  | .float j a, v, h => by
    simp only [sameV] at h
    split at h
    · split at h
      · rename_i hk
        have := of_decide_eq_true hk
        subst this
        rw [beq_iff.1 h]
      · cases h
    · cases h
  | .string a, v, h => by
    simp only [sameV] at h
    split at h
    · rename_i c
      rw [bytesEq_eq] at h
      have h1 : a.data.toList = c.data.toList := eq_of_beq h
      obtain ⟨⟨a⟩⟩ := a
      obtain ⟨⟨c⟩⟩ := c
      simp only at h1
      rw [h1]
    · cases h
  | .nilIface, v, h => by
    simp only [sameV] at h
    split at h
    · rfl
    · cases h
  | .pointer none, v, h => by
    simp only [sameV] at h
    split at h
    · rfl
    · cases h
  | .agg ⟨x⟩, v, h => by
    simp only [sameV] at h
    split at h
    · rw [sameL_eq h]
    · cases h
  | .tuple ⟨x⟩, v, h => by
    simp only [sameV] at h
    split at h
    · rw [sameL_eq h]
    · cases h
  | .pointer (some _), _, h => by simp [sameV] at h
  | .complex _ _ _, _, h => by simp [sameV] at h
  | .slice _ _ _, _, h => by simp [sameV] at h
  | .map _, _, h => by simp [sameV] at h
  | .chan _, _, h => by simp [sameV] at h
  | .func _ _ _, _, h => by simp [sameV] at h
  | .nilFunc, _, h => by simp [sameV] at h
  | .iface _ _, _, h => by simp [sameV] at h
theorem sameL_eq : ∀ {a b : List Value}, sameL a b = true → a = b
  | [], l, h => by
    simp only [sameL] at h
    split at h
    · rfl
    · cases h
  | x :: a, l, h => by
    simp only [sameL] at h
    split at h
    · split at h
      · rename_i h1
        rw [sameV_eq h1, sameL_eq h]
      · cases h
    · cases h
end

mutual
theorem sameV_pure : ∀ {a : Value}, sameV a a = true → pureV a = true
  | .bool _, _ => rfl
  | .int _ _, _ => rfl
  | .float _ _, _ => rfl
  | .string _, _ => rfl
  | .nilIface, _ => rfl
  | .pointer none, _ => rfl
  | .agg ⟨x⟩, h => by simp only [sameV] at h; simp only [pureV]; exact sameL_pure h
  | .tuple ⟨x⟩, h => by simp only [sameV] at h; simp only [pureV]; exact sameL_pure h
  | .pointer (some _), h => by simp [sameV] at h
  | .complex _ _ _, _ => rfl
  | .slice _ _ _, h => by simp [sameV] at h
  | .map _, h => by simp [sameV] at h
  | .chan _, h => by simp [sameV] at h
  | .func _ _ _, h => by simp [sameV] at h
  | .nilFunc, _ => rfl
  | .iface _ _, h => by simp [sameV] at h
theorem sameL_pure : ∀ {a : List Value}, sameL a a = true → pureL a = true
  | [], _ => rfl
  | x :: a, h => by
    simp only [sameL] at h
    split at h
    · rename_i h1
      simp only [pureL, sameV_pure h1, sameL_pure h, Bool.and_self]
    · cases h
end

/-- Cells written one after the other. -/
def setL (w : World) (b o : Nat) : List Value → World
  | [] => w
  | v :: vs => setL (w.setCell ⟨b, o, none⟩ v) b (o + 1) vs

section
variable {P : Program} {Z : AH} {G n : Nat} {μ : Mu} {env : T (Option Value)} {a : Act} {h : AH} {w : World}

theorem setL_same : ∀ (vs : List Value) (w : World) (b o : Nat), (setL w b o vs).heap.size = w.heap.size ∧ (setL w b o vs).os = w.os ∧ (setL w b o vs).tape = w.tape ∧ (setL w b o vs).output = w.output ∧
    (∀ k, k ≠ b → (setL w b o vs).heap[k]? = w.heap[k]?) ∧ (∀ x, (setL w b o vs).frozen? x = w.frozen? x) ∧ (setL w b o vs).shape? b = w.shape? b
  | [], w, b, o => ⟨rfl, rfl, rfl, rfl, fun _ _ => rfl, fun _ => rfl, rfl⟩
  | v :: vs, w, b, o => by
    obtain ⟨h1, h2, h3, h4, h5, h6, h7⟩ := setL_same vs (w.setCell ⟨b, o, none⟩ v) b (o + 1)
    refine ⟨by rw [setL, h1]; simp, by rw [setL, h2]; rfl, by rw [setL, h3]; rfl, by rw [setL, h4]; rfl, ?_, ?_, ?_⟩
    · intro k hk
      rw [setL, h5 k hk]
      exact Go.RowKit.Below.heap_setCell _ _ _ _ hk
    · intro x
      rw [setL, h6]
      simp
    · rw [setL, h7]
      simp only [World.shape?, World.setCell, Array.getElem?_modify, if_true]
      cases hb : w.heap[b]? with
      | none => rfl
      | some o => cases o <;> simp

theorem setL_cell : ∀ (vs : List Value) (w : World) (b o : Nat), (∀ k, k < vs.length → (w.cell? ⟨b, o + k, none⟩).isSome = true) → ∀ q,
    (setL w b o vs).cell? ⟨b, q, none⟩ = if o ≤ q ∧ q < o + vs.length then vs[q - o]? else w.cell? ⟨b, q, none⟩
  | [], w, b, o, _, q => by
    rw [if_neg (by simp only [List.length_nil]; omega)]; rfl
  | v :: vs, w, b, o, hh, q => by
    have h0 := hh 0 (by simp)
    rw [Nat.add_zero] at h0
    obtain ⟨u, hu⟩ := Option.isSome_iff_exists.1 h0
    have hstep : ∀ k, k < vs.length → ((w.setCell ⟨b, o, none⟩ v).cell? ⟨b, o + 1 + k, none⟩).isSome = true := by
      intro k hk
      rw [World.cell?_setCell_other _ _ _ _ (by simp; omega)]
      have := hh (k + 1) (by simp; omega)
      rwa [show o + 1 + k = o + (k + 1) from by omega]
    rw [setL, setL_cell vs _ b (o + 1) hstep q]
    by_cases hq : o + 1 ≤ q ∧ q < o + 1 + vs.length
    · rw [if_pos hq, if_pos (by simp; omega)]
      rw [show q - o = (q - (o + 1)) + 1 from by omega]
      simp
    · rw [if_neg hq]
      by_cases he : q = o
      · subst he
        rw [if_pos (by simp), World.cell?_setCell_same _ _ _ hu]
        simp
      · rw [if_neg (by simp; omega), World.cell?_setCell_other _ _ _ _ (by simp; omega)]

theorem run_storeCells (b o : Nat) : ∀ (vs : List Value) (i : Nat) (w : World), vs.all (·.oneCell') = true → (∀ k, k < vs.length → (w.cell? ⟨b, o + i + k, none⟩).isSome = true) →
    (∀ k, k < vs.length → w.frozen? ⟨b, o + i + k, none⟩ = false) → (storeCells ⟨b, o, none⟩ vs i).run P w = .ok () (setL w b (o + i) vs)
  | [], i, w, _, _, _ => rfl
  | v :: vs, i, w, h1, h2, h3 => by
    simp only [List.all_cons, Bool.and_eq_true] at h1
    have c0 := h2 0 (by simp)
    have f0 := h3 0 (by simp)
    rw [Nat.add_zero] at c0 f0
    obtain ⟨u, hu⟩ := Option.isSome_iff_exists.1 c0
    simp only [storeCells, Addr.add_lit, Sem.run_bind, run_store P w _ v _ h1.1, hu, f0, Bool.false_eq_true, if_false, Result.andThen_ok]
    rw [run_storeCells b o vs (i + 1) (w.setCell ⟨b, o + i, none⟩ v) h1.2]
    · rfl
    · intro k hk
      rw [World.cell?_setCell_other _ _ _ _ (by simp; omega)]
      have := h2 (k + 1) (by simp; omega)
      rwa [show o + (i + 1) + k = o + i + (k + 1) from by omega]
    · intro k hk
      rw [World.frozen?_setCell]
      have := h3 (k + 1) (by simp; omega)
      rwa [show o + (i + 1) + k = o + i + (k + 1) from by omega]

theorem putL_size : ∀ (vs : List Value) (c : Array Value) (o : Nat), (putL c o vs).size = c.size
  | [], c, o => rfl
  | v :: vs, c, o => by rw [putL, putL_size]; simp

theorem putL_at : ∀ (vs : List Value) (c : Array Value) (o : Nat), o + vs.length ≤ c.size → ∀ q, (putL c o vs)[q]? = if o ≤ q ∧ q < o + vs.length then vs[q - o]? else c[q]?
  | [], c, o, _, q => by
    rw [if_neg (by simp only [List.length_nil]; omega)]; rfl
  | v :: vs, c, o, hle, q => by
    simp only [List.length_cons] at hle
    rw [putL, putL_at vs _ _ (by simp; omega) q]
    by_cases hq : o + 1 ≤ q ∧ q < o + 1 + vs.length
    · rw [if_pos hq, if_pos (by simp; omega)]
      rw [show q - o = (q - (o + 1)) + 1 from by omega]
      simp
    · rw [if_neg hq]
      by_cases he : q = o
      · subst he
        rw [if_pos (by simp)]
        have : q < c.size := by omega
        simp [this]
      · rw [if_neg (by simp; omega), Array.getElem?_setIfInBounds_ne (by omega)]

theorem ones_VR : ∀ {l l' : List Value}, VRL μ l l' → l.all oneB = true → l'.all (·.oneCell') = true
  | [], l', h, _ => by simp only [VRL] at h; subst h; rfl
  | v :: vs, l', h, ha => by
    simp only [VRL] at h
    obtain ⟨v', vs', rfl, hv, hl⟩ := h
    simp only [List.all_cons, Bool.and_eq_true] at ha ⊢
    exact ⟨by rw [← VR.one hv]; exact ha.1, ones_VR hl ha.2⟩

theorem some_lt {α : Type} {l : List α} {k : Nat} (h : k < l.length) : ∃ v, l[k]? = some v := ⟨l[k], List.getElem?_eq_getElem h⟩

/-- Cells of an abstract block of one's own are written. -/
theorem HR.store (x : HR Z G μ h w) {i : Nat} {c : Array Value} {g : Gw} (hm : h.may i = true) (hi : h.get i = some (.cells c g)) {L : Loc} (hL : μ i = some L) {o : Nat} {vs vs' : List Value}
    (hle : o + vs.length ≤ c.size) (hvs : VRL μ vs vs') (hone : vs.all oneB = true) :
    (storeCells ⟨L.b, L.o + o, none⟩ vs').run P w = .ok () (setL w L.b (L.o + o) vs') ∧
      HR Z G μ (h.put i (some (.cells (putL c o vs) g))) (setL w L.b (L.o + o) vs') ∧ FR h μ w (h.put i (some (.cells (putL c o vs) g))) μ (setL w L.b (L.o + o) vs') := by
  obtain ⟨l, hl, hb⟩ := x.blk i _ hi
  rw [hL] at hl; cases hl
  obtain ⟨he, hsh, hin, hc, hf⟩ := hb
  have himp : h.own i = true := AH.may_imp hm
  have hlen := hvs.length
  have hcell : ∀ k, k < vs'.length → (w.cell? ⟨L.b, L.o + o + k, none⟩).isSome = true := by
    intro k hk
    obtain ⟨v, hv⟩ := some_lt (l := c.toList) (k := o + k) (by simp; omega)
    obtain ⟨v', h1, _⟩ := hc (o + k) v (by simpa using hv)
    rw [Nat.add_assoc, h1]; rfl
  obtain ⟨s1, s2, s3, s4, s5, s6, s7⟩ := setL_same vs' w L.b (L.o + o)
  refine ⟨?_, ?_⟩
  · have := run_storeCells (P := P) L.b (L.o + o) vs' 0 w (ones_VR hvs hone) (by simpa using hcell) (fun k hk => hf himp _ (by omega))
    simpa using this
  · refine HR.put x hm hi hL s1 s5 s2 s3 s4 ?_
    intro bb hbb
    cases hbb
    refine ⟨he, by rw [s7]; exact hsh, by rw [putL_size]; exact hin, ?_, fun _ k hk => by rw [s6]; exact hf himp k hk⟩
    intro k v hv
    rw [putL_at _ _ _ hle] at hv
    rw [setL_cell vs' w L.b (L.o + o) hcell]
    by_cases hk : o ≤ k ∧ k < o + vs.length
    · rw [if_pos hk] at hv
      rw [if_pos (by omega)]
      obtain ⟨v', h1, h2⟩ := hvs.at hv
      exact ⟨v', by rw [show L.o + k - (L.o + o) = k - o from by omega]; exact h1, h2⟩
    · rw [if_neg hk] at hv
      rw [if_neg (by omega)]
      exact hc k v hv

theorem storeB_ok (x : HR Z G μ h w) {t : TypeId} {v v' p p' : Value} {h' : AH} (hs : storeB P h t v p = some h') (hv : VR μ v v') (hp : VR μ p p') :
    ∃ w', (Instr.storeAt t p' v').run P w = .ok () w' ∧ HR Z G μ h' w' ∧ FR h μ w h' μ w' := by
  unfold storeB at hs
  split at hs
  case h_2 => cases hs
  rename_i ad
  split at hs
  case h_2 => cases hs
  rename_i c g hsp hm hi
  split at hs
  case h_2 => cases hs
  rename_i k hsz
  split at hs
  case h_2 => cases hs
  rename_i h1 h2 h3
  simp only [Option.some.injEq] at hs
  subst hs
  simp only [VR] at hp
  obtain ⟨L, _, hL, rfl⟩ := hp
  have hcl := hv.cells
  have e1 : v.cells.size = k := beq_iff.1 h1
  have e2 := ble_iff.1 h2
  obtain ⟨r1, r2, r3⟩ := HR.store (P := P) x hm hi hL (o := ad.off) (by simpa [e1] using e2) hcl h3
  refine ⟨_, ?_, r2, r3⟩
  have e3 : v'.cells.size = k := by have := hcl.length; simp at this; omega
  simp only [Instr.storeAt, Instr.sureAddr, storeVar, Sem.run_bind, Sem.run_pure, Result.andThen_ok, run_sizeOf hsz, e3, ne_eq, not_true_eq_false, if_false]
  exact r1

theorem setCell_self (w : World) (b o : Nat) {v : Value} (h : w.cell? ⟨b, o, none⟩ = some v) : w.setCell ⟨b, o, none⟩ v = w := by
  have hh : w.heap.modify b (fun
      | .cells c elem frozen => .cells (if (none : Option Nat).isSome then c else c.setIfInBounds o v) elem frozen
      | o => o) = w.heap := by
    apply Array.ext
    · simp
    · intro i h1 h2
      rw [Array.getElem_modify]
      split
      · rename_i hi
        subst hi
        unfold World.cell? at h
        simp only [Option.isSome_none, Bool.false_eq_true, if_false] at h
        rw [Array.getElem?_eq_getElem h2] at h
        cases hc : w.heap[b] with
        | cells c el fr =>
          rw [hc] at h
          simp only at h ⊢
          obtain ⟨hlt, he⟩ := Array.getElem?_eq_some_iff.1 h
          have : c.setIfInBounds o v = c := by
            apply Array.ext
            · simp
            · intro j j1 j2
              rw [Array.getElem_setIfInBounds (by simpa using j2)]
              split
              · rename_i hj; subst hj; exact he.symm
              · rfl
          rw [if_neg (by simp), this]
        | _ => simp
      · rfl
  exact congrArg (fun hp => ({ w with heap := hp } : World)) hh

theorem setL_self : ∀ (vs : List Value) (w : World) (b o : Nat), (∀ k v, vs[k]? = some v → w.cell? ⟨b, o + k, none⟩ = some v) → setL w b o vs = w
  | [], _, _, _, _ => rfl
  | v :: vs, w, b, o, h => by
    rw [setL, setCell_self w b o (by simpa using h 0 v (by simp))]
    exact setL_self vs w b (o + 1) (fun k u hk => by rw [show o + 1 + k = o + (k + 1) from by omega]; exact h (k + 1) u (by simpa using hk))

theorem storeSame_ok (x : HR Z G μ h w) {t : TypeId} {v v' p p' : Value} (hs : storeSame P h t v p = true) (hv : VR μ v v') (hp : VR μ p p') :
    (Instr.storeAt t p' v').run P w = .ok () w := by
  unfold storeSame at hs
  split at hs
  case h_2 => cases hs
  rename_i ad
  split at hs
  case h_2 => cases hs
  rename_i c g hsp hown hi
  split at hs
  case h_2 => cases hs
  rename_i k hsz
  split at hs
  case h_2 => cases hs
  rename_i h1 h2 h3
  simp only [VR] at hp
  obtain ⟨L, _, hL, rfl⟩ := hp
  have e1 : v.cells.size = k := beq_iff.1 h1
  have e2 := ble_iff.1 h2
  have hsame := sameL_eq hs
  have hpure : pureL v.cells.toList = true := sameL_pure (by have := hs; rw [← hsame] at this; exact this)
  have hcl : v'.cells.toList = v.cells.toList := (VRL.pure hpure).1 hv.cells
  obtain ⟨l, hl, hb⟩ := x.blk _ _ hi
  rw [hL] at hl; cases hl
  obtain ⟨he, hsh, hin, hc, hf⟩ := hb
  have hcells : ∀ q u, v'.cells.toList[q]? = some u → w.cell? ⟨L.b, L.o + ad.off + q, none⟩ = some u := by
    intro q u hq
    rw [hcl, hsame, List.getElem?_take] at hq
    split at hq
    · rw [List.getElem?_drop] at hq
      obtain ⟨u', h5, h6⟩ := hc (ad.off + q) u (by simpa using hq)
      have hu : pureV u = true := by
        have hmem : u ∈ v.cells.toList := by
          rw [hsame]
          refine List.mem_of_getElem? (i := q) ?_
          rw [List.getElem?_take, if_pos (by assumption), List.getElem?_drop]
          exact hq
        have key : ∀ l : List Value, pureL l = true → u ∈ l → pureV u = true := by
          intro l
          induction l with
          | nil => intro _ h; cases h
          | cons y l ih =>
            intro hp hm
            simp only [pureL, Bool.and_eq_true] at hp
            cases hm with
            | head => exact hp.1
            | tail _ hm => exact ih hp.2 hm
        exact key _ hpure hmem
      have := (VR.pure hu).1 h6
      subst this
      rw [Nat.add_assoc]
      exact h5
    · cases hq
  have hone : v'.cells.toList.all (·.oneCell') = true := ones_VR hv.cells h3
  have hlen : v'.cells.toList.length = k := by rw [hcl]; simpa using e1
  have hst := run_storeCells (P := P) L.b (L.o + ad.off) v'.cells.toList 0 w hone (fun q hq => by
    obtain ⟨u, hu⟩ := some_lt hq
    have := hcells q u hu
    rw [Nat.add_zero, this]; rfl) (fun q hq => by
    rw [Nat.add_zero]
    exact hf hown _ (by omega))
  rw [Nat.add_zero, setL_self _ _ _ _ hcells] at hst
  have e3 : v'.cells.size = k := by simpa using hlen
  simp only [Instr.storeAt, Instr.sureAddr, storeVar, Sem.run_bind, Sem.run_pure, Result.andThen_ok, run_sizeOf hsz, e3, ne_eq, not_true_eq_false, if_false]
  exact hst

/-- A new row of cells. -/
theorem new_cells (x : HR Z G μ h w) {c c' rest : Array Value} {g : Gw} {kv : Nat → Value} {v : Value} {ho : Option AH} (el : TypeId) (hn : newB h (.cells c g) kv = some (v, ho)) (hc : VRL μ c.toList c'.toList) (hfit : g.fit el 0 := by trivial) :
    ∃ (ν : Mu) (h' : AH), ho = some h' ∧ v = kv h.next ∧ ν h.next = some ⟨w.heap.size, 0, (c' ++ rest).size, g.e⟩ ∧ HR Z G ν h' (w.alloc (.cells (c' ++ rest) el)) ∧ FR h μ w h' ν (w.alloc (.cells (c' ++ rest) el)) := by
  unfold newB at hn
  split at hn
  case h_2 => cases hn
  rename_i i h' hnew
  cases hn
  obtain ⟨rfl, ν, h1, h2, h3⟩ := HR.new x hnew (.cells (c' ++ rest) el) (c' ++ rest).size g.e (by
    intro ν hle
    refine ⟨rfl, ⟨el, by unfold World.shape? World.alloc; simp, hfit⟩, ?_, ?_, ?_⟩
    · have := hc.length
      simp at this ⊢
      omega
    · intro k u hu
      obtain ⟨u', hu', hr⟩ := hc.at (k := k) (v := u) (by simpa using hu)
      refine ⟨u', ?_, hr.mono hle⟩
      have hu'' : c'[k]? = some u' := by simpa using hu'
      have hlt : k < c'.size := (Array.getElem?_eq_some_iff.1 hu'').1
      rw [Nat.zero_add, World.cell?_alloc_new, Array.getElem?_append_left hlt]
      exact hu''
    · intro _ k hk
      simp)
  exact ⟨ν, h', rfl, rfl, h1, h2, h3⟩

theorem zeroOf_ok {t : TypeId} {z : Value} (hz : zeroOf P t = some z) : (zeroValue t).run P w = .ok z w ∧ pureV z = true ∧ ∃ i, P.info? t = some i ∧ i.zero = some z := by
  unfold zeroOf at hz
  split at hz
  case h_2 => cases hz
  rename_i i hi
  split at hz
  case h_2 => cases hz
  rename_i z' hz'
  split at hz
  case h_2 => cases hz
  rename_i hp
  cases hz
  exact ⟨by simp [zeroValue, typeInfo, hi, hz'], hp, i, hi, hz'⟩

theorem pure_cells {z : Value} (hz : pureV z = true) : pureL z.cells.toList = true := by
  cases z with
  | agg c => obtain ⟨l⟩ := c; simpa [pureV, Value.cells] using hz
  | _ => simpa [pureL, Value.cells] using hz

end
end Go.Proofs.YtebaekbmminjnaaGreatDoor.V
