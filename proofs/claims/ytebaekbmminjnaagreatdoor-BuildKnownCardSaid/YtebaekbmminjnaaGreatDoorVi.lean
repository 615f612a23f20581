/- The small machine's literals, makes, appends, iterators and lengths agree with the model's. Conditions: none. -/
import Derived.Test.YtebaekbmminjnaaGreatDoorVh
namespace Go.Proofs.YtebaekbmminjnaaGreatDoor.V
set_option linter.all false
open Go

section
variable {P : Program} {Z : AH} {G n : Nat} {μ : Mu} {env : T (Option Value)} {a : Act} {h : AH} {w : World}

theorem VRL.set {l l' : List Value} (hl : VRL μ l l') {v v' : Value} (hv : VR μ v v') (o : Nat) : VRL μ (l.set o v) (l'.set o v') := by
  rw [VRL.iff] at hl ⊢
  refine ⟨by simp [hl.1], ?_⟩
  intro k u hu
  rw [List.getElem?_set] at hu ⊢
  split at hu
  · rename_i he
    rw [if_pos he]
    split at hu
    · rename_i hlt
      rw [if_pos (by omega)]
      cases hu
      exact ⟨v', rfl, hv⟩
    · cases hu
  · rename_i he
    rw [if_neg he]
    exact hl.2 k u hu

theorem VRL.putL {vs : List Value} : ∀ {vs' : List Value} {c c' : Array Value}, VRL μ c.toList c'.toList → VRL μ vs vs' → ∀ o, VRL μ (putL c o vs).toList (V.putL c' o vs').toList := by
  induction vs with
  | nil => intro vs' c c' hc hv o; simp only [VRL] at hv; subst hv; exact hc
  | cons v vs ih =>
    intro vs' c c' hc hv o
    simp only [VRL] at hv
    obtain ⟨v', us', rfl, h1, h2⟩ := hv
    simp only [V.putL]
    exact ih (by simpa using hc.set h1 o) h2 (o + 1)

theorem fold_putL (off : Nat) : ∀ (l : List Value) (k : Nat) (c : Array Value), (l.zipIdx k).foldl (fun cs (x : Value × Nat) => cs.setIfInBounds (off + x.2) x.1) c = putL c (off + k) l
  | [], k, c => rfl
  | v :: vs, k, c => by
    rw [List.zipIdx_cons, List.foldl_cons, fold_putL off vs (k + 1)]
    rfl

/-- Parts of a literal: each at its place. -/
def PR (μ : Mu) : List (Nat × Value) → List (Nat × Value) → Prop
  | [], l => l = []
  | (i, v) :: ps, l => ∃ v' ps', l = (i, v') :: ps' ∧ VR μ v v' ∧ PR μ ps ps'

theorem fillB_ok {place : Nat → Option (Nat × Nat)} : ∀ {ps ps' : List (Nat × Value)} {c c' r : Array Value}, fillB place c ps = some r → VRL μ c.toList c'.toList → PR μ ps ps' →
    ∃ r', Instr.fill place c' ps' = some r' ∧ VRL μ r.toList r'.toList
  | [], ps', c, c', r, hr, hc, hp => by
    simp only [PR] at hp
    subst hp
    simp only [fillB, Option.some.injEq] at hr
    subst hr
    exact ⟨c', rfl, hc⟩
  | (i, v) :: ps, ps', c, c', r, hr, hc, hp => by
    simp only [PR] at hp
    obtain ⟨v', us', rfl, hv, hps⟩ := hp
    simp only [fillB] at hr
    split at hr
    · cases hr
    · rename_i off size hpl
      split at hr
      · rename_i h1 h2
        have e1 := beq_iff.1 h1
        have e2 := ble_iff.1 h2
        have hcl := hv.cells
        have e3 := hcl.length
        have e4 := hc.length
        simp at e3 e4
        obtain ⟨r', h3, h4⟩ := fillB_ok hr (VRL.putL hc hcl off) hps
        refine ⟨r', ?_, h4⟩
        simp only [Instr.fill, hpl]
        have hno : (decide (v'.cells.size ≠ size) || decide (off + v'.cells.size > c'.size)) = false := by simp; omega
        rw [hno]
        simp only [Bool.false_eq_true, if_false]
        rw [← Array.foldl_toList, Array.toList_zipIdx, fold_putL off v'.cells.toList 0 c']
        exact h3
      · cases hr

theorem partsOk_ok (e : EnvOK μ n env a) (hg : ∀ g, g < G → ∃ l, μ g = some l ∧ l.b = g ∧ l.o = 0) : ∀ {ps : List (Nat × Operand)} {vs : List (Nat × Value)}, partsOk G ps n env = some vs → PR μ vs (ps.map fun (i, x) => (i, a.eval x))
  | [], vs, hx => by simp only [partsOk, Option.some.injEq] at hx; subst hx; rfl
  | (i, x) :: ps, vs, hx => by
    simp only [partsOk] at hx
    split at hx
    · rename_i v hv
      split at hx
      · rename_i us hus
        simp only [Option.some.injEq] at hx
        subst hx
        exact ⟨_, _, rfl, ev_ok hv e hg, partsOk_ok e hg hus⟩
      · cases hx
    · cases hx

theorem places_run : ∀ {fs : List Field} {pl : List (Nat × Nat)}, placesOf P fs = some pl → (fs.mapM (fun f => do pure (f.offset, ← sizeOf f.type) : Field → Sem (Nat × Nat))).run P w = .ok pl w
  | [], pl, hp => by simp only [placesOf, Option.some.injEq] at hp; subst hp; rfl
  | f :: fs, pl, hp => by
    simp only [placesOf] at hp
    split at hp
    · rename_i s r hs hr
      simp only [Option.some.injEq] at hp
      subst hp
      simp only [List.mapM_cons, Sem.run_bind, run_sizeOf hs, Result.andThen_ok, Sem.run_pure, places_run hr]
    · cases hp

theorem buildB_ok {t : TypeId} {ps ps' : List (Nat × Value)} {v : Value} (hb : buildB P t ps = some v) (hp : PR μ ps ps') :
    ∃ v', (Instr.build t ps'.toArray).run P w = .ok v' w ∧ VR μ v v' := by
  unfold buildB at hb
  split at hb
  · rename_i z fs hz hu
    split at hb
    case h_2 => cases hb
    rename_i pl hpl
    rw [Option.map_eq_some_iff] at hb
    obtain ⟨c, hc, rfl⟩ := hb
    obtain ⟨hz1, hz2, _⟩ := zeroOf_ok (w := w) hz
    obtain ⟨r', h1, h2⟩ := fillB_ok hc (VRL.of_pure (pure_cells hz2)) hp
    refine ⟨.agg r', ?_, VR.agg_mk h2⟩
    have hrun := places_run (P := P) (w := w) hpl
    simp only [Instr.build, Sem.run_bind, hz1, run_underlying hu, Result.andThen_ok]
    rw [Array.mapM_eq_mapM_toList]
    simp only [Sem.run_map, hrun, Result.andThen_ok, List.getElem?_toArray]
    rw [h1]
    rfl
  · rename_i z m e hz hu
    split at hb
    case h_2 => cases hb
    rename_i size hs
    rw [Option.map_eq_some_iff] at hb
    obtain ⟨c, hc, rfl⟩ := hb
    obtain ⟨hz1, hz2, _⟩ := zeroOf_ok (w := w) hz
    obtain ⟨r', h1, h2⟩ := fillB_ok hc (VRL.of_pure (pure_cells hz2)) hp
    refine ⟨.agg r', ?_, VR.agg_mk h2⟩
    simp only [Instr.build, Sem.run_bind, hz1, run_underlying hu, Result.andThen_ok, run_sizeOf hs]
    rw [h1]
    rfl
  · cases hb

theorem zerosB_len (z : List Value) : ∀ k, (zerosB z k).length = k * z.length
  | 0 => by simp [zerosB]
  | k + 1 => by simp [zerosB, zerosB_len z k, Nat.add_mul]; omega

theorem zerosB_at (z : List Value) (hz : 0 < z.length) : ∀ k j, j < k * z.length → (zerosB z k)[j]? = z[j % z.length]?
  | 0, j, hj => by simp at hj
  | k + 1, j, hj => by
    rw [zerosB]
    by_cases h : j < z.length
    · rw [List.getElem?_append_left h, Nat.mod_eq_of_lt h]
    · rw [List.getElem?_append_right (by omega), zerosB_at z hz k _ (by rw [Nat.add_mul] at hj; omega)]
      congr 1
      rw [Nat.mod_eq_sub_mod (by omega : j ≥ z.length)]

theorem zeros_eq (z : Array Value) (k : Nat) : ((Array.range (k * z.size)).map fun i => z[i % z.size]!) = (zerosB z.toList k).toArray := by
  apply Array.ext'
  simp only
  apply List.ext_getElem?
  intro j
  by_cases hj : j < k * z.size
  · have hz : 0 < z.size := by
      rcases Nat.eq_zero_or_pos z.size with h | h
      · rw [h] at hj; simp at hj
      · exact h
    rw [zerosB_at z.toList (by simpa using hz) k j (by simpa using hj)]
    have hm : j % z.size < z.size := Nat.mod_lt _ hz
    simp [hj, hm, getElem!_pos]
  · have : (zerosB z.toList k).length ≤ j := by rw [zerosB_len]; simp; omega
    rw [List.getElem?_eq_none this, List.getElem?_eq_none (by simp; omega)]

theorem zerosL_pure {z : List Value} (hz : pureL z = true) : ∀ k, pureL (zerosB z k) = true
  | 0 => rfl
  | k + 1 => by
    rw [zerosB]
    have : ∀ (a b : List Value), pureL a = true → pureL b = true → pureL (a ++ b) = true := by
      intro a b ha hb
      induction a with
      | nil => exact hb
      | cons v vs ih => simp only [pureL, Bool.and_eq_true] at ha; simp only [List.cons_append, pureL, Bool.and_eq_true]; exact ⟨ha.1, ih ha.2⟩
    exact this _ _ hz (zerosL_pure hz k)

/-- What every operation that turns memory owes. -/
def Owe (Z : AH) (G : Nat) (μ : Mu) (h : AH) (w : World) (v : Value) (ho : Option AH) (v' : Value) (w' : World) : Prop :=
  ∃ ν : Mu, VR ν v v' ∧ HR Z G ν (ho.getD h) w' ∧ FR h μ w (ho.getD h) ν w'

theorem Owe.keep (x : HR Z G μ h w) {v v' : Value} (hv : VR μ v v') : Owe Z G μ h w v none v' w := ⟨μ, hv, x, FR.refl _ _ _⟩

theorem tyOf_fit (t : TypeId) : (tyOf P t).fit t 0 := by unfold tyOf; split <;> first | trivial | exact ⟨rfl, rfl⟩
theorem tyOf_e (t : TypeId) : (tyOf P t).e = 0 := by unfold tyOf; split <;> rfl

theorem boxB_ok (x : HR Z G μ h w) {v v' u : Value} {ho : Option AH} (t : TypeId) (hb : newB h (.cells v.cells (tyOf P t)) ptrTo = some (u, ho)) (hv : VR μ v v') :
    ∃ u' w', (Instr.box t v').run P w = .ok u' w' ∧ Owe Z G μ h w u ho u' w' := by
  obtain ⟨ν, h', rfl, rfl, h1, h2, h3⟩ := new_cells (rest := #[]) x t hb hv.cells (tyOf_fit t)
  refine ⟨_, _, rfl, ν, ?_, by simpa using h2, by simpa using h3⟩
  simp only [ptrTo, VR]
  exact ⟨_, trivial, h1, rfl⟩

theorem allocB_ok (x : HR Z G μ h w) {t : TypeId} {z u : Value} {ho : Option AH} (hz : zeroOf P t = some z) (hb : newB h (.cells z.cells (tyOf P t)) ptrTo = some (u, ho)) :
    ∃ u' w', (Instr.alloc t true (.tuple #[])).run P w = .ok u' w' ∧ Owe Z G μ h w u ho u' w' := by
  obtain ⟨hz1, hz2, _⟩ := zeroOf_ok (w := w) hz
  obtain ⟨ν, h', rfl, rfl, h1, h2, h3⟩ := new_cells (rest := #[]) x t hb (VR.of_pure hz2).cells (tyOf_fit t)
  refine ⟨.pointer (some ⟨w.heap.size, 0, none⟩), w.alloc (.cells z.cells t), ?_, ν, ?_, by simpa using h2, by simpa using h3⟩
  · simp only [Instr.alloc, Sem.run_bind, hz1, Result.andThen_ok, newVar, newRow, run_newObj, Sem.run_pure]
    rfl
  · simp only [ptrTo, VR]
    exact ⟨_, trivial, h1, rfl⟩

theorem buildSliceB_ok (x : HR Z G μ h w) {t : TypeId} {len : Nat} {ps ps' : List (Nat × Value)} {u : Value} {ho : Option AH} (hb : buildSliceB P h t len ps = some (u, ho)) (hp : PR μ ps ps') :
    ∃ u' w', (Instr.buildSlice t len ps'.toArray).run P w = .ok u' w' ∧ Owe Z G μ h w u ho u' w' := by
  unfold buildSliceB at hb
  split at hb
  case h_2 => cases hb
  rename_i e hu
  split at hb
  case h_2 => cases hb
  rename_i size z hs hz
  split at hb
  case h_2 => cases hb
  rename_i h1 h2
  have e1 := beq_iff.1 h1
  have e2 := ble_iff.1 h2
  split at hb
  case h_2 => cases hb
  rename_i c hc
  obtain ⟨hz1, hz2, _⟩ := zeroOf_ok (w := w) hz
  obtain ⟨r', h3, h4⟩ := fillB_ok hc (VRL.of_pure (by simpa using zerosL_pure (pure_cells hz2) len)) hp
  obtain ⟨ν, h', rfl, rfl, g1, g2, g3⟩ := new_cells (rest := #[]) x e hb h4
  simp only [Array.append_empty] at g1 g2 g3
  refine ⟨.slice (some ⟨w.heap.size, 0, none⟩) len len, w.alloc (.cells r' e), ?_, ν, ?_, g2, g3⟩
  · have hbig : ¬ (len * size > 2 ^ 24) := by have : (16777216 : Nat) = 2 ^ 24 := by decide
                                              omega
    simp only [Instr.buildSlice, Sem.run_bind, run_underlying hu, Result.andThen_ok, run_sizeOf hs, if_neg hbig]
    have hzero : ((Array.range (len * size)).map fun i => z.cells[i % z.cells.size]!) = (zerosB z.cells.toList len).toArray := by
      rw [← e1]; exact zeros_eq _ _
    by_cases h0 : len * size = 0
    · have hnil : (zerosB z.cells.toList len).toArray = #[] := by
        rw [← hzero, h0]; simp
      rw [hnil] at h3
      simp only [h0, if_true, Sem.run_bind, Sem.run_pure, Result.andThen_ok, Array.range_zero', Array.map_empty]
      rw [h3]
      rfl
    · simp only [if_neg h0, Sem.run_bind, hz1, Result.andThen_ok, Sem.run_pure]
      rw [hzero, h3]
      rfl
  · simp only [VR]
    exact ⟨_, len, trivial, g1, rfl, fun _ => rfl, fun h => absurd rfl h⟩

theorem wrap_small {k : Nat} (hk : k ≤ 1099511627776) : IntKind.i64.wrap (Int.ofNat k) = Int.ofNat k := by
  unfold IntKind.wrap
  simp only [IntKind.bits, IntKind.signed]
  have : (Int.ofNat k) % (2 ^ 64 : Int) = Int.ofNat k := Int.emod_eq_of_lt (by simp) (by simp; omega)
  simp only [this, Bool.true_and]
  rw [if_neg]
  simp
  omega

theorem makeSliceB_ok (x : HR Z G μ h w) {t : TypeId} {len cap len' cap' u : Value} {ho : Option AH} (hb : makeSliceB P h t len cap = some (u, ho)) (hl : VR μ len len') (hcp : VR μ cap cap') :
    ∃ u' w', (Instr.makeSlice t len' cap').run P w = .ok u' w' ∧ Owe Z G μ h w u ho u' w' := by
  unfold makeSliceB at hb
  split at hb
  case h_2 => cases hb
  rename_i e kl l kc c hu
  simp only [VR] at hl hcp
  subst hl hcp
  split at hb
  case h_2 => cases hb
  rename_i i z hi hz
  split at hb
  case h_2 => cases hb
  rename_i h1 h2 h3
  have e1 := beq_iff.1 h1
  have e2 := ble_iff.1 h2
  have e3 := ble_iff.1 h3
  rw [Nat.mul_add, Nat.mul_one] at e3
  obtain ⟨hz1, hz2, _⟩ := zeroOf_ok (w := w) hz
  obtain ⟨ν, h', rfl, rfl, g1, g2, g3⟩ := new_cells (rest := #[]) x e hb (c' := (zerosB z.cells.toList c).toArray) (by simpa using VRL.of_pure (zerosL_pure (pure_cells hz2) c))
  simp only [Array.append_empty] at g1 g2 g3
  refine ⟨.slice (some ⟨w.heap.size, 0, none⟩) l c, w.alloc (.cells (zerosB z.cells.toList c).toArray e), ?_, ν, ?_, g2, g3⟩
  · have wl := wrap_small (k := l) (by omega)
    have wc := wrap_small (k := c) (by omega)
    have hti : (typeInfo e).run P w = .ok i w := by simp [typeInfo, hi]
    have hsz : (sizeOf e).run P w = .ok i.size w := run_sizeOf (by simp [szOf, hi])
    have hm : (i.bytes : Int) * Int.ofNat c = ((c * i.bytes : Nat) : Int) := by rw [Nat.mul_comm]; exact (Int.natCast_mul _ _).symm
    have hq : c * i.bytes ≤ 1099511627776 := by omega
    have t1 : (decide (Int.ofNat c < 0) || decide ((i.bytes : Int) * Int.ofNat c > 2 ^ 48)) = false := by
      rw [hm]
      generalize c * i.bytes = q at hq
      have h1 : decide (Int.ofNat c < 0) = false := by rw [decide_eq_false_iff_not]; exact Int.not_lt.2 (Int.natCast_nonneg c)
      have h2 : decide ((q : Int) > 2 ^ 48) = false := by
        rw [decide_eq_false_iff_not, show (2 ^ 48 : Int) = 281474976710656 from by decide]; omega
      rw [h1, h2]; rfl
    have t2 : decide (Int.ofNat l < 0) = false := by rw [decide_eq_false_iff_not]; exact Int.not_lt.2 (Int.natCast_nonneg l)
    have t3 : decide (Int.ofNat l > Int.ofNat c) = false := by rw [decide_eq_false_iff_not]; intro h; have := Int.ofNat_lt.1 h; omega
    clear e3 hq hm
    simp only [Instr.makeSlice, asInt, asIntOf, Sem.run_bind, run_underlying hu, Result.andThen_ok, Sem.run_pure, hti, wl, wc, t1, t2, t3, Bool.or_self, Bool.false_eq_true, if_false, run_askRoom, hsz]
    have hzero : ((Array.range (c * i.size)).map fun j => z.cells[j % z.cells.size]!) = (zerosB z.cells.toList c).toArray := by
      rw [← e1]; exact zeros_eq _ _
    have hcn : (Int.ofNat c).toNat = c := rfl
    have hln : (Int.ofNat l).toNat = l := rfl
    simp only [hcn, hln]
    by_cases h0 : c * i.size = 0
    · have hnil : (zerosB z.cells.toList c).toArray = #[] := by
        rw [← hzero, h0]; simp
      simp only [h0, if_true, Sem.run_bind, Sem.run_pure, Result.andThen_ok, Array.range_zero', Array.map_empty]
      rw [hnil]
      rfl
    · simp only [if_neg h0, Sem.run_bind, hz1, Result.andThen_ok, Sem.run_pure]
      rw [hzero]
      rfl
  · simp only [VR]
    exact ⟨_, c, trivial, g1, rfl, fun _ => rfl, fun h => absurd rfl h⟩

theorem rangeB_ok (x : HR Z G μ h w) {t : TypeId} {v v' u : Value} {ho : Option AH} (hb : rangeB P h t v = some (u, ho)) (hv : VR μ v v') :
    ∃ u' w', (Instr.range t v').run P w = .ok u' w' ∧ Owe Z G μ h w u ho u' w' := by
  unfold rangeB at hb
  split at hb
  case h_2 => cases hb
  rename_i s hu
  simp only [VR] at hv
  subst hv
  unfold newB at hb
  split at hb
  case h_2 => cases hb
  rename_i i h' hnew
  cases hb
  obtain ⟨rfl, ν, h1, h2, h3⟩ := HR.new x hnew (.stringIter s 0) 0 0 (fun ν _ => ⟨rfl, rfl, by unfold World.alloc; simp⟩)
  refine ⟨.pointer (some ⟨w.heap.size, 0, none⟩), w.alloc (.stringIter s 0), ?_, ν, ?_, h2, h3⟩
  · simp only [Instr.range, Sem.run_bind, run_underlying hu, Result.andThen_ok, Sem.run_pure, run_newObj]
    rfl
  · simp only [ptrTo, VR]
    exact ⟨_, trivial, h1, rfl⟩

theorem nextB_ok (x : HR Z G μ h w) {t : TypeId} {v v' u : Value} {b : Bool} {ho : Option AH} (hb : nextB h v b = some (u, ho)) (hv : VR μ v v') :
    ∃ u' w', (Instr.next v' b t).run P w = .ok u' w' ∧ Owe Z G μ h w u ho u' w' := by
  unfold nextB at hb
  split at hb
  case h_2 => cases hb
  rename_i i
  simp only [VR] at hv
  obtain ⟨L, _, hL, rfl⟩ := hv
  split at hb
  case h_2 => cases hb
  rename_i s pos hi
  obtain ⟨l, hl, hbr⟩ := x.blk i _ hi
  rw [hL] at hl; cases hl
  obtain ⟨he, ho0, hh⟩ := hbr
  have hget : (getObj L.b).run P w = .ok (.stringIter s pos) w := by simp [getObj, Sem.run, hh]
  rw [ho0]
  split at hb
  · rename_i hlt
    have hlt' : pos < s.size := by rw [size_list]; exact blt_iff.1 hlt
    split at hb
    case h_2 => cases hb
    rename_i hm
    split at hb
    rename_i c width hdec
    cases hb
    have hset : (setObj L.b (.stringIter s (pos + width))).run P w = .ok () { w with heap := w.heap.setIfInBounds L.b (.stringIter s (pos + width)) } := by
      simp [setObj, Sem.run, hh]
    have hbl : L.b < w.heap.size := by
      rcases Nat.lt_or_ge L.b w.heap.size with h' | h'
      · exact h'
      · rw [Array.getElem?_eq_none h'] at hh; cases hh
    obtain ⟨r1, r2⟩ := HR.put x hm hi hL (w' := { w with heap := w.heap.setIfInBounds L.b (.stringIter s (pos + width)) }) (b := some (.iter s (pos + width))) (by simp)
      (fun k hk => by simp [Array.getElem?_setIfInBounds_ne (fun h => hk h.symm)]) rfl rfl rfl
      (fun bb hbb => by cases hbb; exact ⟨he, ho0, by simp [hbl]⟩)
    refine ⟨_, _, ?_, μ, VR.of_pure ?_, r1, r2⟩
    · simp only [Instr.next, Sem.run_bind, hget, Result.andThen_ok, if_pos hlt', hdec, hset, Sem.run_pure, goInt]
    · rfl
  · rename_i hlt
    have hlt' : ¬ pos < s.size := by
      rw [size_list]
      intro hc
      rw [blt_iff.2 hc] at hlt
      cases hlt
    cases hb
    refine ⟨.tuple #[.bool false], w, ?_, Owe.keep x (VR.of_pure rfl)⟩
    simp only [Instr.next, Sem.run_bind, hget, Result.andThen_ok, if_neg hlt', Sem.run_pure]

theorem lenOpB_ok (x : HR Z G μ h w) {t ty : TypeId} {v v' u : Value} (hb : lenOpB P h t v = some u) (hv : VR μ v v') (ts : Array TypeId) (ht : ts[0]? = some t) :
    (Builtin.len_ ts ty #[v']).run P w = .ok u w ∧ pureV u = true := by
  unfold lenOpB at hb
  split at hb
  · rename_i s hu
    simp only [VR] at hv
    subst hv
    cases hb
    refine ⟨?_, rfl⟩
    simp [Builtin.len_, ht, run_underlying hu, goInt]
  · rename_i m e hu
    cases hb
    refine ⟨?_, rfl⟩
    simp [Builtin.len_, ht, run_underlying hu, goInt]
  · rename_i e ad k c hu
    cases hb
    refine ⟨?_, rfl⟩
    cases ad with
    | none => simp only [VR] at hv; subst hv; simp [Builtin.len_, ht, run_underlying hu, goInt]
    | some ad => simp only [VR] at hv; obtain ⟨_, _, _, _, rfl, _⟩ := hv; simp [Builtin.len_, ht, run_underlying hu, goInt]
  · rename_i k e hu
    simp only [VR] at hv
    subst hv
    cases hb
    refine ⟨?_, rfl⟩
    simp [Builtin.len_, ht, run_underlying hu, goInt]
  · rename_i k e r hu
    simp only [VR] at hv
    obtain ⟨L, hL, rfl⟩ := hv
    split at hb
    case h_2 => cases hb
    rename_i es cl hi
    cases hb
    refine ⟨?_, rfl⟩
    obtain ⟨l, hl, hbr⟩ := x.blk r _ hi
    rw [hL] at hl; cases hl
    obtain ⟨_, es', hh, hsz, _⟩ := hbr
    have hget : (getObj L.b).run P w = .ok (.map es' cl) w := by simp [getObj, Sem.run, hh]
    simp [Builtin.len_, ht, run_underlying hu, goInt, hget, hsz]
  · cases hb

end
end Go.Proofs.YtebaekbmminjnaaGreatDoor.V
