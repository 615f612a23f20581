/- The small machine's literals, makes, appends, iterators and lengths agree with the model's. Conditions: none. -/
import Derived.Test.YtibffohcmegooaaGreatDoorVh
import Derived.WideKeyRuns
namespace Go.Proofs.YtibffohcmegooaaGreatDoor.V
set_option linter.all false
open Go

section
variable {P : Program} {Z : AH} {G n : Nat} {μ : Mu} {env : T (Option Value)} {a : Act} {h : AH} {w : World}

theorem VRL.set {l l' : List Value} (hl : VRL μ l l') {v v' : Value} (hv : VR μ v v') (o : Nat) : VRL μ (l.set o v) (l'.set o v') := by
  rw [VRL.iff] at hl ⊢
  refine ⟨by simp [hl.1], ?_⟩
  intro k u hu
  rw [List.getElem?_set] at hu ⊢
  split at hu
  · rename_i he
    rw [if_pos he]
    split at hu
    · rename_i hlt
      rw [if_pos (by omega)]
      cases hu
      exact ⟨v', rfl, hv⟩
    · cases hu
  · rename_i he
    rw [if_neg he]
    exact hl.2 k u hu

theorem VRL.putL {vs : List Value} : ∀ {vs' : List Value} {c c' : Array Value}, VRL μ c.toList c'.toList → VRL μ vs vs' → ∀ o, VRL μ (putL c o vs).toList (V.putL c' o vs').toList := by
  induction vs with
  | nil => intro vs' c c' hc hv o; simp only [VRL] at hv; subst hv; exact hc
  | cons v vs ih =>
    intro vs' c c' hc hv o
    simp only [VRL] at hv
    obtain ⟨v', us', rfl, h1, h2⟩ := hv
    simp only [V.putL]
    exact ih (by simpa using hc.set h1 o) h2 (o + 1)

theorem fold_putL (off : Nat) : ∀ (l : List Value) (k : Nat) (c : Array Value), (l.zipIdx k).foldl (fun cs (x : Value × Nat) => cs.setIfInBounds (off + x.2) x.1) c = putL c (off + k) l
  | [], k, c => rfl
  | v :: vs, k, c => by
    rw [List.zipIdx_cons, List.foldl_cons, fold_putL off vs (k + 1)]
    rfl

/-- Parts of a literal: each at its place. -/
def PR (μ : Mu) : List (Nat × Value) → List (Nat × Value) → Prop
  | [], l => l = []
  | (i, v) :: ps, l => ∃ v' ps', l = (i, v') :: ps' ∧ VR μ v v' ∧ PR μ ps ps'

theorem fillB_ok {place : Nat → Option (Nat × Nat)} : ∀ {ps ps' : List (Nat × Value)} {c c' r : Array Value}, fillB place c ps = some r → VRL μ c.toList c'.toList → PR μ ps ps' →
    ∃ r', Instr.fill place c' ps' = some r' ∧ VRL μ r.toList r'.toList
  | [], ps', c, c', r, hr, hc, hp => by
    simp only [PR] at hp
    subst hp
    simp only [fillB, Option.some.injEq] at hr
    subst hr
    exact ⟨c', rfl, hc⟩
  | (i, v) :: ps, ps', c, c', r, hr, hc, hp => by
    simp only [PR] at hp
    obtain ⟨v', us', rfl, hv, hps⟩ := hp
    simp only [fillB] at hr
    split at hr
    · cases hr
    · rename_i off size hpl
      split at hr
      · rename_i h1 h2
        have e1 := beq_iff.1 h1
        have e2 := ble_iff.1 h2
        have hcl := hv.cells
        have e3 := hcl.length
        have e4 := hc.length
        simp at e3 e4
        obtain ⟨r', h3, h4⟩ := fillB_ok hr (VRL.putL hc hcl off) hps
        refine ⟨r', ?_, h4⟩
        simp only [Instr.fill, hpl]
        have hno : (decide (v'.cells.size ≠ size) || decide (off + v'.cells.size > c'.size)) = false := by simp; omega
        rw [hno]
        simp only [Bool.false_eq_true, if_false]
        rw [← Array.foldl_toList, Array.toList_zipIdx, fold_putL off v'.cells.toList 0 c']
        exact h3
      · cases hr

theorem partsOk_ok (e : EnvOK μ n env a) (hg : ∀ g, g < G → ∃ l, μ g = some l ∧ l.b = g ∧ l.o = 0) : ∀ {ps : List (Nat × Operand)} {vs : List (Nat × Value)}, partsOk G ps n env = some vs → PR μ vs (ps.map fun (i, x) => (i, a.eval x))
  | [], vs, hx => by simp only [partsOk, Option.some.injEq] at hx; subst hx; rfl
  | (i, x) :: ps, vs, hx => by
    simp only [partsOk] at hx
    split at hx
    · rename_i v hv
      split at hx
      · rename_i us hus
        simp only [Option.some.injEq] at hx
        subst hx
        exact ⟨_, _, rfl, ev_ok hv e hg, partsOk_ok e hg hus⟩
      · cases hx
    · cases hx

theorem places_run : ∀ {fs : List Field} {pl : List (Nat × Nat)}, placesOf P fs = some pl → (fs.mapM (fun f => do pure (f.offset, ← sizeOf f.type) : Field → Sem (Nat × Nat))).run P w = .ok pl w
  | [], pl, hp => by simp only [placesOf, Option.some.injEq] at hp; subst hp; rfl
  | f :: fs, pl, hp => by
    simp only [placesOf] at hp
    split at hp
    · rename_i s r hs hr
      simp only [Option.some.injEq] at hp
      subst hp
      simp only [List.mapM_cons, Sem.run_bind, run_sizeOf hs, Result.andThen_ok, Sem.run_pure, places_run hr]
    · cases hp

theorem buildB_ok {t : TypeId} {ps ps' : List (Nat × Value)} {v : Value} (hb : buildB P t ps = some v) (hp : PR μ ps ps') :
    ∃ v', (Instr.build t ps'.toArray).run P w = .ok v' w ∧ VR μ v v' := by
  unfold buildB at hb
  split at hb
  · rename_i z fs hz hu
    split at hb
    case h_2 => cases hb
    rename_i pl hpl
    rw [Option.map_eq_some_iff] at hb
    obtain ⟨c, hc, rfl⟩ := hb
    obtain ⟨hz1, hz2, _⟩ := zeroOf_ok (w := w) hz
    obtain ⟨r', h1, h2⟩ := fillB_ok hc (VRL.of_pure (pure_cells hz2)) hp
    refine ⟨.agg r', ?_, VR.agg_mk h2⟩
    have hrun := places_run (P := P) (w := w) hpl
    simp only [Instr.build, Sem.run_bind, hz1, run_underlying hu, Result.andThen_ok]
    rw [Array.mapM_eq_mapM_toList]
    simp only [Sem.run_map, hrun, Result.andThen_ok, List.getElem?_toArray]
    rw [h1]
    rfl
  · rename_i z m e hz hu
    split at hb
    case h_2 => cases hb
    rename_i size hs
    rw [Option.map_eq_some_iff] at hb
    obtain ⟨c, hc, rfl⟩ := hb
    obtain ⟨hz1, hz2, _⟩ := zeroOf_ok (w := w) hz
    obtain ⟨r', h1, h2⟩ := fillB_ok hc (VRL.of_pure (pure_cells hz2)) hp
    refine ⟨.agg r', ?_, VR.agg_mk h2⟩
    simp only [Instr.build, Sem.run_bind, hz1, run_underlying hu, Result.andThen_ok, run_sizeOf hs]
    rw [h1]
    rfl
  · cases hb

theorem zerosB_len (z : List Value) : ∀ k, (zerosB z k).length = k * z.length
  | 0 => by simp [zerosB]
  | k + 1 => by simp [zerosB, zerosB_len z k, Nat.add_mul]; omega

theorem zerosB_at (z : List Value) (hz : 0 < z.length) : ∀ k j, j < k * z.length → (zerosB z k)[j]? = z[j % z.length]?
  | 0, j, hj => by simp at hj
  | k + 1, j, hj => by
    rw [zerosB]
    by_cases h : j < z.length
    · rw [List.getElem?_append_left h, Nat.mod_eq_of_lt h]
    · rw [List.getElem?_append_right (by omega), zerosB_at z hz k _ (by rw [Nat.add_mul] at hj; omega)]
      congr 1
      rw [Nat.mod_eq_sub_mod (by omega : j ≥ z.length)]

theorem zeros_eq (z : Array Value) (k : Nat) : ((Array.range (k * z.size)).map fun i => z[i % z.size]!) = (zerosB z.toList k).toArray := by
  apply Array.ext'
  simp only
  apply List.ext_getElem?
  intro j
  by_cases hj : j < k * z.size
  · have hz : 0 < z.size := by
      rcases Nat.eq_zero_or_pos z.size with h | h
      · rw [h] at hj; simp at hj
      · exact h
    rw [zerosB_at z.toList (by simpa using hz) k j (by simpa using hj)]
    have hm : j % z.size < z.size := Nat.mod_lt _ hz
    simp [hj, hm, getElem!_pos]
  · have : (zerosB z.toList k).length ≤ j := by rw [zerosB_len]; simp; omega
    rw [List.getElem?_eq_none this, List.getElem?_eq_none (by simp; omega)]

theorem zerosL_pure {z : List Value} (hz : pureL z = true) : ∀ k, pureL (zerosB z k) = true
  | 0 => rfl
  | k + 1 => by
    rw [zerosB]
    have : ∀ (a b : List Value), pureL a = true → pureL b = true → pureL (a ++ b) = true := by
      intro a b ha hb
      induction a with
      | nil => exact hb
      | cons v vs ih => simp only [pureL, Bool.and_eq_true] at ha; simp only [List.cons_append, pureL, Bool.and_eq_true]; exact ⟨ha.1, ih ha.2⟩
    exact this _ _ hz (zerosL_pure hz k)

/-- What every operation that turns memory owes. -/
def Owe (Z : AH) (G : Nat) (μ : Mu) (h : AH) (w : World) (v : Value) (ho : Option AH) (v' : Value) (w' : World) : Prop :=
  ∃ ν : Mu, VR ν v v' ∧ HR Z G ν (ho.getD h) w' ∧ FR h μ w (ho.getD h) ν w'

theorem Owe.keep (x : HR Z G μ h w) {v v' : Value} (hv : VR μ v v') : Owe Z G μ h w v none v' w := ⟨μ, hv, x, FR.refl _ _ _⟩

theorem tyOf_fit (t : TypeId) : (tyOf P t).fit t 0 := by unfold tyOf; split <;> first | trivial | exact ⟨rfl, rfl⟩
theorem tyOf_e (t : TypeId) : (tyOf P t).e = 0 := by unfold tyOf; split <;> rfl

theorem boxB_ok (x : HR Z G μ h w) {v v' u : Value} {ho : Option AH} (t : TypeId) (hb : newB h (.cells v.cells (tyOf P t)) ptrTo = some (u, ho)) (hv : VR μ v v') :
    ∃ u' w', (Instr.box t v').run P w = .ok u' w' ∧ Owe Z G μ h w u ho u' w' := by
  obtain ⟨ν, h', rfl, rfl, h1, h2, h3⟩ := new_cells (rest := #[]) x t hb hv.cells (tyOf_fit t)
  refine ⟨_, _, rfl, ν, ?_, by simpa using h2, by simpa using h3⟩
  simp only [ptrTo, VR]
  exact ⟨_, trivial, h1, rfl⟩

theorem allocB_ok (x : HR Z G μ h w) {t : TypeId} {z u : Value} {ho : Option AH} (hz : zeroOf P t = some z) (hb : newB h (.cells z.cells (tyOf P t)) ptrTo = some (u, ho)) :
    ∃ u' w', (Instr.alloc t true (.tuple #[])).run P w = .ok u' w' ∧ Owe Z G μ h w u ho u' w' := by
  obtain ⟨hz1, hz2, _⟩ := zeroOf_ok (w := w) hz
  obtain ⟨ν, h', rfl, rfl, h1, h2, h3⟩ := new_cells (rest := #[]) x t hb (VR.of_pure hz2).cells (tyOf_fit t)
  refine ⟨.pointer (some ⟨w.heap.size, 0, none⟩), w.alloc (.cells z.cells t), ?_, ν, ?_, by simpa using h2, by simpa using h3⟩
  · simp only [Instr.alloc, Sem.run_bind, hz1, Result.andThen_ok, newVar, newRow, run_newObj, Sem.run_pure]
    rfl
  · simp only [ptrTo, VR]
    exact ⟨_, trivial, h1, rfl⟩

theorem buildSliceB_ok (x : HR Z G μ h w) {t : TypeId} {len : Nat} {ps ps' : List (Nat × Value)} {u : Value} {ho : Option AH} (hb : buildSliceB P h t len ps = some (u, ho)) (hp : PR μ ps ps') :
    ∃ u' w', (Instr.buildSlice t len ps'.toArray).run P w = .ok u' w' ∧ Owe Z G μ h w u ho u' w' := by
  unfold buildSliceB at hb
  split at hb
  case h_2 => cases hb
  rename_i e hu
  split at hb
  case h_2 => cases hb
  rename_i size z hs hz
  split at hb
  case h_2 => cases hb
  rename_i h1 h2
  have e1 := beq_iff.1 h1
  have e2 := ble_iff.1 h2
  split at hb
  case h_2 => cases hb
  rename_i c hc
  obtain ⟨hz1, hz2, _⟩ := zeroOf_ok (w := w) hz
  obtain ⟨r', h3, h4⟩ := fillB_ok hc (VRL.of_pure (by simpa using zerosL_pure (pure_cells hz2) len)) hp
  obtain ⟨ν, h', rfl, rfl, g1, g2, g3⟩ := new_cells (rest := #[]) x e hb h4
  simp only [Array.append_empty] at g1 g2 g3
  refine ⟨.slice (some ⟨w.heap.size, 0, none⟩) len len, w.alloc (.cells r' e), ?_, ν, ?_, g2, g3⟩
  · have hbig : ¬ (len * size > 2 ^ 24) := by have : (16777216 : Nat) = 2 ^ 24 := by decide
                                              omega
    simp only [Instr.buildSlice, Sem.run_bind, run_underlying hu, Result.andThen_ok, run_sizeOf hs, if_neg hbig]
    have hzero : ((Array.range (len * size)).map fun i => z.cells[i % z.cells.size]!) = (zerosB z.cells.toList len).toArray := by
      rw [← e1]; exact zeros_eq _ _
    by_cases h0 : len * size = 0
    · have hnil : (zerosB z.cells.toList len).toArray = #[] := by
        rw [← hzero, h0]; simp
      rw [hnil] at h3
      simp only [h0, if_true, Sem.run_bind, Sem.run_pure, Result.andThen_ok, Array.range_zero', Array.map_empty]
      rw [h3]
      rfl
    · simp only [if_neg h0, Sem.run_bind, hz1, Result.andThen_ok, Sem.run_pure]
      rw [hzero, h3]
      rfl
  · simp only [VR]
    exact ⟨_, len, trivial, g1, rfl, fun _ => rfl, fun h => absurd rfl h⟩

theorem wrap_small {k : Nat} (hk : k ≤ 1099511627776) : IntKind.i64.wrap (Int.ofNat k) = Int.ofNat k := by
  unfold IntKind.wrap
  simp only [IntKind.bits, IntKind.signed]
  have : (Int.ofNat k) % (2 ^ 64 : Int) = Int.ofNat k := Int.emod_eq_of_lt (by simp) (by simp; omega)
  simp only [this, Bool.true_and]
  rw [if_neg]
  simp
  omega

theorem makeSliceB_ok (x : HR Z G μ h w) {t : TypeId} {len cap len' cap' u : Value} {ho : Option AH} (hb : makeSliceB P h t len cap = some (u, ho)) (hl : VR μ len len') (hcp : VR μ cap cap') :
    ∃ u' w', (Instr.makeSlice t len' cap').run P w = .ok u' w' ∧ Owe Z G μ h w u ho u' w' := by
  unfold makeSliceB at hb
  split at hb
  case h_2 => cases hb
  rename_i e kl l kc c hu
  simp only [VR] at hl hcp
  subst hl hcp
  split at hb
  case h_2 => cases hb
  rename_i i z hi hz
  split at hb
  case h_2 => cases hb
  rename_i h1 h2 h3
  have e1 := beq_iff.1 h1
  have e2 := ble_iff.1 h2
  have e3 := ble_iff.1 h3
  rw [Nat.mul_add, Nat.mul_one] at e3
  obtain ⟨hz1, hz2, _⟩ := zeroOf_ok (w := w) hz
  obtain ⟨ν, h', rfl, rfl, g1, g2, g3⟩ := new_cells (rest := #[]) x e hb (c' := (zerosB z.cells.toList c).toArray) (by simpa using VRL.of_pure (zerosL_pure (pure_cells hz2) c))
  simp only [Array.append_empty] at g1 g2 g3
  refine ⟨.slice (some ⟨w.heap.size, 0, none⟩) l c, w.alloc (.cells (zerosB z.cells.toList c).toArray e), ?_, ν, ?_, g2, g3⟩
  · have wl := wrap_small (k := l) (by omega)
    have wc := wrap_small (k := c) (by omega)
    have hti : (typeInfo e).run P w = .ok i w := by simp [typeInfo, hi]
    have hsz : (sizeOf e).run P w = .ok i.size w := run_sizeOf (by simp [szOf, hi])
    have hm : (i.bytes : Int) * Int.ofNat c = ((c * i.bytes : Nat) : Int) := by rw [Nat.mul_comm]; exact (Int.natCast_mul _ _).symm
    have hq : c * i.bytes ≤ 1099511627776 := by omega
    have t1 : (decide (Int.ofNat c < 0) || decide ((i.bytes : Int) * Int.ofNat c > 2 ^ 48)) = false := by
      rw [hm]
      generalize c * i.bytes = q at hq
      have h1 : decide (Int.ofNat c < 0) = false := by rw [decide_eq_false_iff_not]; exact Int.not_lt.2 (Int.natCast_nonneg c)
      have h2 : decide ((q : Int) > 2 ^ 48) = false := by
        rw [decide_eq_false_iff_not, show (2 ^ 48 : Int) = 281474976710656 from by decide]; omega
      rw [h1, h2]; rfl
    have t2 : decide (Int.ofNat l < 0) = false := by rw [decide_eq_false_iff_not]; exact Int.not_lt.2 (Int.natCast_nonneg l)
    have t3 : decide (Int.ofNat l > Int.ofNat c) = false := by rw [decide_eq_false_iff_not]; intro h; have := Int.ofNat_lt.1 h; omega
    clear e3 hq hm
    simp only [Instr.makeSlice, asInt, asIntOf, Sem.run_bind, run_underlying hu, Result.andThen_ok, Sem.run_pure, hti, wl, wc, t1, t2, t3, Bool.or_self, Bool.false_eq_true, if_false, run_askRoom, hsz]
    have hzero : ((Array.range (c * i.size)).map fun j => z.cells[j % z.cells.size]!) = (zerosB z.cells.toList c).toArray := by
      rw [← e1]; exact zeros_eq _ _
    have hcn : (Int.ofNat c).toNat = c := rfl
    have hln : (Int.ofNat l).toNat = l := rfl
    simp only [hcn, hln]
    by_cases h0 : c * i.size = 0
    · have hnil : (zerosB z.cells.toList c).toArray = #[] := by
        rw [← hzero, h0]; simp
      simp only [h0, if_true, Sem.run_bind, Sem.run_pure, Result.andThen_ok, Array.range_zero', Array.map_empty]
      rw [hnil]
      rfl
    · simp only [if_neg h0, Sem.run_bind, hz1, Result.andThen_ok, Sem.run_pure]
      rw [hzero]
      rfl
  · simp only [VR]
    exact ⟨_, c, trivial, g1, rfl, fun _ => rfl, fun h => absurd rfl h⟩

theorem rangeB_ok (x : HR Z G μ h w) {t : TypeId} {v v' u : Value} {ho : Option AH} (hb : rangeB P h t v = some (u, ho)) (hv : VR μ v v') :
    ∃ u' w', (Instr.range t v').run P w = .ok u' w' ∧ Owe Z G μ h w u ho u' w' := by
  unfold rangeB at hb
  split at hb
  case h_2 => cases hb
  rename_i s hu
  simp only [VR] at hv
  subst hv
  unfold newB at hb
  split at hb
  case h_2 => cases hb
  rename_i i h' hnew
  cases hb
  obtain ⟨rfl, ν, h1, h2, h3⟩ := HR.new x hnew (.stringIter s 0) 0 0 (fun ν _ => ⟨rfl, rfl, by unfold World.alloc; simp⟩)
  refine ⟨.pointer (some ⟨w.heap.size, 0, none⟩), w.alloc (.stringIter s 0), ?_, ν, ?_, h2, h3⟩
  · simp only [Instr.range, Sem.run_bind, run_underlying hu, Result.andThen_ok, Sem.run_pure, run_newObj]
    rfl
  · simp only [ptrTo, VR]
    exact ⟨_, trivial, h1, rfl⟩

theorem nextB_ok (x : HR Z G μ h w) {t : TypeId} {v v' u : Value} {b : Bool} {ho : Option AH} (hb : nextB h v b = some (u, ho)) (hv : VR μ v v') :
    ∃ u' w', (Instr.next v' b t).run P w = .ok u' w' ∧ Owe Z G μ h w u ho u' w' := by
  unfold nextB at hb
  split at hb
  case h_2 => cases hb
  rename_i i
  simp only [VR] at hv
  obtain ⟨L, _, hL, rfl⟩ := hv
  split at hb
  case h_2 => cases hb
  rename_i s pos hi
  obtain ⟨l, hl, hbr⟩ := x.blk i _ hi
  rw [hL] at hl; cases hl
  obtain ⟨he, ho0, hh⟩ := hbr
  have hget : (getObj L.b).run P w = .ok (.stringIter s pos) w := by simp [getObj, Sem.run, hh]
  rw [ho0]
  split at hb
  · rename_i hlt
    have hlt' : pos < s.size := by rw [size_list]; exact blt_iff.1 hlt
    split at hb
    case h_2 => cases hb
    rename_i hm
    split at hb
    rename_i c width hdec
    cases hb
    have hset : (setObj L.b (.stringIter s (pos + width))).run P w = .ok () { w with heap := w.heap.setIfInBounds L.b (.stringIter s (pos + width)) } := by
      simp [setObj, Sem.run, hh]
    have hbl : L.b < w.heap.size := by
      rcases Nat.lt_or_ge L.b w.heap.size with h' | h'
      · exact h'
      · rw [Array.getElem?_eq_none h'] at hh; cases hh
    obtain ⟨r1, r2⟩ := HR.put x hm hi hL (w' := { w with heap := w.heap.setIfInBounds L.b (.stringIter s (pos + width)) }) (b := some (.iter s (pos + width))) (by simp)
      (fun k hk => by simp [Array.getElem?_setIfInBounds_ne (fun h => hk h.symm)]) rfl rfl rfl
      (fun bb hbb => by cases hbb; exact ⟨he, ho0, by simp [hbl]⟩)
    refine ⟨_, _, ?_, μ, VR.of_pure ?_, r1, r2⟩
    · simp only [Instr.next, Sem.run_bind, hget, Result.andThen_ok, if_pos hlt', hdec, hset, Sem.run_pure, goInt]
    · rfl
  · rename_i hlt
    have hlt' : ¬ pos < s.size := by
      rw [size_list]
      intro hc
      rw [blt_iff.2 hc] at hlt
      cases hlt
    cases hb
    refine ⟨.tuple #[.bool false], w, ?_, Owe.keep x (VR.of_pure rfl)⟩
    simp only [Instr.next, Sem.run_bind, hget, Result.andThen_ok, if_neg hlt', Sem.run_pure]

theorem lenOpB_ok (x : HR Z G μ h w) {t ty : TypeId} {v v' u : Value} (hb : lenOpB P h t v = some u) (hv : VR μ v v') (ts : Array TypeId) (ht : ts[0]? = some t) :
    (Builtin.len_ ts ty #[v']).run P w = .ok u w ∧ pureV u = true := by
  unfold lenOpB at hb
  split at hb
  · rename_i s hu
    simp only [VR] at hv
    subst hv
    cases hb
    refine ⟨?_, rfl⟩
    simp [Builtin.len_, ht, run_underlying hu, goInt]
  · rename_i m e hu
    cases hb
    refine ⟨?_, rfl⟩
    simp [Builtin.len_, ht, run_underlying hu, goInt]
  · rename_i e ad k c hu
    cases hb
    refine ⟨?_, rfl⟩
    cases ad with
    | none => simp only [VR] at hv; subst hv; simp [Builtin.len_, ht, run_underlying hu, goInt]
    | some ad => simp only [VR] at hv; obtain ⟨_, _, _, _, rfl, _⟩ := hv; simp [Builtin.len_, ht, run_underlying hu, goInt]
  · rename_i k e hu
    simp only [VR] at hv
    subst hv
    cases hb
    refine ⟨?_, rfl⟩
    simp [Builtin.len_, ht, run_underlying hu, goInt]
  · rename_i k e r hu
    simp only [VR] at hv
    obtain ⟨L, hL, rfl⟩ := hv
    split at hb
    case h_2 => cases hb
    rename_i es cl hi
    cases hb
    refine ⟨?_, rfl⟩
    obtain ⟨l, hl, hbr⟩ := x.blk r _ hi
    rw [hL] at hl; cases hl
    obtain ⟨_, es', hh, hsz, _⟩ := hbr
    have hget : (getObj L.b).run P w = .ok (.map es' cl) w := by simp [getObj, Sem.run, hh]
    simp [Builtin.len_, ht, run_underlying hu, goInt, hget, hsz]
  · cases hb

end
end Go.Proofs.YtibffohcmegooaaGreatDoor.V

namespace Go.Proofs.YtibffohcmegooaaGreatDoor.V
set_option linter.all false
open Go Go.MapKept

section
variable {P : Program} {Z : AH} {G n : Nat} {μ : Mu} {h : AH} {w : World}

theorem checkFsB_ok {ck : TypeId → Value → Bool} {d : Nat} {em : Bool} {cs : Array Value} (hck : ∀ t v, ck t v = true → (Instr.checkKey em d t v).run P w = .ok () w) :
    ∀ (fs : List Field), checkFsB P ck cs fs = true → (forIn fs PUnit.unit (fun f _ => do
        if f.name ≠ "_" then Instr.checkKey em d f.type (← part f.type cs f.offset)
        pure (ForInStep.yield PUnit.unit)) : Sem PUnit).run P w = .ok PUnit.unit w
  | [], _ => by simp
  | f :: fs, hb => by
    simp only [checkFsB] at hb
    simp only [List.forIn_cons, Sem.run_bind]
    split at hb
    · rename_i hn
      have hn' : ¬ (f.name ≠ "_") := fun h => h (of_decide_eq_true hn)
      simp only [if_neg hn', Sem.run_pure, Result.andThen_ok]
      exact checkFsB_ok hck fs hb
    · rename_i hn
      have hn' : f.name ≠ "_" := of_decide_eq_false hn
      split at hb
      case h_2 => cases hb
      rename_i v hv
      split at hb
      case h_2 => cases hb
      rename_i hc
      simp only [if_pos hn', Sem.run_bind, partB_self hv, hck _ _ hc, Result.andThen_ok, Sem.run_pure]
      exact checkFsB_ok hck fs hb

theorem checkElB_ok {ck : TypeId → Value → Bool} {d : Nat} {em : Bool} {cs : Array Value} {e : TypeId} {s : Nat} (hs : szOf P e = some s) (hck : ∀ t v, ck t v = true → (Instr.checkKey em d t v).run P w = .ok () w) :
    ∀ (m i : Nat), checkElB P ck e s cs m i = true → (forIn (List.range' i m) PUnit.unit (fun i _ => do
        Instr.checkKey em d e (← part e cs (i * (← sizeOf e)))
        pure (ForInStep.yield PUnit.unit)) : Sem PUnit).run P w = .ok PUnit.unit w
  | 0, _, _ => by simp
  | m + 1, i, hb => by
    simp only [checkElB] at hb
    split at hb
    case h_2 => cases hb
    rename_i v hv
    split at hb
    case h_2 => cases hb
    rename_i hc
    simp only [List.range'_succ, List.forIn_cons, Sem.run_bind, run_sizeOf hs, Result.andThen_ok, partB_self hv, hck _ _ hc, Sem.run_pure]
    exact checkElB_ok hs hck m (i + 1) hb

theorem checkB_ok (em : Bool) : ∀ (d D : Nat) (t : TypeId) (v : Value), d ≤ D → checkB P d t v = true → (Instr.checkKey em D t v).run P w = .ok () w
  | 0, _, _, _, _, hb => by simp [checkB] at hb
  | d + 1, 0, _, _, hd, _ => by omega
  | d + 1, D + 1, t, v, hd, hb => by
    simp only [checkB] at hb
    split at hb
    · rename_i b hu
      simp [Instr.checkKey, run_underlying hu]
    · rename_i k b c hu
      simp [Instr.checkKey, run_underlying hu]
    · rename_i b hu
      simp [Instr.checkKey, run_underlying hu]
    · rename_i fs cs hu
      have := checkFsB_ok (P := P) (w := w) (em := em) (d := D) (fun t v hc => checkB_ok em d D t v (by omega) hc) fs.toList hb
      simp only [Instr.checkKey, Sem.run_bind, run_underlying hu, Result.andThen_ok]
      rw [← Array.forIn_toList]
      simp at this ⊢
      rw [this]
      rfl
    · rename_i m e cs hu
      split at hb
      case h_2 => cases hb
      rename_i s hs
      have := checkElB_ok (P := P) (w := w) (em := em) (d := D) hs (fun t v hc => checkB_ok em d D t v (by omega) hc) m 0 hb
      simp only [Instr.checkKey, Sem.run_bind, run_underlying hu, Result.andThen_ok]
      simp only [Std.Legacy.Range.forIn_eq_forIn_range', Std.Legacy.Range.size, Nat.sub_zero, Nat.add_one_sub_one, Nat.div_one]
      simp at this ⊢
      rw [this]
      rfl
    · cases hb

/-- The entries of an abstract map and of a map. -/
def ER (μ : Mu) (l l' : List MapEntry) : Prop := l'.length = l.length ∧ ∀ (k : Nat) (e : MapEntry), l[k]? = some e → ∃ e' : MapEntry, l'[k]? = some e' ∧ e'.key = e.key ∧ pureV e.key = true ∧ e'.born = e.born ∧ VR μ e.val e'.val

theorem ER.cons_inv {e : MapEntry} {l l' : List MapEntry} (h : ER μ (e :: l) l') : ∃ e' r, l' = e' :: r ∧ e'.key = e.key ∧ VR μ e.val e'.val ∧ ER μ l r := by
  obtain ⟨h1, h2⟩ := h
  cases l' with
  | nil => simp at h1
  | cons e' r =>
    obtain ⟨e'', he, hk, _, _, hv⟩ := h2 0 e (by simp)
    simp at he; subst he
    exact ⟨e', r, rfl, hk, hv, by simpa using h1, fun k x hx => by simpa using h2 (k + 1) x (by simpa using hx)⟩

theorem findAsk_ok {kt : TypeId} {k : Value} : ∀ (l l' : List MapEntry) (i : Nat) (r : Option (Nat × Value)), findB P kt k l i = some r → ER μ l l' →
    ∃ r', (Instr.findAsking kt k l' i).run P w = .ok r' w ∧ (r = none → r' = none) ∧ (∀ j v, r = some (j, v) → ∃ v', r' = some (j, v') ∧ VR μ v v' ∧ i ≤ j ∧ ∃ e, l[j - i]? = some e ∧ e.val = v)
  | [], l', i, r, hb, he => by
    simp only [findB, Option.some.injEq] at hb
    subst hb
    have : l' = [] := List.eq_nil_of_length_eq_zero (by simpa using he.1)
    subst this
    exact ⟨none, rfl, fun _ => rfl, fun j v h => (by cases h)⟩
  | e :: l, l', i, r, hb, he => by
    obtain ⟨e', r2, rfl, hk, hv, he2⟩ := he.cons_inv
    simp only [findB] at hb
    split at hb
    · rename_i ht
      have := eqT_ok (P := P) (w := w) 16 10000 kt _ _ _ (by decide) ht
      cases hb
      refine ⟨some (i, e'.val), ?_, fun h => (by cases h), fun j v h => ?_⟩
      · simp only [Instr.findAsking, Op.equal, Op.maxDepth, hk, Sem.run_bind, this, Result.andThen_ok, if_true, Sem.run_pure]
      · cases h; exact ⟨_, rfl, hv, Nat.le_refl _, e, by simp, rfl⟩
    · rename_i ht
      have := eqT_ok (P := P) (w := w) 16 10000 kt _ _ _ (by decide) ht
      obtain ⟨r', h1, h2, h3⟩ := findAsk_ok l r2 (i + 1) r hb he2
      refine ⟨r', ?_, h2, fun j v h => ?_⟩
      · simp only [Instr.findAsking, Op.equal, Op.maxDepth, hk, Sem.run_bind, this, Result.andThen_ok, Bool.false_eq_true, if_false]
        exact h1
      · obtain ⟨v', g1, g2, g3, x, g4, g5⟩ := h3 j v h
        exact ⟨v', g1, g2, by omega, x, by rw [show j - i = (j - (i + 1)) + 1 from by omega]; simpa using g4, g5⟩
    · cases hb

theorem ba_beq (a b : ByteArray) : (a == b) = bytesEq a.data.toList b.data.toList := by
  rw [bytesEq_eq]
  obtain ⟨x⟩ := a
  obtain ⟨y⟩ := b
  show (x == y) = _
  rw [Bool.eq_iff_iff]
  simp

theorem now_eqD {kt : TypeId} {d : TypeDesc} {k q : Value} (hd : P.underlying kt = some d) {D : Nat} {b b2 : Bool} (hb : eqT P (D + 1) kt k q = some b) (hb2 : Instr.sameNow d k q = some b2) : b2 = b := by
  simp only [eqT, hd] at hb
  unfold Instr.sameNow at hb2
  split at hb2
  · rename_i k0 ka a kb c
    simp only at hb
    split at hb2
    case isFalse => cases hb2
    rename_i hk
    simp only [hk, decide_true, Option.some.injEq] at hb hb2
    rw [← hb, ← hb2]
  · simp only [Option.some.injEq] at hb hb2
    rw [← hb, ← hb2, ba_beq]
  · simp only [Option.some.injEq] at hb hb2
    rw [← hb, ← hb2]
  · cases hb2

theorem now_eq {kt : TypeId} {d : TypeDesc} {k q : Value} (hd : P.underlying kt = some d) {b b2 : Bool} (hb : eqT P 16 kt k q = some b) (hb2 : Instr.sameNow d k q = some b2) : b2 = b := now_eqD hd (D := 15) hb hb2

theorem checkB_known {kt : TypeId} {k : Value} {D : Nat} (h : checkB P D kt k = true) : ∃ d, P.underlying kt = some d := by
  cases D with
  | zero => simp [checkB] at h
  | succ D =>
    cases hu : P.underlying kt with
    | none => simp only [checkB, hu] at h; cases h
    | some d => exact ⟨d, rfl⟩

theorem findNow_eq {kt : TypeId} {d : TypeDesc} {k : Value} (hd : P.underlying kt = some d) : ∀ (l l' : List MapEntry) (i : Nat) (r r2 : Option (Nat × Value)), findB P kt k l i = some r → ER μ l l' → Instr.findNow d k l' i = some r2 →
    (r = none → r2 = none) ∧ (∀ j v, r = some (j, v) → ∃ v', r2 = some (j, v') ∧ VR μ v v' ∧ i ≤ j ∧ ∃ e, l[j - i]? = some e ∧ e.val = v)
  | [], l', i, r, r2, hb, he, hn => by
    simp only [findB, Option.some.injEq] at hb
    subst hb
    have : l' = [] := List.eq_nil_of_length_eq_zero (by simpa using he.1)
    subst this
    simp only [Instr.findNow, Option.some.injEq] at hn
    subst hn
    exact ⟨fun _ => rfl, fun j v h => (by cases h)⟩
  | e :: l, l', i, r, r2, hb, he, hn => by
    obtain ⟨e', rr, rfl, hk, hv, he2⟩ := he.cons_inv
    simp only [findB] at hb
    simp only [Instr.findNow, hk] at hn
    have key : ∀ b, eqT P 16 kt k e.key = some b → ∀ b2, Instr.sameNow d k e.key = some b2 → b2 = b := fun b h1 b2 h2 => now_eq hd h1 h2
    split at hb
    · rename_i ht
      cases hb
      split at hn
      · rename_i hs
        cases hn
        exact ⟨fun h => (by cases h), fun j v h => (by cases h; exact ⟨_, rfl, hv, Nat.le_refl _, e, by simp, rfl⟩)⟩
      · rename_i hs
        have := key _ ht _ hs; cases this
      · cases hn
    · rename_i ht
      split at hn
      · rename_i hs
        have := key _ ht _ hs; cases this
      · obtain ⟨h2, h3⟩ := findNow_eq hd l rr (i + 1) r r2 hb he2 hn
        refine ⟨h2, fun j v h => ?_⟩
        obtain ⟨v', g1, g2, g3, x, g4, g5⟩ := h3 j v h
        exact ⟨v', g1, g2, by omega, x, by rw [show j - i = (j - (i + 1)) + 1 from by omega]; simpa using g4, g5⟩
      · cases hn
    · cases hb

/-- Where a key stands in a map, in the model. -/
theorem place_ok {kt : TypeId} {k : Value} {l l' : List MapEntry} {r : Option (Nat × Value)} (hb : placeB P kt k l = some r) (he : ER μ l l') (em : Bool) :
    pureV k = true ∧ (Instr.checkKey em 10000 kt k).run P w = .ok () w ∧ ∃ r', (Instr.findKey kt k l').run P w = .ok r' w ∧ (r = none → r' = none) ∧
      (∀ j v, r = some (j, v) → ∃ v', r' = some (j, v') ∧ VR μ v v' ∧ ∃ e, l[j]? = some e ∧ e.val = v) := by
  unfold placeB at hb
  split at hb
  case h_2 => cases hb
  rename_i h1 h2
  refine ⟨h1, checkB_ok em 16 10000 kt k (by decide) h2, ?_⟩
  obtain ⟨d, hd⟩ := checkB_known h2
  simp only [Instr.findKey, Sem.run_bind, run_underlying hd, Result.andThen_ok]
  cases hn : Instr.findNow d k l' 0 with
  | some r2 =>
    obtain ⟨g1, g2⟩ := findNow_eq hd l l' 0 r r2 hb he hn
    refine ⟨r2, by simp only [Sem.run_pure], g1, fun j v h => ?_⟩
    obtain ⟨v', a1, a2, _, e, a3, a4⟩ := g2 j v h
    exact ⟨v', a1, a2, e, by simpa using a3, a4⟩
  | none =>
    obtain ⟨r', h3, g1, g2⟩ := findAsk_ok (w := w) l l' 0 r hb he
    refine ⟨r', h3, g1, fun j v h => ?_⟩
    obtain ⟨v', a1, a2, _, e, a3, a4⟩ := g2 j v h
    exact ⟨v', a1, a2, e, by simpa using a3, a4⟩

theorem flatEq_same : ∀ (a b : List Value), flatEq a b = some true → a = b ∧ ∀ n, ((a.zip a).all fun (x, y) => Instr.sameBits n x y) = true
  | [], [], _ => ⟨rfl, fun n => by simp⟩
  | [], _ :: _, h => by simp [flatEq] at h
  | .bool p :: x, b, h => by
    cases b with
    | nil => simp [flatEq] at h
    | cons q y =>
      cases q <;> simp only [flatEq] at h <;> try (cases h; done)
      rename_i q
      split at h
      · rename_i hpq
        obtain ⟨h1, h2⟩ := flatEq_same x y h
        have : p = q := by simpa using hpq
        subst this h1
        exact ⟨rfl, fun n => by cases n <;> simp [Instr.sameBits] <;> simpa using h2 _⟩
      · cases h
  | .int j p :: x, b, h => by
    cases b with
    | nil => simp [flatEq] at h
    | cons q y =>
      cases q <;> simp only [flatEq] at h <;> try (cases h; done)
      rename_i k q
      split at h
      · rename_i hjk
        split at h
        · rename_i hpq
          obtain ⟨h1, h2⟩ := flatEq_same x y h
          have e1 : p = q := by simpa using hpq
          have e2 : j = k := of_decide_eq_true hjk
          subst e1 e2 h1
          exact ⟨rfl, fun n => by cases n <;> simp [Instr.sameBits] <;> simpa using h2 _⟩
        · cases h
      · cases h
  | .string p :: x, b, h => by
    cases b with
    | nil => simp [flatEq] at h
    | cons q y =>
      cases q <;> simp only [flatEq] at h <;> try (cases h; done)
      rename_i q
      split at h
      · rename_i hpq
        obtain ⟨h1, h2⟩ := flatEq_same x y h
        rw [← ba_beq] at hpq
        have e1 : p = q := (bytes_beq p q).1 hpq
        subst e1 h1
        have e3 : (p == p) = true := (bytes_beq p p).2 rfl
        exact ⟨rfl, fun n => by cases n <;> simp [Instr.sameBits, e3] <;> simpa using h2 _⟩
      · cases h
  | .float _ _ :: _, b, h => by cases b <;> simp [flatEq] at h
  | .complex _ _ _ :: _, b, h => by cases b <;> simp [flatEq] at h
  | .pointer _ :: _, b, h => by cases b <;> simp [flatEq] at h
  | .slice _ _ _ :: _, b, h => by cases b <;> simp [flatEq] at h
  | .map _ :: _, b, h => by cases b <;> simp [flatEq] at h
  | .chan _ :: _, b, h => by cases b <;> simp [flatEq] at h
  | .func _ _ _ :: _, b, h => by cases b <;> simp [flatEq] at h
  | .nilFunc :: _, b, h => by cases b <;> simp [flatEq] at h
  | .iface _ _ :: _, b, h => by cases b <;> simp [flatEq] at h
  | .nilIface :: _, b, h => by cases b <;> simp [flatEq] at h
  | .agg _ :: _, b, h => by cases b <;> simp [flatEq] at h
  | .tuple _ :: _, b, h => by cases b <;> simp [flatEq] at h

theorem flatV_stays {u v : Value} (hb : flatV u v = true) : u = v ∧ (Instr.keyThatStays u v).run P w = .ok v w := by
  have key : u = v ∧ Instr.sameBits 10000 u u = true := by
    unfold flatV at hb
    split at hb
    · rename_i a b
      split at hb
      case h_2 => cases hb
      rename_i t ht
      subst hb
      obtain ⟨h1, h2⟩ := flatEq_same a b ht
      subst h1
      refine ⟨rfl, ?_⟩
      show Instr.sameBits (9999 + 1) (.agg ⟨a⟩) (.agg ⟨a⟩) = true
      simp only [Instr.sameBits, beq_self_eq_true, Bool.true_and]
      exact h2 9999
    · cases hb
    · cases hb
    · split at hb
      case h_2 => cases hb
      rename_i t ht
      subst hb
      obtain ⟨h1, h2⟩ := flatEq_same [u] [v] ht
      have := h2 10000
      simp at h1 this
      exact ⟨h1, this⟩
  obtain ⟨rfl, hs⟩ := key
  refine ⟨rfl, ?_⟩
  simp [Instr.keyThatStays, hs]

theorem map_at (x : HR Z G μ h w) {r : Nat} {es : Array MapEntry} {clock : Nat} (hi : h.get r = some (.map es clock)) : ∃ l es', μ r = some l ∧ l.e = 0 ∧ w.heap[l.b]? = some (.map es' clock) ∧ ER μ es.toList es'.toList := by
  obtain ⟨l, hl, h0, es', hh, hsz, hen⟩ := x.blk r _ hi
  refine ⟨l, es', hl, h0, hh, by simpa using hsz, fun k e he => ?_⟩
  obtain ⟨e', a1, a2, a3, a4, a5⟩ := hen k e (by simpa using he)
  exact ⟨e', by simpa using a1, a2, a3, a4, a5⟩

theorem lookB_ok (x : HR Z G μ h w) {t : TypeId} {m m' k k' v : Value} {ok : Bool} (hb : lookB P h t m k ok = some v) (hm : VR μ m m') (hk : VR μ k k') :
    ∃ v', (Instr.lookup t m' k' ok).run P w = .ok v' w ∧ VR μ v v' := by
  unfold lookB at hb
  split at hb
  · rename_i kt et hu
    simp only [VR] at hm
    subst hm
    split at hb
    case h_2 => cases hb
    rename_i z h1 h2 hz
    obtain ⟨hz1, hz2, _⟩ := zeroOf_ok (P := P) (w := w) hz
    have := (VR.pure h1).1 hk
    subst this
    obtain ⟨d, hd⟩ := checkB_known h2
    cases hb
    have hck := checkB_ok (P := P) (w := w) true 16 10000 kt _ (by decide) h2
    cases ok
    · refine ⟨z, ?_, VR.of_pure hz2⟩
      simp [Instr.lookup, run_underlying hu, hck, Instr.findKey, run_underlying hd, Instr.findNow, hz1]
    · refine ⟨.tuple #[z, .bool false], ?_, VR.of_pure (by simp [pureV, pureL, hz2])⟩
      simp [Instr.lookup, run_underlying hu, hck, Instr.findKey, run_underlying hd, Instr.findNow, hz1]
  · rename_i kt et r hu
    simp only [VR] at hm
    obtain ⟨L, hL, rfl⟩ := hm
    split at hb
    case h_2 => cases hb
    rename_i es clock hi
    obtain ⟨l, es', hl, _, hh, her⟩ := map_at x hi
    rw [hL] at hl; cases hl
    have hget : (getObj L.b).run P w = .ok (.map es' clock) w := by simp [getObj, Sem.run, hh]
    split at hb
    · rename_i j v0 hp
      obtain ⟨h1, h2, r', h3, _, h4⟩ := place_ok (w := w) hp her es'.isEmpty
      have := (VR.pure h1).1 hk
      subst this
      obtain ⟨v', rfl, hv, _⟩ := h4 j v0 rfl
      cases hb
      cases ok
      · exact ⟨v', by simp [Instr.lookup, run_underlying hu, hget, h2, h3], hv⟩
      · exact ⟨.tuple #[v', .bool true], by simp [Instr.lookup, run_underlying hu, hget, h2, h3], VR.tuple_mk (by simpa using VRL.cons hv (VRL.cons (VR.of_pure rfl) VRL.nil))⟩
    · rename_i hp
      split at hb
      case h_2 => cases hb
      rename_i z hz
      obtain ⟨hz1, hz2, _⟩ := zeroOf_ok (P := P) (w := w) hz
      obtain ⟨h1, h2, r', h3, h4, _⟩ := place_ok (w := w) hp her es'.isEmpty
      have := (VR.pure h1).1 hk
      subst this
      cases h4 rfl
      cases hb
      cases ok
      · exact ⟨z, by simp [Instr.lookup, run_underlying hu, hget, h2, h3, hz1], VR.of_pure hz2⟩
      · exact ⟨.tuple #[z, .bool false], by simp [Instr.lookup, run_underlying hu, hget, h2, h3, hz1], VR.of_pure (by simp [pureV, pureL, hz2])⟩
    · cases hb
  · cases hb

/-- A map is turned. -/
theorem HR.setMap (x : HR Z G μ h w) {r : Nat} {es : Array MapEntry} {clock : Nat} (hm : h.may r = true) (hi : h.get r = some (.map es clock)) {l : Loc} (hl : μ r = some l) {es1 : Array MapEntry} {c1 : Nat} {es2 : Array MapEntry}
    (he : ER μ es1.toList es2.toList) : HR Z G μ (h.put r (some (.map es1 c1))) { w with heap := w.heap.setIfInBounds l.b (.map es2 c1) } ∧ FR h μ w (h.put r (some (.map es1 c1))) μ { w with heap := w.heap.setIfInBounds l.b (.map es2 c1) } := by
  obtain ⟨l', es', hl', h0, hh, _⟩ := map_at x hi
  rw [hl] at hl'; cases hl'
  have hbl : l.b < w.heap.size := (Array.getElem?_eq_some_iff.1 hh).1
  refine HR.put x hm hi hl (by simp) (fun k hk => by simp [Array.getElem?_setIfInBounds_ne (fun h => hk h.symm)]) rfl rfl rfl (fun bb hbb => ?_)
  cases hbb
  refine ⟨h0, es2, by simp [hbl], by simpa using he.1, fun k e hk => ?_⟩
  obtain ⟨e', a1, a2, a3, a4, a5⟩ := he.2 k e (by simpa using hk)
  exact ⟨e', by simpa using a1, a2, a3, a4, a5⟩

theorem ER.push {l l' : List MapEntry} (he : ER μ l l') {k v v' : Value} {b : Nat} (hk : pureV k = true) (hv : VR μ v v') : ER μ (l ++ [⟨k, v, b⟩]) (l' ++ [⟨k, v', b⟩]) := by
  refine ⟨by simp [he.1], fun j e hj => ?_⟩
  rcases Nat.lt_or_ge j l.length with hlt | hge
  · rw [List.getElem?_append_left hlt] at hj
    obtain ⟨e', h1, h2⟩ := he.2 j e hj
    exact ⟨e', by rw [List.getElem?_append_left (by rw [he.1]; exact hlt)]; exact h1, h2⟩
  · rw [List.getElem?_append_right hge] at hj
    have : j - l.length = 0 := by
      rcases Nat.eq_zero_or_pos (j - l.length) with h0 | h0
      · exact h0
      · rw [List.getElem?_eq_none (by simp; omega)] at hj; cases hj
    rw [this] at hj
    simp at hj
    subst hj
    exact ⟨⟨k, v', b⟩, by rw [List.getElem?_append_right (by rw [he.1]; exact hge), he.1, this]; rfl, rfl, hk, rfl, hv⟩

theorem ER.setVal {l l' : List MapEntry} (he : ER μ l l') {i : Nat} {e : MapEntry} (hi : l[i]? = some e) {v v' : Value} (hv : VR μ v v') (f : MapEntry → MapEntry) (hf : ∀ x : MapEntry, x.key = e.key → x.born = e.born → f x = ⟨e.key, v', e.born⟩) :
    ER μ (setE i ⟨e.key, v, e.born⟩ l) (l'.modify i f) := by
  have hlt : i < l.length := (List.getElem?_eq_some_iff.1 hi).1
  obtain ⟨e', h1, h2, h3, h4, h5⟩ := he.2 i e hi
  refine ⟨by simp [setE, he.1], fun j x hj => ?_⟩
  unfold setE at hj
  rw [List.getElem?_set] at hj
  by_cases hij : i = j
  · subst hij
    rw [if_pos rfl] at hj
    simp only [hlt, if_true, Option.some.injEq] at hj
    subst hj
    refine ⟨⟨e.key, v', e.born⟩, ?_, rfl, h3, rfl, hv⟩
    rw [List.getElem?_modify, h1]
    simp [hf e' h2 h4]
  · rw [if_neg hij] at hj
    obtain ⟨x', g1, g2⟩ := he.2 j x hj
    refine ⟨x', ?_, g2⟩
    rw [List.getElem?_modify, g1]
    simp [hij]

theorem mapUpdB_ok (x : HR Z G μ h w) {t : TypeId} {m m' k k' v v' : Value} {h' : AH} (hb : mapUpdB P h t m k v = some h') (hm : VR μ m m') (hk : VR μ k k') (hv : VR μ v v') :
    ∃ w', (Instr.mapUpdate t m' k' v').run P w = .ok () w' ∧ HR Z G μ h' w' ∧ FR h μ w h' μ w' := by
  unfold mapUpdB at hb
  split at hb
  case h_2 => cases hb
  rename_i kt et r hu
  simp only [VR] at hm
  obtain ⟨L, hL, rfl⟩ := hm
  split at hb
  case h_2 => cases hb
  rename_i es clock hmay hi
  split at hb
  case h_2 => cases hb
  rename_i b hupd
  cases hb
  obtain ⟨l, es', hl, _, hh, her⟩ := map_at x hi
  rw [hL] at hl; cases hl
  have hget : (getObj L.b).run P w = .ok (.map es' clock) w := by simp [getObj, Sem.run, hh]
  have hset : ∀ o, (setObj L.b o).run P w = .ok () { w with heap := w.heap.setIfInBounds L.b o } := fun o => by simp [setObj, Sem.run, hh]
  unfold updB at hupd
  split at hupd
  · rename_i j v0 hp
    obtain ⟨h1, h2, r', h3, _, h4⟩ := place_ok (w := w) hp her false
    have := (VR.pure h1).1 hk
    subst this
    obtain ⟨v1, rfl, _⟩ := h4 j v0 rfl
    split at hupd
    case h_2 => cases hupd
    rename_i e he
    split at hupd
    case h_2 => cases hupd
    rename_i hfl
    cases hupd
    obtain ⟨hke, hstay⟩ := flatV_stays (P := P) (w := w) hfl
    obtain ⟨e', g1, g2, _, g4, _⟩ := her.2 j e he
    have g1' : es'[j]? = some e' := by simpa using g1
    obtain ⟨r1, r2⟩ := HR.setMap x hmay hi hL (c1 := clock) (es1 := (setE j ⟨e.key, v, e.born⟩ es.toList).toArray) (es2 := es'.modify j fun e => { e with key := k', val := v' })
      (by simpa using ER.setVal her he hv (fun e => { e with key := k', val := v' }) (fun y hy1 hy2 => by simp [hke, hy2]))
    refine ⟨_, ?_, r1, r2⟩
    have hkk : (Instr.keyThatStays e'.key k').run P w = .ok k' w := by rw [g2]; exact hstay
    simp [Instr.mapUpdate, run_underlying hu, hget, h2, h3, g1', hkk, hset]
  · rename_i hp
    cases hupd
    obtain ⟨h1, h2, r', h3, h4, _⟩ := place_ok (w := w) hp her false
    have := (VR.pure h1).1 hk
    subst this
    cases h4 rfl
    obtain ⟨r1, r2⟩ := HR.setMap x hmay hi hL (c1 := clock + 1) (es1 := (es.toList ++ [MapEntry.mk k' v clock]).toArray) (es2 := es'.push { key := k', val := v', born := clock })
      (by simpa using ER.push her (b := clock) h1 hv)
    refine ⟨_, ?_, r1, r2⟩
    simp [Instr.mapUpdate, run_underlying hu, hget, h2, h3, hset]
  · cases hupd

theorem mapEntryB_ok (x : HR Z G μ h w) {t : TypeId} {m m' k k' u : Value} {ho : Option AH} (hb : mapEntryB P h t m k = some (u, ho)) (hm : VR μ m m') (hk : VR μ k k') :
    ∃ u' w', (Instr.mapEntry t m' k').run P w = .ok u' w' ∧ Owe Z G μ h w u ho u' w' := by
  unfold mapEntryB at hb
  split at hb
  case h_2 => cases hb
  rename_i kt et r hu
  simp only [VR] at hm
  obtain ⟨L, hL, rfl⟩ := hm
  split at hb
  case h_2 => cases hb
  rename_i es clock hmay hi
  obtain ⟨l, es', hl, _, hh, her⟩ := map_at x hi
  rw [hL] at hl; cases hl
  have hget : (getObj L.b).run P w = .ok (.map es' clock) w := by simp [getObj, Sem.run, hh]
  have hset : ∀ o, (setObj L.b o).run P w = .ok () { w with heap := w.heap.setIfInBounds L.b o } := fun o => by simp [setObj, Sem.run, hh]
  split at hb
  · rename_i j v0 hp
    obtain ⟨h1, h2, r', h3, _, h4⟩ := place_ok (w := w) hp her false
    have := (VR.pure h1).1 hk
    subst this
    obtain ⟨v1, rfl, hv1, e, hje, _⟩ := h4 j v0 rfl
    split at hb
    case h_2 => cases hb
    rename_i e0 he
    split at hb
    case h_2 => cases hb
    rename_i hfl
    cases hb
    obtain ⟨hke, hstay⟩ := flatV_stays (P := P) (w := w) hfl
    obtain ⟨e', g1, g2, g3, g4, g5⟩ := her.2 j e0 he
    have g1' : es'[j]? = some e' := by simpa using g1
    have hkk : (Instr.keyThatStays e'.key k').run P w = .ok k' w := by rw [g2]; exact hstay
    have hsame : (es'.modify j fun e => { e with key := k' }) = es' := by
      apply Array.ext'
      rw [Array.toList_modify]
      apply List.ext_getElem?
      intro q
      rw [List.getElem?_modify]
      by_cases hq : j = q
      · subst hq
        rw [g1]
        simp only [if_true, Option.map_eq_map, Option.map_some, Option.some.injEq]
        cases e'
        simp only at g2
        simp [g2, hke]
      · cases es'.toList[q]? <;> simp [hq]
    refine ⟨.tuple #[v1, .int .i64 e0.born], w, ?_, Owe.keep x (VR.tuple_mk (by simpa using VRL.cons hv1 (VRL.cons (VR.of_pure rfl) VRL.nil)))⟩
    have hw : ({ w with heap := w.heap.setIfInBounds L.b (.map es' clock) } : World) = w := by
      have : w.heap.setIfInBounds L.b (.map es' clock) = w.heap := by
        apply Array.ext'
        rw [Array.toList_setIfInBounds]
        apply List.ext_getElem?
        intro q
        rw [List.getElem?_set]
        by_cases hq : L.b = q
        · subst hq
          have hlt : L.b < w.heap.size := (Array.getElem?_eq_some_iff.1 hh).1
          simp [hlt]
          simpa [Array.getElem?_eq_getElem hlt] using hh.symm
        · simp [hq]
      rw [this]
    simp [Instr.mapEntry, run_underlying hu, hget, h2, h3, g1', hkk, hset, hsame, hw, g4, goInt]
  · rename_i hp
    split at hb
    case h_2 => cases hb
    rename_i z hz
    cases hb
    obtain ⟨hz1, hz2, _⟩ := zeroOf_ok (P := P) (w := w) hz
    obtain ⟨h1, h2, r', h3, h4, _⟩ := place_ok (w := w) hp her false
    have := (VR.pure h1).1 hk
    subst this
    cases h4 rfl
    obtain ⟨r1, r2⟩ := HR.setMap x hmay hi hL (c1 := clock + 1) (es1 := (es.toList ++ [MapEntry.mk k' z clock]).toArray) (es2 := es'.push { key := k', val := z, born := clock })
      (by simpa using ER.push her (b := clock) h1 (VR.of_pure hz2))
    refine ⟨.tuple #[z, .int .i64 clock], _, ?_, μ, VR.of_pure (by simp [pureV, pureL, hz2]), r1, r2⟩
    simp [Instr.mapEntry, run_underlying hu, hget, h2, h3, hset, hz1, goInt]
  · cases hb

theorem bornAt_ok {b : Nat} : ∀ (l l' : List MapEntry) (i j : Nat) (e : MapEntry), bornAt b l i = some (j, e) → ER μ l l' → i ≤ j ∧ l[j - i]? = some e ∧ ∃ q, l'.findIdx? (fun e => (e.born : Int) == (b : Int)) = some q ∧ j = i + q
  | [], _, _, _, _, h, _ => by simp [bornAt] at h
  | x :: l, l', i, j, e, h, he => by
    have he0 := he
    obtain ⟨h1, h2⟩ := he0
    cases l' with
    | nil => simp at h1
    | cons x' l' =>
      obtain ⟨x'', q1, _, _, q4, _⟩ := h2 0 x (by simp)
      simp at q1; subst q1
      have he2 : ER μ l l' := ⟨by simpa using h1, fun k y hy => by simpa using h2 (k + 1) y (by simpa using hy)⟩
      simp only [bornAt] at h
      split at h
      · rename_i hb
        have hb' := beq_iff.1 hb
        cases h
        refine ⟨Nat.le_refl _, by simp, 0, ?_, rfl⟩
        simp [List.findIdx?_cons, q4, hb']
      · rename_i hb
        have hb' : x.born ≠ b := fun h => by rw [beq_iff.2 h] at hb; cases hb
        obtain ⟨g1, g2, q, g3, g4⟩ := bornAt_ok l l' (i + 1) j e h he2
        refine ⟨by omega, by rw [show j - i = (j - (i + 1)) + 1 from by omega]; simpa using g2, q + 1, ?_, by omega⟩
        have : ((x'.born : Int) == (b : Int)) = false := by
          rw [q4]
          simp
          omega
        rw [List.findIdx?_cons, this]
        simp [g3]

theorem entryStoreB_ok (x : HR Z G μ h w) {t : TypeId} {m m' s s' v v' : Value} {h' : AH} (hb : entryStoreB h m s v = some h') (hm : VR μ m m') (hs : VR μ s s') (hv : VR μ v v') :
    ∃ w', (Instr.entryStore t m' s' v').run P w = .ok () w' ∧ HR Z G μ h' w' ∧ FR h μ w h' μ w' := by
  unfold entryStoreB at hb
  split at hb
  case h_2 => cases hb
  rename_i r k b
  simp only [VR] at hm hs
  obtain ⟨L, hL, rfl⟩ := hm
  subst hs
  split at hb
  case h_2 => cases hb
  rename_i es clock hmay hi
  obtain ⟨l, es', hl, _, hh, her⟩ := map_at x hi
  rw [hL] at hl; cases hl
  have hget : (getObj L.b).run P w = .ok (.map es' clock) w := by simp [getObj, Sem.run, hh]
  have hset : ∀ o, (setObj L.b o).run P w = .ok () { w with heap := w.heap.setIfInBounds L.b o } := fun o => by simp [setObj, Sem.run, hh]
  split at hb
  case h_2 => cases hb
  rename_i i e hbo
  cases hb
  obtain ⟨_, g2, q, g3, g4⟩ := bornAt_ok es.toList es'.toList 0 i e hbo her
  have g2' : es.toList[i]? = some e := by simpa using g2
  have g5 : i = q := by omega
  subst g5
  obtain ⟨r1, r2⟩ := HR.setMap x hmay hi hL (c1 := clock) (es1 := (setE i ⟨e.key, v, e.born⟩ es.toList).toArray) (es2 := es'.modify i fun e => { e with val := v' })
    (by simpa using ER.setVal her g2' hv (fun e => { e with val := v' }) (fun y hy1 hy2 => by simp [hy1, hy2]))
  refine ⟨_, ?_, r1, r2⟩
  have g3' : es'.findIdx? (fun e => (e.born : Int) == (b : Int)) = some i := by
    rw [← g3]; obtain ⟨es'⟩ := es'; rw [List.findIdx?_toArray]
  simp [Instr.entryStore, hget, asInt, asIntOf, g3', hset]

theorem makeMapB_ok (x : HR Z G μ h w) {t : TypeId} {u : Value} {ho : Option AH} (hb : makeMapB h = some (u, ho)) :
    ∃ u' w', (Instr.makeMap t none).run P w = .ok u' w' ∧ Owe Z G μ h w u ho u' w' := by
  unfold makeMapB at hb
  split at hb
  case h_2 => cases hb
  rename_i i h' hnew
  cases hb
  obtain ⟨rfl, ν, h1, h2, h3⟩ := HR.new x hnew (.map #[] 0) 0 0 (fun ν _ => ⟨rfl, #[], by unfold World.alloc; simp, rfl, fun k e he => by simp at he⟩)
  exact ⟨.map (some w.heap.size), w.alloc (.map #[] 0), rfl, ν, by simp only [VR]; exact ⟨_, h1, rfl⟩, h2, h3⟩

theorem makeMapR_ok (x : HR Z G μ h w) {t : TypeId} {kt et : TypeId} (hu : P.underlying t = some (.map kt et)) {k : IntKind} {z : Int} {u : Value} {ho : Option AH} (hb : makeMapB h = some (u, ho)) :
    ∃ u' w', (Instr.makeMap t (some (.int k z))).run P w = .ok u' w' ∧ Owe Z G μ h w u ho u' w' := by
  obtain ⟨u', w', h1, h2⟩ := makeMapB_ok (P := P) (t := t) x hb
  refine ⟨u', w', ?_, h2⟩
  simp only [Instr.makeMap, Sem.run_bind, run_underlying hu, Result.andThen_ok, asInt, asIntOf, Sem.run_pure] at h1 ⊢
  exact h1

end
end Go.Proofs.YtibffohcmegooaaGreatDoor.V
