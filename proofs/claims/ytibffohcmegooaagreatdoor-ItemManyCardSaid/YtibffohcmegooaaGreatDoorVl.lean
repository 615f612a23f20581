/- Every operation of the small machine agrees with the model's. Conditions: none. -/
import Derived.Test.YtibffohcmegooaaGreatDoorVu
import Derived.Test.YtibffohcmegooaaGreatDoorVr
import Derived.Test.YtibffohcmegooaaGreatDoorVw
namespace Go.Proofs.YtibffohcmegooaaGreatDoor.V
set_option linter.all false
open Go

/-- The answers to calls are true of the program: what is known beforehand. -/
def BaseOK (P : Program) (Z : AH) (G : Nat) (orc : Orc) : Prop :=
  ∀ (g : FuncId) (args : List Value) (h : AH) (v : Value) (ho : Option AH), orc g args h = some (v, ho) → ∀ (μ : Mu) (w : World) (args' : List Value), HR Z G μ h w → VRL μ args args' →
    Calls P g args'.toArray w fun e w' => ∃ v', e = .returned v' ∧ Owe Z G μ h w v ho v' w'

/-- What a call of a loop's yield owes. -/
def RoundOK (P : Program) (Z : AH) (G : Nat) (μ : Mu) (h : AH) (w : World) (args' : List Value) (v : Value) (ho : Option AH) : Prop :=
  ∀ k rest', args' = .func (.yield k) ⟨[]⟩ ⟨[]⟩ :: rest' → ∃ r : Loop, w.heap[k]? = some (.loop r) ∧ rest'.length = r.params.size ∧
    RoundIn Fence.wide 0 P k r.fn ((r.params.zip rest'.toArray).foldl (fun tmps (t, a) => tmps.setIfInBounds t a) r.tmps) r.assign r.body w fun e w' => ∃ v', e = .returned v' ∧ Owe Z G μ h w v ho v' w'

/-- The answers to calls are true of the program, those of functions and those of loops' yields. -/
def OrcOK (P : Program) (Z : AH) (G : Nat) (orc : Orc) : Prop :=
  ∀ (g : FuncId) (args : List Value) (h : AH) (v : Value) (ho : Option AH), orc g args h = some (v, ho) → ∀ (μ : Mu) (w : World) (args' : List Value), HR Z G μ h w → VRL μ args args' →
    (g ≠ yid ∨ P.funcs[g]? ≠ none → Calls P g args'.toArray w fun e w' => ∃ v', e = .returned v' ∧ Owe Z G μ h w v ho v' w') ∧
    (g = yid → P.funcs[g]? = none → RoundOK P Z G μ h w args' v ho)

/-- The served functions without a body are what the table says. -/
def ExtOK (P : Program) (ext : FuncId → Option Ext) : Prop :=
  ∀ (g : FuncId) (x : Ext) (fn : Func), ext g = some x → P.funcs[g]? = some fn → Extern.findNext fn = none ∧ Extern.find fn = some (x.sem fn)

def NoNum (P : Program) : Prop := ∀ (f : Nat) (fn : Func), P.funcs[f]? = some fn → (fn.name == "runtime.NumGoroutine") = false

section
variable {P : Program} {Z : AH} {G n : Nat} {μ : Mu} {env : T (Option Value)} {a : Act} {h : AH} {w : World} {o : Oper} {next : Act → World → Prop} {Q : Exit → Act → World → Prop}

theorem plain_some {x : Option Value} {v : Value} {ho : Option AH} (h : plain x = some (v, ho)) : x = some v ∧ ho = none := by
  cases x with
  | none => simp [plain] at h
  | some u => simp only [plain, Option.some.injEq, Prod.mk.injEq] at h; exact ⟨by rw [h.1], h.2.symm⟩

theorem ev_const {c : Value} {v : Value} (h : ev G n env (.const c) = some v) : v = c := by
  simp only [ev] at h
  split at h
  · cases h; rfl
  · cases h

theorem ev_constOf {x : Operand} {v : Value} (h : ev G n env x = some v) : ∀ c, x = .const c → v = c := by
  rintro c rfl
  exact ev_const h

theorem call_run {g : FuncId} {fn : Func} {f : Operand} {ar : Array Operand} {ts : Array TypeId} (hname : NoNum P) (hf : P.funcs[g]? = some fn) (hb : fn.body.isNone = false) {first captured : List Value}
    (hfv : a.eval f = .func (.func g) ⟨first⟩ ⟨captured⟩) (hop : o.op = .call { callee := .value f, args := ar, argTypes := ts }) :
    (execOp a.eval o).run P w = .ok (.enter g (first ++ ar.toList.map a.eval ++ captured).toArray) w := by
  have h1 := hname g fn hf
  simp only [execOp, hop, resolve, hfv, Deferred.ofValue, Sem.run_bind, Sem.run_pure, Result.andThen_ok, invoke, callFunc, run_program, hf, h1, Bool.false_eq_true, if_false, hb]
  congr 2
  apply Array.ext'
  simp

theorem yield_run {k : Nat} {r : Loop} {f : Operand} {ar : Array Operand} {ts : Array TypeId} (hfv : a.eval f = .func (.yield k) ⟨[]⟩ ⟨[]⟩) (hop : o.op = .call { callee := .value f, args := ar, argTypes := ts })
    (hr : w.heap[k]? = some (.loop r)) (hs : (ar.toList.map a.eval).length = r.params.size) :
    (execOp a.eval o).run P w = .ok (.round k r.fn ((r.params.zip (ar.toList.map a.eval).toArray).foldl (fun tmps (t, a) => tmps.setIfInBounds t a) r.tmps) r.assign r.body) w := by
  simp only [execOp, hop, resolve, hfv, Deferred.ofValue, Sem.run_bind, Sem.run_pure, Result.andThen_ok, invoke]
  have h1 : (⟨[]⟩ : Array Value) ++ ar.map a.eval ++ (⟨[]⟩ : Array Value) = (ar.toList.map a.eval).toArray := by
    apply Array.ext'
    simp
  have := run_yield (P := P) (args := (ar.toList.map a.eval).toArray) hr (by simpa using hs)
  rw [← h1] at this ⊢
  exact this

theorem opt_ev (e : EnvOK μ n env a) (hg : ∀ g, g < G → ∃ l, μ g = some l ∧ l.b = g ∧ l.o = 0) {lo : Option Operand} {l : Option Value}
    (hl : (match lo with | some l => (ev G n env l).map some | none => some none) = some l) : VRo μ l (lo.map a.eval) := by
  cases lo with
  | none => cases hl; rfl
  | some x =>
    simp only [Option.map_eq_some_iff] at hl
    obtain ⟨v, hv, rfl⟩ := hl
    exact ⟨_, rfl, ev_ok hv e hg⟩

theorem builtin_run {b : Builtin} {ar : Array Operand} {ts : Array TypeId} (hop : o.op = .call { callee := .builtin b, args := ar, argTypes := ts }) :
    (execOp a.eval o).run P w = (builtin b ts o.type (ar.map fun | .const _ => true | _ => false) (ar.map a.eval)).run P w := by
  simp only [execOp, hop, resolve, Sem.run_bind, Sem.run_pure, Result.andThen_ok, invoke]
  rfl

theorem arr_of {ar : Array Operand} {l : List Value} (h : ar.toList.map a.eval = l) : ar.map a.eval = l.toArray := by
  apply Array.ext'
  simpa using h

theorem extern_run {g : FuncId} {fn : Func} {f : Operand} {ar : Array Operand} {ts : Array TypeId} {x : Ext} (hname : NoNum P) (hf : P.funcs[g]? = some fn) (hb : fn.body = none) (h2 : Extern.findNext fn = none) (h3 : Extern.find fn = some (x.sem fn))
    {first captured : List Value} (hfv : a.eval f = .func (.func g) ⟨first⟩ ⟨captured⟩) (hop : o.op = .call { callee := .value f, args := ar, argTypes := ts }) :
    (execOp a.eval o).run P w = ((x.sem fn (first ++ ar.toList.map a.eval ++ captured).toArray).run P w).andThen fun v w => .ok (.value v) w := by
  have h1 := hname g fn hf
  have harg : (first.toArray ++ ar.map a.eval ++ captured.toArray) = (first ++ ar.toList.map a.eval ++ captured).toArray := by
    apply Array.ext'
    simp
  have harg' : ((⟨first⟩ : Array Value) ++ ar.map a.eval ++ (⟨captured⟩ : Array Value)) = (first ++ ar.toList.map a.eval ++ captured).toArray := harg
  simp only [execOp, hop, resolve, hfv, Deferred.ofValue, Sem.run_bind, Sem.run_pure, Result.andThen_ok, invoke, callFunc, run_program, hf, h1, Bool.false_eq_true, if_false, hb, Option.isNone_none, if_true, run_mark, h2, h3, harg']

theorem run_loadBytes (b : Nat) : ∀ (ns : List Int) (off : Nat) (acc : ByteArray), (∀ j v, (ns.map (Value.int .u8))[j]? = some v → w.cell? ⟨b, off + j, none⟩ = some v) →
    (Extern.Bytes.loadBytes ⟨b, off, none⟩ ns.length acc).run P w = .ok ⟨acc.data ++ (ns.map fun n => UInt8.ofNat n.toNat).toArray⟩ w
  | [], off, acc, _ => by simp [Extern.Bytes.loadBytes]
  | n :: ns, off, acc, hc => by
    have h0 : w.cell? ⟨b, off, none⟩ = some (.int .u8 n) := by simpa using hc 0 (.int .u8 n) (by simp)
    have hl : (load ⟨b, off, none⟩ : Sem Value).run P w = .ok (.int .u8 n) w := by
      simp [load, Sem.run, h0]
    simp only [List.length_cons, Extern.Bytes.loadBytes, Sem.run_bind, hl, Result.andThen_ok, add_plain]
    rw [run_loadBytes b ns (off + 1) _ (fun j v hj => by
      have := hc (j + 1) v (by simpa using hj)
      rw [show off + 1 + j = off + (j + 1) from by omega]; exact this)]
    simp [ByteArray.push]

theorem bytesB_run (x : HR Z G μ h w) {v v' : Value} {l : List UInt8} (hb : bytesB h v = some l) (hv : VR μ v v') : (Extern.Bytes.bytesOf v').run P w = .ok ⟨l.toArray⟩ w := by
  unfold bytesB at hb
  split at hb
  · rename_i s
    simp only [VR] at hv
    subst hv
    cases hb
    obtain ⟨⟨l⟩⟩ := s
    rfl
  · unfold textB at hb
    split at hb
    · cases hb
      simp only [VR] at hv
      subst hv
      rfl
    · rename_i a n c _
      split at hb
      case h_2 => cases hb
      rename_i cs g hsp hi
      split at hb
      case h_2 => cases hb
      rename_i hle
      simp only [VR] at hv
      obtain ⟨L, c', _, hL, rfl, _, _⟩ := hv
      obtain ⟨L2, l', hL2, _, hlen, hr, hc⟩ := row_of x hi a.off n (ble_iff.1 hle)
      rw [hL] at hL2; cases hL2
      obtain ⟨ns, h1, h2⟩ := bytesIn_ok hb
      rw [h1] at hr
      have hp : pureL (ns.map (Value.int .u8)) = true := by
        clear h1 h2 hr
        induction ns with
        | nil => rfl
        | cons n ns ih => simpa [pureL, pureV] using ih
      have hl' : l' = ns.map (Value.int .u8) := (VRL.pure hp).1 hr
      subst hl'
      have hn : n = ns.length := by simpa using hlen.symm
      subst hn
      rw [show (Extern.Bytes.bytesOf (.slice (some ⟨L.b, L.o + a.off, none⟩) ns.length c') : Sem ByteArray) = Extern.Bytes.loadBytes ⟨L.b, L.o + a.off, none⟩ ns.length .empty from rfl]
      rw [run_loadBytes L.b ns (L.o + a.off) .empty hc, h2]
      simp
    · cases hb

theorem externB_ok (hr : HR Z G μ h w) {x : Ext} {fn : Func} {args args' : List Value} {v : Value} (hx : externB h x args = some v) (hv : VRL μ args args') : ∃ v', (x.sem fn args'.toArray).run P w = .ok v' w ∧ VR μ v v' := by
  unfold externB at hx
  split at hx
  · rename_i p q
    simp only [VRL] at hv
    obtain ⟨p', _, rfl, h1, q', _, rfl, h2, rfl⟩ := hv
    split at hx
    case h_2 => cases hx
    rename_i l1 l2 hl1 hl2
    cases hx
    refine ⟨_, ?_, VR.of_pure rfl⟩
    show (do pure (goInt (Extern.BytealgCompare.cmp (← Extern.Bytes.bytesOf p') (← Extern.Bytes.bytesOf q'))) : Sem Value).run P w = _
    simp only [Sem.run_bind, bytesB_run hr hl1 h1, bytesB_run hr hl2 h2, Result.andThen_ok, Sem.run_pure, goInt]
  · rename_i p q
    simp only [VRL] at hv
    obtain ⟨_, _, rfl, h1, _, _, rfl, h2, rfl⟩ := hv
    simp only [VR] at h1 h2
    subst h1 h2
    cases hx
    exact ⟨_, rfl, VR.of_pure rfl⟩
  · rename_i p q
    simp only [VRL] at hv
    obtain ⟨_, _, rfl, h1, _, _, rfl, h2, rfl⟩ := hv
    simp only [VR] at h1 h2
    subst h1 h2
    refine ⟨v, ?_, ?_⟩
    · change (match (List.range p.size).find? fun i => p[i]! == q.toNat.toUInt8 with
        | some i => (pure (goInt i) : Sem Value)
        | none => pure (goInt (-1))).run P w = _
      split at hx <;> (rename_i hf; cases hx; rw [hf]; rfl)
    · split at hx <;> (cases hx; exact VR.of_pure rfl)
  · simp only [VRL] at hv
    obtain ⟨_, _, rfl, h1, rfl⟩ := hv
    simp only [VR] at h1
    subst h1
    cases hx
    exact ⟨_, rfl, VR.of_pure rfl⟩
  · simp only [VRL] at hv
    obtain ⟨_, _, rfl, h1, rfl⟩ := hv
    simp only [VR] at h1
    subst h1
    cases hx
    exact ⟨_, rfl, VR.of_pure rfl⟩
  · simp only [VRL] at hv
    obtain ⟨_, _, rfl, h1, rfl⟩ := hv
    cases hx
    exact ⟨_, rfl, h1⟩
  · cases hx

theorem opB_ok (hr : HR Z G μ h w) (e : EnvOK μ n env a) {ext : FuncId → Option Ext} {orc : Orc} (horc : OrcOK P Z G orc) (hext : ExtOK P ext) (hname : NoNum P) {v : Value} {ho : Option AH} (hb : opB P G ext orc n o env h = some (v, ho))
    (hn : ∀ v' w', Owe Z G μ h w v ho v' w' → next (a.put o.dst v') w') : o.wpIn Fence.wide 0 P a w next Q := by
  unfold opB at hb
  have evo : ∀ {x : Operand} {v : Value}, ev G n env x = some v → VR μ v (a.eval x) := fun hx => ev_ok hx e hr.glob
  cases hop : o.op <;> simp only [hop, opA, aMove, aPick, aAlloc, aBox, aBuild, aBuildSlice, aLoad, aStore, aNilCheck, aBinOp, aUnOp, aConvert, aIface, aFunc, aMakeSlice, aFieldAddr, aField, aIndexAddr, aIndex, aRange, aNext, aExtract, aTypeAssert, aLookup, aMapUpdate, aMapEntry, aEntryStore, aNone] at hb <;> try (cases hb; done)
  case move x =>
    obtain ⟨h1, rfl⟩ := plain_some hb
    exact wpIn_val (by simp only [execOp, hop]; rfl) (hn _ _ (Owe.keep hr (evo h1)))
  case assign x =>
    obtain ⟨h1, rfl⟩ := plain_some hb
    exact wpIn_val (by simp only [execOp, hop]; rfl) (hn _ _ (Owe.keep hr (evo h1)))
  case pick c p q =>
    split at hb
    · rename_i hc
      have := evo hc
      simp only [VR] at this
      obtain ⟨h1, rfl⟩ := plain_some hb
      exact wpIn_val (by simp only [execOp, hop, this]; rfl) (hn _ _ (Owe.keep hr (evo h1)))
    · rename_i hc
      have := evo hc
      simp only [VR] at this
      obtain ⟨h1, rfl⟩ := plain_some hb
      exact wpIn_val (by simp only [execOp, hop, this]; rfl) (hn _ _ (Owe.keep hr (evo h1)))
    · cases hb
  case alloc t =>
    split at hb
    case h_2 => cases hb
    rename_i z hz
    obtain ⟨u', w', h1, h2⟩ := allocB_ok (w := w) hr hz hb
    exact wpIn_val (by simp only [execOp, hop, Sem.run_bind, h1]; rfl) (hn _ _ h2)
  case box t x =>
    split at hb
    case h_2 => cases hb
    rename_i v0 hx
    obtain ⟨u', w', h1, h2⟩ := boxB_ok (P := P) (w := w) hr t hb (evo hx)
    exact wpIn_val (by simp only [execOp, hop, Sem.run_bind, h1]; rfl) (hn _ _ h2)
  case build t ps =>
    split at hb
    case h_2 => cases hb
    rename_i vs hvs
    obtain ⟨h1, rfl⟩ := plain_some hb
    obtain ⟨v', h2, h3⟩ := buildB_ok (w := w) h1 (partsOk_ok e hr.glob hvs)
    have h4 : (ps.map fun (i, x) => (i, a.eval x)) = (ps.toList.map fun (i, x) => (i, a.eval x)).toArray := by apply Array.ext'; simp
    refine wpIn_val ?_ (hn _ _ (Owe.keep hr h3))
    simp only [execOp, hop, Sem.run_bind]
    rw [h4, h2]
    rfl
  case buildSlice t len ps =>
    split at hb
    case h_2 => cases hb
    rename_i vs hvs
    obtain ⟨v', w', h2, h3⟩ := buildSliceB_ok (w := w) hr hb (partsOk_ok e hr.glob hvs)
    have h4 : (ps.map fun (i, x) => (i, a.eval x)) = (ps.toList.map fun (i, x) => (i, a.eval x)).toArray := by apply Array.ext'; simp
    refine wpIn_val ?_ (hn _ _ h3)
    simp only [execOp, hop, Sem.run_bind]
    rw [h4, h2]
    rfl
  case load t x =>
    split at hb
    case h_2 => cases hb
    rename_i v0 hx
    obtain ⟨h1, rfl⟩ := plain_some hb
    obtain ⟨v', h2, h3⟩ := loadB_ok (P := P) hr h1 (evo hx)
    exact wpIn_val (by simp only [execOp, hop, Sem.run_bind, h2]; rfl) (hn _ _ (Owe.keep hr h3))
  case store t x y =>
    split at hb
    case h_2 => cases hb
    rename_i u0 v0 hx hy
    split at hb
    · rename_i hsame
      cases hb
      have h2 := storeSame_ok (P := P) hr hsame (evo hy) (evo hx)
      exact wpIn_skip' (by simp only [execOp, hop, Sem.run_bind, h2]; rfl) (hn _ _ (Owe.keep hr (VR.of_pure rfl)))
    split at hb
    case h_2 => cases hb
    rename_i h' hs
    cases hb
    obtain ⟨w', h2, h3, h4⟩ := storeB_ok hr hs (evo hy) (evo hx)
    exact wpIn_skip' (by simp only [execOp, hop, Sem.run_bind, h2]; rfl) (hn _ _ ⟨μ, VR.of_pure rfl, h3, h4⟩)
  case nilCheck x =>
    split at hb
    case h_2 => cases hb
    rename_i v0 hx
    obtain ⟨h1, rfl⟩ := plain_some hb
    have hv := evo hx
    have key : VR μ v (a.eval x) ∧ (execOp a.eval o).run P w = .ok (.value (a.eval x)) w := by
      unfold nilCheckB at h1
      simp only [execOp, hop]
      revert hv h1
      generalize a.eval x = q
      intro h1 hv
      cases v0 with
      | pointer p => cases p <;> simp at h1 <;> (subst h1; refine ⟨hv, ?_⟩; simp only [VR] at hv; obtain ⟨_, _, _, rfl⟩ := hv; rfl)
      | slice p _ _ => cases p <;> simp at h1 <;> (subst h1; refine ⟨hv, ?_⟩; simp only [VR] at hv; first | (subst hv; rfl) | (obtain ⟨_, _, _, _, rfl, _⟩ := hv; rfl))
      | map p => cases p <;> simp at h1 <;> (subst h1; refine ⟨hv, ?_⟩; simp only [VR] at hv; first | (subst hv; rfl) | (obtain ⟨_, _, rfl⟩ := hv; rfl))
      | chan p => cases p <;> simp only [VR] at hv <;> simp at h1 <;> (subst h1; refine ⟨by simp only [VR]; exact hv, ?_⟩; subst hv; rfl)
      | func f p q => obtain ⟨p⟩ := p; obtain ⟨q⟩ := q; cases f <;> simp at h1 <;> (subst h1; refine ⟨hv, ?_⟩; simp only [VR] at hv; obtain ⟨_, _, _, rfl, hfr, _⟩ := hv; first | (cases hfr; rfl) | (obtain ⟨_, _, rfl⟩ := hfr; rfl))
      | iface t y => simp at h1; subst h1; refine ⟨hv, ?_⟩; simp only [VR] at hv; obtain ⟨_, rfl, _⟩ := hv; rfl
      | agg c => simp at h1; subst h1; refine ⟨hv, ?_⟩; obtain ⟨_, rfl, _⟩ := VR.agg_inv hv; rfl
      | tuple c => simp at h1; subst h1; refine ⟨hv, ?_⟩; obtain ⟨_, rfl, _⟩ := VR.tuple_inv hv; rfl
      | nilFunc => simp at h1
      | nilIface => simp at h1
      | _ => simp at h1; subst h1; refine ⟨hv, ?_⟩; simp only [VR] at hv; subst hv; rfl
    exact wpIn_val key.2 (hn _ _ (Owe.keep hr key.1))
  case binOp op t x y yt =>
    split at hb
    case h_2 => cases hb
    rename_i u0 v0 hx hy
    obtain ⟨h1, rfl⟩ := plain_some hb
    obtain ⟨h2, h3⟩ := binB_ok (w := w) h1 (evo hx) (evo hy) (ev_constOf hx) (ev_constOf hy)
    exact wpIn_val (by simp only [execOp, hop, Sem.run_bind] at h2 ⊢; rw [h2]; rfl) (hn _ _ (Owe.keep hr (VR.of_pure h3)))
  case unOp op t x =>
    split at hb
    case h_2 => cases hb
    rename_i v0 hx
    obtain ⟨h1, rfl⟩ := plain_some hb
    obtain ⟨h2, h3⟩ := unB_ok (P := P) (w := w) h1 (evo hx)
    exact wpIn_val (by simp only [execOp, hop, Sem.run_bind, h2]; rfl) (hn _ _ (Owe.keep hr (VR.of_pure h3)))
  case convert s d x =>
    split at hb
    case h_2 => cases hb
    rename_i v0 hx
    have hv := evo hx
    unfold convB at hb
    split at hb
    · rename_i ds k k' m h1 h2
      cases hb
      simp only [VR] at hv
      refine wpIn_val ?_ (hn _ _ (Owe.keep hr (VR.of_pure rfl)))
      simp only [execOp, hop, Sem.run_bind, convert, hv, run_underlying h1, run_underlying h2, Result.andThen_ok, Conv.intToInt, Sem.run_pure]
    · rename_i ds k k' m h1 h2
      cases hb
      simp only [VR] at hv
      refine wpIn_val ?_ (hn _ _ (Owe.keep hr (VR.of_pure rfl)))
      simp only [execOp, hop, Sem.run_bind, convert, hv, run_underlying h1, run_underlying h2, Result.andThen_ok, Conv.intToFloat, Sem.run_pure]
    · rename_i ds k s b h1 h2
      simp only [VR] at hv
      split at hb
      case h_2 => cases hb
      rename_i m hm
      split at hb
      case h_2 => cases hb
      rename_i hin
      cases hb
      refine wpIn_val ?_ (hn _ _ (Owe.keep hr (VR.of_pure rfl)))
      simp only [execOp, hop, Sem.run_bind, convert, hv, run_underlying h1, run_underlying h2, Result.andThen_ok, Conv.floatToInt, hm, if_pos (of_decide_eq_true hin), Sem.run_pure]
    · rename_i ds k s b h1 h2
      simp only [VR] at hv
      split at hb
      case h_2 => cases hb
      rename_i hk
      cases hb
      have hk' := of_decide_eq_true hk
      subst hk'
      refine wpIn_val ?_ (hn _ _ (Owe.keep hr (VR.of_pure rfl)))
      simp only [execOp, hop, Sem.run_bind, convert, hv, run_underlying h1, run_underlying h2, Result.andThen_ok, Conv.floatToFloat, if_true, Sem.run_pure]
    · rename_i t0 a0 h1 h2
      split at hb
      case h_2 => cases hb
      rename_i c0 g0 n0 hsp hi hsz
      split at hb
      case h_2 => cases hb
      rename_i hlt
      cases hb
      have h4 := toUnsafe_ok (w := w) hr h1 h2 hi hsz (blt_iff.1 hlt) hv
      exact wpIn_val (by simp only [execOp, hop, Sem.run_bind, h4]; rfl) (hn _ _ (Owe.keep hr hv))
    · rename_i u0 a0 h1 h2
      split at hb
      case h_2 => cases hb
      rename_i c0 g0 hsp hi
      split at hb
      case h_2 => cases hb
      rename_i t0 ht
      split at hb
      case h_2 => cases hb
      rename_i k0 hl hk
      cases hb
      have h4 := ofUnsafe_ok (w := w) hr h1 h2 hi ht hl hk hv
      exact wpIn_val (by simp only [execOp, hop, Sem.run_bind, h4]; rfl) (hn _ _ (Owe.keep hr hv))
    · rename_i ds k m h1 h2
      cases hb
      simp only [VR] at hv
      refine wpIn_val ?_ (hn _ _ (Owe.keep hr (VR.of_pure rfl)))
      simp only [execOp, hop, Sem.run_bind, convert, hv, run_underlying h1, run_underlying h2, Result.andThen_ok, Conv.intToString, Sem.run_pure]
    · rename_i ds s h1 h2
      cases hb
      simp only [VR] at hv
      refine wpIn_val ?_ (hn _ _ (Owe.keep hr (VR.of_pure rfl)))
      simp only [execOp, hop, Sem.run_bind, convert, hv, run_underlying h1, run_underlying h2, Result.andThen_ok, Sem.run_pure]
    · rename_i e0 s0 h1 h2
      simp only [VR] at hv
      split at hb
      · rename_i h3
        obtain ⟨u', w', h4, h5⟩ := bytesB_ok (w := w) hr h1 h2 h3 hb
        exact wpIn_val (by simp only [execOp, hop, Sem.run_bind, hv, h4]; rfl) (hn _ _ h5)
      · rename_i h3
        obtain ⟨u', w', h4, h5⟩ := runesB_ok (w := w) hr h1 h2 h3 hb
        exact wpIn_val (by simp only [execOp, hop, Sem.run_bind, hv, h4]; rfl) (hn _ _ h5)
      · cases hb
    · rename_i e0 h1 h2 _ _
      split at hb
      case h_2 => cases hb
      rename_i h3
      split at hb
      case h_2 => cases hb
      rename_i l hl
      cases hb
      have h4 := textB_ok (w := w) hr h1 h2 h3 hl hv
      exact wpIn_val (by simp only [execOp, hop, Sem.run_bind, h4]; rfl) (hn _ _ (Owe.keep hr (VR.of_pure rfl)))
    · cases hb
  case makeInterface t x =>
    split at hb
    · cases hb
    · rename_i v0 d hno hx hd
      cases hb
      refine wpIn_val ?_ (hn _ _ (Owe.keep hr (show VR μ (.iface t v0) (.iface t (a.eval x)) by simp only [VR]; exact ⟨_, rfl, evo hx⟩)))
      simp only [execOp, hop, Sem.run_bind, Instr.makeInterface, run_underlying hd, Result.andThen_ok]
      cases d <;> first | rfl | exact absurd hd (hno _ _ hx)
    · cases hb
  case makeFunc fn p q =>
    split at hb
    case h_2 => cases hb
    rename_i p0 q0 hp hq hfp
    cases hb
    refine wpIn_val (by simp only [execOp, hop, Instr.makeFunc, Sem.run_bind, Sem.run_pure, Result.andThen_ok]; rfl) (hn _ _ (Owe.keep hr ?_))
    simp only [VR]
    exact ⟨fn, p.toList.map a.eval, q.toList.map a.eval, by rw [arr_of rfl, arr_of rfl], (FnR.pure hfp).2 rfl, evs_ok e hr.glob hp, evs_ok e hr.glob hq⟩
  case typeAssert x xt ta ok =>
    split at hb
    case h_2 => cases hb
    rename_i v0 hx
    obtain ⟨h1, rfl⟩ := plain_some hb
    obtain ⟨r', h2, h3⟩ := typeAssertB_ok (w := w) (xt := xt) h1 (evo hx)
    refine wpIn_val ?_ (hn _ _ (Owe.keep hr h3))
    simp only [execOp, hop, Sem.run_bind, h2]
    rfl
  case makeSlice t l c =>
    split at hb
    case h_2 => cases hb
    rename_i l0 c0 hl hc
    obtain ⟨v', w', h2, h3⟩ := makeSliceB_ok (w := w) hr hb (evo hl) (evo hc)
    exact wpIn_val (by simp only [execOp, hop, Sem.run_bind, h2]; rfl) (hn _ _ h3)
  case slice t x lo hi mx =>
    cases mx with
    | some m => simp [aNone] at hb
    | none =>
      simp only [aSlice] at hb
      split at hb
      case h_2 => cases hb
      rename_i v0 l r hx hl hh
      obtain ⟨h1, rfl⟩ := plain_some hb
      obtain ⟨v', h2, h3⟩ := sliceB_ok (P := P) hr h1 (evo hx) (opt_ev e hr.glob hl) (opt_ev e hr.glob hh)
      exact wpIn_val (by simp only [execOp, hop, Sem.run_bind, Option.map_none, h2]; rfl) (hn _ _ (Owe.keep hr h3))
  case fieldAddr s x f =>
    split at hb
    case h_2 => cases hb
    rename_i v0 hx
    obtain ⟨h1, rfl⟩ := plain_some hb
    obtain ⟨v', h2, h3⟩ := fieldAddrB_ok (w := w) h1 (evo hx)
    exact wpIn_val (by simp only [execOp, hop, Sem.run_bind, h2]; rfl) (hn _ _ (Owe.keep hr h3))
  case field t x f =>
    split at hb
    case h_2 => cases hb
    rename_i v0 hx
    obtain ⟨h1, rfl⟩ := plain_some hb
    obtain ⟨v', h2, h3⟩ := fieldB_ok (w := w) h1 (evo hx)
    exact wpIn_val (by simp only [execOp, hop, Sem.run_bind, h2]; rfl) (hn _ _ (Owe.keep hr h3))
  case indexAddr t x i =>
    split at hb
    case h_2 => cases hb
    rename_i v0 i0 hx hi
    obtain ⟨h1, rfl⟩ := plain_some hb
    obtain ⟨v', h2, h3⟩ := indexAddrB_ok (w := w) h1 (evo hx) (evo hi)
    exact wpIn_val (by simp only [execOp, hop, Sem.run_bind, h2]; rfl) (hn _ _ (Owe.keep hr h3))
  case index t x i =>
    split at hb
    case h_2 => cases hb
    rename_i v0 i0 hx hi
    obtain ⟨h1, rfl⟩ := plain_some hb
    obtain ⟨v', h2, h3⟩ := indexB_ok (w := w) h1 (evo hx) (evo hi)
    exact wpIn_val (by simp only [execOp, hop, Sem.run_bind, h2]; rfl) (hn _ _ (Owe.keep hr h3))
  case range t x =>
    split at hb
    case h_2 => cases hb
    rename_i v0 hx
    obtain ⟨v', w', h2, h3⟩ := rangeB_ok (P := P) (w := w) hr hb (evo hx)
    exact wpIn_val (by simp only [execOp, hop, Sem.run_bind, h2]; rfl) (hn _ _ h3)
  case next x b =>
    split at hb
    case h_2 => cases hb
    rename_i v0 hx
    obtain ⟨v', w', h2, h3⟩ := nextB_ok (P := P) (w := w) (t := o.type) hr hb (evo hx)
    exact wpIn_val (by simp only [execOp, hop, Sem.run_bind, h2]; rfl) (hn _ _ h3)
  case makeMap t r =>
    cases r with
    | none =>
      simp only [aMakeMap] at hb
      obtain ⟨u', w', h2, h3⟩ := makeMapB_ok (P := P) (t := t) hr hb
      exact wpIn_val (by simp only [execOp, hop, Option.map_none, Sem.run_bind, h2]; rfl) (hn _ _ h3)
    | some x =>
      simp only [aMakeMap] at hb
      split at hb
      case h_2 => cases hb
      rename_i k z hx
      split at hb
      case h_2 => cases hb
      rename_i kt et hu
      have hv := evo hx
      simp only [VR] at hv
      obtain ⟨u', w', h2, h3⟩ := makeMapR_ok (P := P) (k := k) (z := z) hr hu hb
      exact wpIn_val (by simp only [execOp, hop, Option.map_some, hv, Sem.run_bind, h2]; rfl) (hn _ _ h3)
  case lookup t x i ok =>
    split at hb
    case h_2 => cases hb
    rename_i m0 k0 hx hi
    obtain ⟨h1, rfl⟩ := plain_some hb
    obtain ⟨v', h2, h3⟩ := lookB_ok (P := P) hr h1 (evo hx) (evo hi)
    exact wpIn_val (by simp only [execOp, hop, Sem.run_bind, h2]; rfl) (hn _ _ (Owe.keep hr h3))
  case mapUpdate t m k y =>
    split at hb
    case h_2 => cases hb
    rename_i m0 k0 v0 hm hk hy
    split at hb
    case h_2 => cases hb
    rename_i h' hs
    cases hb
    obtain ⟨w', h2, h3, h4⟩ := mapUpdB_ok hr hs (evo hm) (evo hk) (evo hy)
    exact wpIn_skip' (by simp only [execOp, hop, Sem.run_bind, h2]; rfl) (hn _ _ ⟨μ, VR.of_pure rfl, h3, h4⟩)
  case insert t m k y =>
    split at hb
    case h_2 => cases hb
    rename_i m0 k0 v0 hm hk hy
    split at hb
    case h_2 => cases hb
    rename_i h' hs
    cases hb
    obtain ⟨w', h2, h3, h4⟩ := mapUpdB_ok hr hs (evo hm) (evo hk) (evo hy)
    exact wpIn_skip' (by simp only [execOp, hop, Sem.run_bind, h2]; rfl) (hn _ _ ⟨μ, VR.of_pure rfl, h3, h4⟩)
  case mapEntry t m k =>
    split at hb
    case h_2 => cases hb
    rename_i m0 k0 hm hk
    obtain ⟨u', w', h2, h3⟩ := mapEntryB_ok (P := P) hr hb (evo hm) (evo hk)
    exact wpIn_val (by simp only [execOp, hop, Sem.run_bind, h2]; rfl) (hn _ _ h3)
  case entryStore t m k y =>
    split at hb
    case h_2 => cases hb
    rename_i m0 k0 v0 hm hk hy
    split at hb
    case h_2 => cases hb
    rename_i h' hs
    cases hb
    obtain ⟨w', h2, h3, h4⟩ := entryStoreB_ok (P := P) (t := t) hr hs (evo hm) (evo hk) (evo hy)
    exact wpIn_skip' (by simp only [execOp, hop, Sem.run_bind, h2]; rfl) (hn _ _ ⟨μ, VR.of_pure rfl, h3, h4⟩)
  case extract x i =>
    split at hb
    case h_2 => cases hb
    rename_i l hx
    obtain ⟨h1, rfl⟩ := plain_some hb
    obtain ⟨c', h2, h3⟩ := VR.tuple_inv (evo hx)
    obtain ⟨v', h4, h5⟩ := h3.at h1
    have h6 : c'[i]? = some v' := by simpa using h4
    exact wpIn_val (by simp only [execOp, hop, h2, Instr.extract, h6]; rfl) (hn _ _ (Owe.keep hr h5))
  case call c =>
    obtain ⟨callee, ar, ts⟩ := c
    cases callee with
    | invoke r m => simp [aCall, aNone] at hb
    | builtin b =>
      simp only [aCall, aBuiltin] at hb
      split at hb
      case h_2 => cases hb
      rename_i args hargs
      have hvs := evs_ok e hr.glob hargs
      have hrun := builtin_run (P := P) (w := w) (a := a) hop
      unfold builtinB at hb
      split at hb
      · rename_i s0 x0
        simp only [VRL] at hvs
        obtain ⟨s', vs', e1, h1, x', vs2, e2, h2, e3⟩ := hvs
        subst e3 e2
        rw [arr_of e1] at hrun
        obtain ⟨u', w', h3, h4⟩ := appendW_ok (P := P) (w := w) (ty := o.type) hr hb h1 h2
        refine wpIn_val ?_ (hn _ _ h4)
        rw [hrun]
        simp only [builtin, Sem.run_bind, h3]
        rfl
      · rename_i x0
        simp only [VRL] at hvs
        obtain ⟨x', vs', e1, h1, e3⟩ := hvs
        subst e3
        rw [arr_of e1] at hrun
        split at hb
        case h_2 => cases hb
        rename_i t ht
        rw [Option.map_eq_some_iff] at hb
        obtain ⟨u, hu, h5⟩ := hb
        cases h5
        obtain ⟨h3, h4⟩ := lenOpB_ok (P := P) (w := w) (ty := o.type) hr hu h1 ts ht
        refine wpIn_val ?_ (hn _ _ (Owe.keep hr (VR.of_pure h4)))
        rw [hrun]
        simp only [builtin, Sem.run_bind, h3]
        rfl
      · -- cap of a nil slice
        simp only [VRL, VR] at hvs
        obtain ⟨x', vs', e1, h1, e3⟩ := hvs
        subst e3 h1
        rw [arr_of e1] at hrun
        split at hb
        case h_2 => cases hb
        rename_i t ht
        split at hb
        case h_2 => cases hb
        rename_i el hu
        cases hb
        refine wpIn_val ?_ (hn _ _ (Owe.keep hr (VR.of_pure rfl)))
        rw [hrun]
        simp only [builtin, Sem.run_bind, cap_nil ht hu]
        rfl
      · -- a copy of nothing
        simp only [VRL] at hvs
        obtain ⟨s1, vs1, e1, h1, s2, vs2, e2, h2, e3⟩ := hvs
        subst e3 e2
        rw [arr_of e1] at hrun
        split at hb
        case h_2 => cases hb
        rename_i t ht
        split at hb
        case h_2 => cases hb
        rename_i el hu
        split at hb
        case h_2 => cases hb
        rename_i k hk
        cases hb
        have sh : ∀ {q : Option Addr} {m c : Nat} {q' : Value}, VR μ (.slice q m c) q' → ∃ r d, q' = .slice r m d := by
          intro q m c q' hq
          cases q with
          | none => simp only [VR] at hq; exact ⟨_, _, hq⟩
          | some p => simp only [VR] at hq; obtain ⟨l, c', _, _, hq, _⟩ := hq; exact ⟨_, _, hq⟩
        obtain ⟨r1, d1, rfl⟩ := sh h1
        obtain ⟨r2, d2, rfl⟩ := sh h2
        refine wpIn_val ?_ (hn _ _ (Owe.keep hr (VR.of_pure rfl)))
        rw [hrun]
        simp only [builtin, Sem.run_bind, copy_none ht hu hk]
        rfl
      · -- unsafe.SliceData of nil
        simp only [VRL, VR] at hvs
        obtain ⟨x', vs', e1, h1, e3⟩ := hvs
        subst e3 h1
        rw [arr_of e1] at hrun
        cases hb
        refine wpIn_val ?_ (hn _ _ (Owe.keep hr (VR.of_pure rfl)))
        rw [hrun]
        rfl
      · -- unsafe.SliceData
        simp only [VRL, VR] at hvs
        obtain ⟨x', vs', e1, ⟨l, c', hsp, hl, h1, hc0, hc1⟩, e3⟩ := hvs
        subst e3 h1
        rw [arr_of e1] at hrun
        split at hb
        · cases hb
        rename_i hc
        cases hb
        have hc' : c' ≠ 0 := by
          have : ¬ _ = 0 := fun h => by rw [beq_iff.2 h] at hc; cases hc
          by_cases h : l.e = 0
          · rw [hc0 h]; exact this
          · have := hc1 h; omega
        refine wpIn_val ?_ (hn _ _ (Owe.keep hr (v' := .pointer (some ⟨l.b, _, none⟩)) (by simp only [VR]; exact ⟨l, hsp, hl, rfl⟩)))
        rw [hrun]
        simp only [builtin, Sem.run_bind, sliceData_some hc']
        rfl
      · -- unsafe.String of no bytes
        simp only [VRL] at hvs
        obtain ⟨s1, vs1, e1, h1, s2, vs2, e2, h2, e3⟩ := hvs
        simp only [VR] at h2
        subst e3 e2 h2
        rw [arr_of e1] at hrun
        split at hb
        case h_2 => cases hb
        rename_i pt ht
        cases hb
        obtain ⟨q, rfl⟩ := VR.ptr h1
        refine wpIn_val ?_ (hn _ _ (Owe.keep hr (VR.of_pure rfl)))
        rw [hrun]
        simp only [builtin, Sem.run_bind, unsafeStr_zero ht]
        rfl
      · -- unsafe.String
        simp only [VRL] at hvs
        obtain ⟨s1, vs1, e1, h1, s2, vs2, e2, h2, e3⟩ := hvs
        simp only [VR] at h2
        subst e3 e2 h2
        rw [arr_of e1] at hrun
        split at hb
        case h_2 => cases hb
        rename_i pt ht hle
        have hle' := ble_iff.1 hle
        obtain ⟨u', w', h3, h4⟩ := unsafeStrB_ok (P := P) (w := w) (ty := o.type) hr ht hb (by show _ ≤ (9223372036854775807 : Int); omega) h1
        refine wpIn_val ?_ (hn _ _ h4)
        rw [hrun]
        have h5 : (Builtin.unsafeString_ ts o.type #[s1, .int .i64 (.ofNat (_ + 1))]).run P w = .ok u' w' := h3
        simp only [builtin, Sem.run_bind, h5]
        rfl
      · rename_i x0 xs0
        simp only [VRL] at hvs
        obtain ⟨x', vs', e1, h1, h2⟩ := hvs
        rw [arr_of e1] at hrun
        rw [Option.map_eq_some_iff] at hb
        obtain ⟨u, hu, h5⟩ := hb
        cases h5
        obtain ⟨r', h3, h4⟩ := foldB_ok (P := P) (w := w) (mx := true) _ _ _ _ _ hu h1 h2
        refine wpIn_val ?_ (hn _ _ (Owe.keep hr h4))
        rw [hrun]
        simp only at h3
        simp only [builtin, Builtin.max_, Sem.run_bind, h3]
        rfl
      · rename_i x0 xs0
        simp only [VRL] at hvs
        obtain ⟨x', vs', e1, h1, h2⟩ := hvs
        rw [arr_of e1] at hrun
        rw [Option.map_eq_some_iff] at hb
        obtain ⟨u, hu, h5⟩ := hb
        cases h5
        obtain ⟨r', h3, h4⟩ := foldB_ok (P := P) (w := w) (mx := false) _ _ _ _ _ hu h1 h2
        refine wpIn_val ?_ (hn _ _ (Owe.keep hr h4))
        rw [hrun]
        simp only at h3
        simp only [builtin, Builtin.min_, Sem.run_bind, h3]
        rfl
      · cases hb
    | value f =>
      simp only [aCall, aCallee] at hb
      split at hb
      case h_2 => cases hb
      rename_i args hargs
      have hvs := evs_ok e hr.glob hargs
      split at hb
      case h_2 => cases hb
      rename_i fv hfv
      have hv := evo hfv
      unfold callB at hb
      split at hb
      case h_3 => cases hb
      case h_2 =>
        rename_i i
        split at hb
        case h_2 => cases hb
        rename_i hno
        simp only [VR, FnR, VRL] at hv
        obtain ⟨_, _, _, hfe, ⟨l, hl, rfl⟩, rfl, rfl⟩ := hv
        have hargs' : VRL μ (.func (.yield i) ⟨[]⟩ ⟨[]⟩ :: args) (.func (.yield l.b) ⟨[]⟩ ⟨[]⟩ :: ar.toList.map a.eval) := VRL.cons (by simp only [VR, FnR, VRL]; exact ⟨_, _, _, rfl, ⟨l, hl, rfl⟩, rfl, rfl⟩) hvs
        obtain ⟨r, hr1, hr2, hr3⟩ := (horc yid _ h v ho hb μ w _ hr hargs').2 rfl hno l.b _ rfl
        refine wpIn_yield (yield_run hfe hop hr1 hr2) (hr3.mono ?_)
        rintro e' w' ⟨v', rfl, h3⟩
        exact hn _ _ h3
      rename_i g first captured
      split at hb
      case h_2 => cases hb
      rename_i fn hf
      simp only [VR, FnR] at hv
      obtain ⟨_, f', c', hfe, rfl, h1, h2⟩ := hv
      split at hb
      · rename_i body hbody
        have hcall := (horc g _ h v ho hb μ w (f' ++ ar.toList.map a.eval ++ c') hr ((h1.append hvs).append h2)).1 (.inr (by rw [hf]; simp))
        refine wpIn_call (call_run hname hf (by rw [hbody]; rfl) hfe hop) (hcall.mono ?_)
        rintro e' w' ⟨v', rfl, h3⟩
        exact hn _ _ h3
      · rename_i hbody
        split at hb
        case h_3 => cases hb
        case h_1 =>
          rename_i hx
          obtain ⟨hf1, hf2⟩ := hext g .noZero fn hx hf
          obtain ⟨v', w', h6, h7⟩ := noZeroB_ok (P := P) (w := w) hr hb ((h1.append hvs).append h2)
          refine wpIn_val ?_ (hn _ _ h7)
          rw [extern_run hname hf hbody hf1 hf2 hfe hop]
          show ((Extern.BytealgMakeNoZero.makeNoZero fn.params fn.resultTypes _).run P w).andThen _ = _
          rw [h6]
          rfl
        rename_i x hxn hx
        rw [Option.map_eq_some_iff] at hb
        obtain ⟨u, hu, h5⟩ := hb
        cases h5
        obtain ⟨hf1, hf2⟩ := hext g x fn hx hf
        obtain ⟨v', h6, h7⟩ := externB_ok (P := P) (w := w) hr hu ((h1.append hvs).append h2)
        refine wpIn_val ?_ (hn _ _ (Owe.keep hr h7))
        rw [extern_run hname hf hbody hf1 hf2 hfe hop, h6]
        rfl

/-- The same in a frame of a round. -/
theorem opB_Fr (ro : Option Nat) (hr : HR Z G μ h w) (e : EnvOK μ n env a) {ext : FuncId → Option Ext} {orc : Orc} (horc : OrcOK P Z G orc) (hext : ExtOK P ext) (hname : NoNum P) {v : Value} {ho : Option AH} (hb : opB P G ext orc n o env h = some (v, ho))
    (hn : ∀ v' w', Owe Z G μ h w v ho v' w' → next (a.put o.dst v') w') : o.wpIn (Fr ro) 0 P a w next Q :=
  wpIn_Fr (opB_ok hr e horc hext hname hb hn) (fun c hc => by unfold opB at hb; rw [hc] at hb; cases hb) ro

end
end Go.Proofs.YtibffohcmegooaaGreatDoor.V
