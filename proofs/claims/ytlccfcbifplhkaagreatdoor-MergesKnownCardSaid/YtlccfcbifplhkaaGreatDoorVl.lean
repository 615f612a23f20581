/- Every operation of the small machine agrees with the model's. Conditions: none. -/
import Derived.Test.YtlccfcbifplhkaaGreatDoorVk
namespace Go.Proofs.YtlccfcbifplhkaaGreatDoor.V
open Go

/-- The answers to calls are true of the program. -/
def OrcOK (P : Program) (G : Nat) (orc : Orc) : Prop :=
  ∀ (g : FuncId) (args : List Value) (h : AH) (v : Value) (ho : Option AH), orc g args h = some (v, ho) → ∀ (μ : Mu) (w : World) (args' : List Value), HR G μ h w → VRL μ args args' →
    Calls P g args'.toArray w fun e w' => ∃ v', e = .returned v' ∧ Owe G μ h w v ho v' w'

/-- The served functions without a body are what the table says. -/
def ExtOK (P : Program) (ext : FuncId → Option Ext) : Prop :=
  ∀ (g : FuncId) (x : Ext) (fn : Func), ext g = some x → P.funcs[g]? = some fn → Extern.findNext fn = none ∧ Extern.find fn = some x.sem

def NoNum (P : Program) : Prop := ∀ (f : Nat) (fn : Func), P.funcs[f]? = some fn → (fn.name == "runtime.NumGoroutine") = false

section
variable {P : Program} {G n : Nat} {μ : Mu} {env : T (Option Value)} {a : Act} {h : AH} {w : World} {o : Oper} {next : Act → World → Prop} {Q : Exit → Act → World → Prop}

theorem wp_val {v' : Value} {w' : World} (hr : (execOp a.eval o).run P w = .ok (.value v') w') (hn : next (a.put o.dst v') w') : o.wp P a w next Q := by
  unfold Oper.wp
  rw [hr]
  exact hn

theorem wp_skip' {w' : World} (hr : (execOp a.eval o).run P w = .ok .skip w') (hn : next (a.put o.dst undef) w') : o.wp P a w next Q := by
  unfold Oper.wp
  rw [hr]
  exact hn

theorem plain_some {x : Option Value} {v : Value} {ho : Option AH} (h : plain x = some (v, ho)) : x = some v ∧ ho = none := by
  cases x with
  | none => simp [plain] at h
  | some u => simp only [plain, Option.some.injEq, Prod.mk.injEq] at h; exact ⟨by rw [h.1], h.2.symm⟩

theorem ev_const {c : Value} {v : Value} (h : ev G n env (.const c) = some v) : v = c := by
  simp only [ev] at h
  split at h
  · cases h; rfl
  · cases h

theorem ev_constOf {x : Operand} {v : Value} (h : ev G n env x = some v) : ∀ c, x = .const c → v = c := by
  rintro c rfl
  exact ev_const h

theorem call_run {g : FuncId} {fn : Func} {f : Operand} {ar : Array Operand} {ts : Array TypeId} (hname : NoNum P) (hf : P.funcs[g]? = some fn) (hb : fn.body.isNone = false) {first captured : List Value}
    (hfv : a.eval f = .func (.func g) ⟨first⟩ ⟨captured⟩) (hop : o.op = .call { callee := .value f, args := ar, argTypes := ts }) :
    (execOp a.eval o).run P w = .ok (.enter g (first ++ ar.toList.map a.eval ++ captured).toArray) w := by
  have h1 := hname g fn hf
  simp only [execOp, hop, resolve, hfv, Deferred.ofValue, Sem.run_bind, Sem.run_pure, Result.andThen_ok, invoke, callFunc, run_program, hf, h1, Bool.false_eq_true, if_false, hb]
  congr 2
  apply Array.ext'
  simp

theorem opt_ev (e : EnvOK μ n env a) (hg : ∀ g, g < G → ∃ l, μ g = some l ∧ l.b = g ∧ l.o = 0) {lo : Option Operand} {l : Option Value}
    (hl : (match lo with | some l => (ev G n env l).map some | none => some none) = some l) : VRo μ l (lo.map a.eval) := by
  cases lo with
  | none => cases hl; rfl
  | some x =>
    simp only [Option.map_eq_some_iff] at hl
    obtain ⟨v, hv, rfl⟩ := hl
    exact ⟨_, rfl, ev_ok hv e hg⟩

theorem builtin_run {b : Builtin} {ar : Array Operand} {ts : Array TypeId} (hop : o.op = .call { callee := .builtin b, args := ar, argTypes := ts }) :
    (execOp a.eval o).run P w = (builtin b ts o.type (ar.map fun | .const _ => true | _ => false) (ar.map a.eval)).run P w := by
  simp only [execOp, hop, resolve, Sem.run_bind, Sem.run_pure, Result.andThen_ok, invoke]
  rfl

theorem arr_of {ar : Array Operand} {l : List Value} (h : ar.toList.map a.eval = l) : ar.map a.eval = l.toArray := by
  apply Array.ext'
  simpa using h

theorem extern_run {g : FuncId} {fn : Func} {f : Operand} {ar : Array Operand} {ts : Array TypeId} {x : Ext} (hname : NoNum P) (hf : P.funcs[g]? = some fn) (hb : fn.body = none) (h2 : Extern.findNext fn = none) (h3 : Extern.find fn = some x.sem)
    {first captured : List Value} (hfv : a.eval f = .func (.func g) ⟨first⟩ ⟨captured⟩) (hop : o.op = .call { callee := .value f, args := ar, argTypes := ts }) :
    (execOp a.eval o).run P w = ((x.sem (first ++ ar.toList.map a.eval ++ captured).toArray).run P w).andThen fun v w => .ok (.value v) w := by
  have h1 := hname g fn hf
  have harg : (first.toArray ++ ar.map a.eval ++ captured.toArray) = (first ++ ar.toList.map a.eval ++ captured).toArray := by
    apply Array.ext'
    simp
  have harg' : ((⟨first⟩ : Array Value) ++ ar.map a.eval ++ (⟨captured⟩ : Array Value)) = (first ++ ar.toList.map a.eval ++ captured).toArray := harg
  simp only [execOp, hop, resolve, hfv, Deferred.ofValue, Sem.run_bind, Sem.run_pure, Result.andThen_ok, invoke, callFunc, run_program, hf, h1, Bool.false_eq_true, if_false, hb, Option.isNone_none, if_true, run_mark, h2, h3, harg']

theorem externB_ok {x : Ext} {args args' : List Value} {v : Value} (hx : externB x args = some v) (hv : VRL μ args args') : ∃ v', (x.sem args'.toArray).run P w = .ok v' w ∧ VR μ v v' := by
  unfold externB at hx
  split at hx
  · rename_i p q
    simp only [VRL] at hv
    obtain ⟨_, _, rfl, h1, _, _, rfl, h2, rfl⟩ := hv
    simp only [VR] at h1 h2
    subst h1 h2
    cases hx
    exact ⟨_, rfl, VR.of_pure rfl⟩
  · rename_i p q
    simp only [VRL] at hv
    obtain ⟨_, _, rfl, h1, _, _, rfl, h2, rfl⟩ := hv
    simp only [VR] at h1 h2
    subst h1 h2
    cases hx
    exact ⟨_, rfl, VR.of_pure rfl⟩
  · rename_i p q
    simp only [VRL] at hv
    obtain ⟨_, _, rfl, h1, _, _, rfl, h2, rfl⟩ := hv
    simp only [VR] at h1 h2
    subst h1 h2
    refine ⟨v, ?_, ?_⟩
    · change (match (List.range p.size).find? fun i => p[i]! == q.toNat.toUInt8 with
        | some i => (pure (goInt i) : Sem Value)
        | none => pure (goInt (-1))).run P w = _
      split at hx <;> (rename_i hf; cases hx; rw [hf]; rfl)
    · split at hx <;> (cases hx; exact VR.of_pure rfl)
  · simp only [VRL] at hv
    obtain ⟨_, _, rfl, h1, rfl⟩ := hv
    simp only [VR] at h1
    subst h1
    cases hx
    exact ⟨_, rfl, VR.of_pure rfl⟩
  · simp only [VRL] at hv
    obtain ⟨_, _, rfl, h1, rfl⟩ := hv
    simp only [VR] at h1
    subst h1
    cases hx
    exact ⟨_, rfl, VR.of_pure rfl⟩
  · simp only [VRL] at hv
    obtain ⟨_, _, rfl, h1, rfl⟩ := hv
    cases hx
    exact ⟨_, rfl, h1⟩
  · cases hx

theorem opB_ok (hr : HR G μ h w) (e : EnvOK μ n env a) {ext : FuncId → Option Ext} {orc : Orc} (horc : OrcOK P G orc) (hext : ExtOK P ext) (hname : NoNum P) {v : Value} {ho : Option AH} (hb : opB P G ext orc n o env h = some (v, ho))
    (hn : ∀ v' w', Owe G μ h w v ho v' w' → next (a.put o.dst v') w') : o.wp P a w next Q := by
  unfold opB at hb
  have evo : ∀ {x : Operand} {v : Value}, ev G n env x = some v → VR μ v (a.eval x) := fun hx => ev_ok hx e hr.glob
  cases hop : o.op <;> simp only [hop] at hb <;> try (cases hb; done)
  case move x =>
    obtain ⟨h1, rfl⟩ := plain_some hb
    exact wp_val (by simp only [execOp, hop]; rfl) (hn _ _ (Owe.keep hr (evo h1)))
  case assign x =>
    obtain ⟨h1, rfl⟩ := plain_some hb
    exact wp_val (by simp only [execOp, hop]; rfl) (hn _ _ (Owe.keep hr (evo h1)))
  case pick c p q =>
    split at hb
    · rename_i hc
      have := evo hc
      simp only [VR] at this
      obtain ⟨h1, rfl⟩ := plain_some hb
      exact wp_val (by simp only [execOp, hop, this]; rfl) (hn _ _ (Owe.keep hr (evo h1)))
    · rename_i hc
      have := evo hc
      simp only [VR] at this
      obtain ⟨h1, rfl⟩ := plain_some hb
      exact wp_val (by simp only [execOp, hop, this]; rfl) (hn _ _ (Owe.keep hr (evo h1)))
    · cases hb
  case alloc t =>
    split at hb
    case h_2 => cases hb
    rename_i z hz
    obtain ⟨u', w', h1, h2⟩ := allocB_ok (w := w) hr hz hb
    exact wp_val (by simp only [execOp, hop, Sem.run_bind, h1]; rfl) (hn _ _ h2)
  case box t x =>
    split at hb
    case h_2 => cases hb
    rename_i v0 hx
    obtain ⟨u', w', h1, h2⟩ := boxB_ok (P := P) (w := w) hr t hb (evo hx)
    exact wp_val (by simp only [execOp, hop, Sem.run_bind, h1]; rfl) (hn _ _ h2)
  case build t ps =>
    split at hb
    case h_2 => cases hb
    rename_i vs hvs
    obtain ⟨h1, rfl⟩ := plain_some hb
    obtain ⟨v', h2, h3⟩ := buildB_ok (w := w) h1 (partsOk_ok e hr.glob hvs)
    have h4 : (ps.map fun (i, x) => (i, a.eval x)) = (ps.toList.map fun (i, x) => (i, a.eval x)).toArray := by apply Array.ext'; simp
    refine wp_val ?_ (hn _ _ (Owe.keep hr h3))
    simp only [execOp, hop, Sem.run_bind]
    rw [h4, h2]
    rfl
  case buildSlice t len ps =>
    split at hb
    case h_2 => cases hb
    rename_i vs hvs
    obtain ⟨v', w', h2, h3⟩ := buildSliceB_ok (w := w) hr hb (partsOk_ok e hr.glob hvs)
    have h4 : (ps.map fun (i, x) => (i, a.eval x)) = (ps.toList.map fun (i, x) => (i, a.eval x)).toArray := by apply Array.ext'; simp
    refine wp_val ?_ (hn _ _ h3)
    simp only [execOp, hop, Sem.run_bind]
    rw [h4, h2]
    rfl
  case load t x =>
    split at hb
    case h_2 => cases hb
    rename_i v0 hx
    obtain ⟨h1, rfl⟩ := plain_some hb
    obtain ⟨v', h2, h3⟩ := loadB_ok (P := P) hr h1 (evo hx)
    exact wp_val (by simp only [execOp, hop, Sem.run_bind, h2]; rfl) (hn _ _ (Owe.keep hr h3))
  case store t x y =>
    split at hb
    case h_2 => cases hb
    rename_i u0 v0 hx hy
    split at hb
    case h_2 => cases hb
    rename_i h' hs
    cases hb
    obtain ⟨w', h2, h3, h4⟩ := storeB_ok hr hs (evo hy) (evo hx)
    exact wp_skip' (by simp only [execOp, hop, Sem.run_bind, h2]; rfl) (hn _ _ ⟨μ, VR.of_pure rfl, h3, h4⟩)
  case nilCheck x =>
    split at hb
    case h_2 => cases hb
    rename_i v0 hx
    obtain ⟨h1, rfl⟩ := plain_some hb
    have hv := evo hx
    have key : VR μ v (a.eval x) ∧ (execOp a.eval o).run P w = .ok (.value (a.eval x)) w := by
      unfold nilCheckB at h1
      simp only [execOp, hop]
      revert hv h1
      generalize a.eval x = q
      intro h1 hv
      cases v0 with
      | pointer p => cases p <;> simp at h1 <;> (subst h1; refine ⟨hv, ?_⟩; simp only [VR] at hv; obtain ⟨_, _, _, rfl⟩ := hv; rfl)
      | slice p _ _ => cases p <;> simp at h1 <;> (subst h1; refine ⟨hv, ?_⟩; simp only [VR] at hv; first | (subst hv; rfl) | (obtain ⟨_, _, _, _, rfl, _⟩ := hv; rfl))
      | map p => cases p <;> simp at h1 <;> (subst h1; refine ⟨hv, ?_⟩; simp only [VR] at hv; first | (subst hv; rfl) | (obtain ⟨_, _, rfl⟩ := hv; rfl))
      | chan p => cases p <;> simp only [VR] at hv <;> simp at h1 <;> (subst h1; refine ⟨by simp only [VR]; exact hv, ?_⟩; subst hv; rfl)
      | func f p q => obtain ⟨p⟩ := p; obtain ⟨q⟩ := q; cases f <;> simp at h1 <;> (subst h1; refine ⟨hv, ?_⟩; simp only [VR] at hv; obtain ⟨_, _, rfl, _⟩ := hv; rfl)
      | iface t y => simp at h1; subst h1; refine ⟨hv, ?_⟩; simp only [VR] at hv; obtain ⟨_, rfl, _⟩ := hv; rfl
      | agg c => simp at h1; subst h1; refine ⟨hv, ?_⟩; obtain ⟨_, rfl, _⟩ := VR.agg_inv hv; rfl
      | tuple c => simp at h1; subst h1; refine ⟨hv, ?_⟩; obtain ⟨_, rfl, _⟩ := VR.tuple_inv hv; rfl
      | nilFunc => simp at h1
      | nilIface => simp at h1
      | _ => simp at h1; subst h1; refine ⟨hv, ?_⟩; simp only [VR] at hv; subst hv; rfl
    exact wp_val key.2 (hn _ _ (Owe.keep hr key.1))
  case binOp op t x y yt =>
    split at hb
    case h_2 => cases hb
    rename_i u0 v0 hx hy
    obtain ⟨h1, rfl⟩ := plain_some hb
    obtain ⟨h2, h3⟩ := binB_ok (w := w) h1 (evo hx) (evo hy) (ev_constOf hx) (ev_constOf hy)
    exact wp_val (by simp only [execOp, hop, Sem.run_bind] at h2 ⊢; rw [h2]; rfl) (hn _ _ (Owe.keep hr (VR.of_pure h3)))
  case unOp op t x =>
    split at hb
    case h_2 => cases hb
    rename_i v0 hx
    obtain ⟨h1, rfl⟩ := plain_some hb
    obtain ⟨h2, h3⟩ := unB_ok (P := P) (w := w) h1 (evo hx)
    exact wp_val (by simp only [execOp, hop, Sem.run_bind, h2]; rfl) (hn _ _ (Owe.keep hr (VR.of_pure h3)))
  case convert s d x =>
    split at hb
    case h_2 => cases hb
    rename_i v0 hx
    have hv := evo hx
    unfold convB at hb
    split at hb
    · rename_i ds k k' m h1 h2
      cases hb
      simp only [VR] at hv
      refine wp_val ?_ (hn _ _ (Owe.keep hr (VR.of_pure rfl)))
      simp only [execOp, hop, Sem.run_bind, convert, hv, run_underlying h1, run_underlying h2, Result.andThen_ok, Conv.intToInt, Sem.run_pure]
    · rename_i ds s h1 h2
      cases hb
      simp only [VR] at hv
      refine wp_val ?_ (hn _ _ (Owe.keep hr (VR.of_pure rfl)))
      simp only [execOp, hop, Sem.run_bind, convert, hv, run_underlying h1, run_underlying h2, Result.andThen_ok, Sem.run_pure]
    · cases hb
  case makeInterface t x =>
    split at hb
    · cases hb
    · rename_i v0 d hno hx hd
      cases hb
      refine wp_val ?_ (hn _ _ (Owe.keep hr (show VR μ (.iface t v0) (.iface t (a.eval x)) by simp only [VR]; exact ⟨_, rfl, evo hx⟩)))
      simp only [execOp, hop, Sem.run_bind, Instr.makeInterface, run_underlying hd, Result.andThen_ok]
      cases d <;> first | rfl | exact absurd hd (hno _ _ hx)
    · cases hb
  case makeFunc fn p q =>
    split at hb
    case h_2 => cases hb
    rename_i p0 q0 hp hq
    cases hb
    refine wp_val (by simp only [execOp, hop, Instr.makeFunc, Sem.run_bind, Sem.run_pure, Result.andThen_ok]; rfl) (hn _ _ (Owe.keep hr ?_))
    simp only [VR]
    exact ⟨p.toList.map a.eval, q.toList.map a.eval, by rw [arr_of rfl, arr_of rfl], evs_ok e hr.glob hp, evs_ok e hr.glob hq⟩
  case makeSlice t l c =>
    split at hb
    case h_2 => cases hb
    rename_i l0 c0 hl hc
    obtain ⟨v', w', h2, h3⟩ := makeSliceB_ok (w := w) hr hb (evo hl) (evo hc)
    exact wp_val (by simp only [execOp, hop, Sem.run_bind, h2]; rfl) (hn _ _ h3)
  case slice t x lo hi mx =>
    cases mx with
    | some m => simp at hb
    | none =>
      simp only at hb
      split at hb
      case h_2 => cases hb
      rename_i v0 l r hx hl hh
      obtain ⟨h1, rfl⟩ := plain_some hb
      obtain ⟨v', h2, h3⟩ := sliceB_ok (P := P) hr h1 (evo hx) (opt_ev e hr.glob hl) (opt_ev e hr.glob hh)
      exact wp_val (by simp only [execOp, hop, Sem.run_bind, Option.map_none, h2]; rfl) (hn _ _ (Owe.keep hr h3))
  case fieldAddr s x f =>
    split at hb
    case h_2 => cases hb
    rename_i v0 hx
    obtain ⟨h1, rfl⟩ := plain_some hb
    obtain ⟨v', h2, h3⟩ := fieldAddrB_ok (w := w) h1 (evo hx)
    exact wp_val (by simp only [execOp, hop, Sem.run_bind, h2]; rfl) (hn _ _ (Owe.keep hr h3))
  case field t x f =>
    split at hb
    case h_2 => cases hb
    rename_i v0 hx
    obtain ⟨h1, rfl⟩ := plain_some hb
    obtain ⟨v', h2, h3⟩ := fieldB_ok (w := w) h1 (evo hx)
    exact wp_val (by simp only [execOp, hop, Sem.run_bind, h2]; rfl) (hn _ _ (Owe.keep hr h3))
  case indexAddr t x i =>
    split at hb
    case h_2 => cases hb
    rename_i v0 i0 hx hi
    obtain ⟨h1, rfl⟩ := plain_some hb
    obtain ⟨v', h2, h3⟩ := indexAddrB_ok (w := w) h1 (evo hx) (evo hi)
    exact wp_val (by simp only [execOp, hop, Sem.run_bind, h2]; rfl) (hn _ _ (Owe.keep hr h3))
  case index t x i =>
    split at hb
    case h_2 => cases hb
    rename_i v0 i0 hx hi
    obtain ⟨h1, rfl⟩ := plain_some hb
    obtain ⟨v', h2, h3⟩ := indexB_ok (w := w) h1 (evo hx) (evo hi)
    exact wp_val (by simp only [execOp, hop, Sem.run_bind, h2]; rfl) (hn _ _ (Owe.keep hr h3))
  case range t x =>
    split at hb
    case h_2 => cases hb
    rename_i v0 hx
    obtain ⟨v', w', h2, h3⟩ := rangeB_ok (P := P) (w := w) hr hb (evo hx)
    exact wp_val (by simp only [execOp, hop, Sem.run_bind, h2]; rfl) (hn _ _ h3)
  case next x b =>
    split at hb
    case h_2 => cases hb
    rename_i v0 hx
    obtain ⟨v', w', h2, h3⟩ := nextB_ok (P := P) (w := w) (t := o.type) hr hb (evo hx)
    exact wp_val (by simp only [execOp, hop, Sem.run_bind, h2]; rfl) (hn _ _ h3)
  case extract x i =>
    split at hb
    case h_2 => cases hb
    rename_i l hx
    obtain ⟨h1, rfl⟩ := plain_some hb
    obtain ⟨c', h2, h3⟩ := VR.tuple_inv (evo hx)
    obtain ⟨v', h4, h5⟩ := h3.at h1
    have h6 : c'[i]? = some v' := by simpa using h4
    exact wp_val (by simp only [execOp, hop, h2, Instr.extract, h6]; rfl) (hn _ _ (Owe.keep hr h5))
  case call c =>
    split at hb
    case h_2 => cases hb
    rename_i args hargs
    have hvs := evs_ok e hr.glob hargs
    obtain ⟨callee, ar, ts⟩ := c
    cases callee with
    | invoke r m => simp at hb
    | builtin b =>
      simp only at hb hvs
      have hrun := builtin_run (P := P) (w := w) (a := a) hop
      unfold builtinB at hb
      split at hb
      · rename_i s0 x0
        simp only [VRL] at hvs
        obtain ⟨s', vs', e1, h1, x', vs2, e2, h2, e3⟩ := hvs
        subst e3 e2
        rw [arr_of e1] at hrun
        obtain ⟨u', w', h3, h4⟩ := appendB_ok (P := P) (w := w) (ty := o.type) hr hb h1 h2
        refine wp_val ?_ (hn _ _ h4)
        rw [hrun]
        simp only [builtin, Sem.run_bind, h3]
        rfl
      · rename_i x0
        simp only [VRL] at hvs
        obtain ⟨x', vs', e1, h1, e3⟩ := hvs
        subst e3
        rw [arr_of e1] at hrun
        split at hb
        case h_2 => cases hb
        rename_i t ht
        rw [Option.map_eq_some_iff] at hb
        obtain ⟨u, hu, h5⟩ := hb
        cases h5
        obtain ⟨h3, h4⟩ := lenOpB_ok (P := P) (w := w) (ty := o.type) hr hu h1 ts ht
        refine wp_val ?_ (hn _ _ (Owe.keep hr (VR.of_pure h4)))
        rw [hrun]
        simp only [builtin, Sem.run_bind, h3]
        rfl
      · rename_i x0 xs0
        simp only [VRL] at hvs
        obtain ⟨x', vs', e1, h1, h2⟩ := hvs
        rw [arr_of e1] at hrun
        rw [Option.map_eq_some_iff] at hb
        obtain ⟨u, hu, h5⟩ := hb
        cases h5
        obtain ⟨r', h3, h4⟩ := foldB_ok (P := P) (w := w) (mx := true) _ _ _ _ _ hu h1 h2
        refine wp_val ?_ (hn _ _ (Owe.keep hr h4))
        rw [hrun]
        simp only at h3
        simp only [builtin, Builtin.max_, Sem.run_bind, h3]
        rfl
      · rename_i x0 xs0
        simp only [VRL] at hvs
        obtain ⟨x', vs', e1, h1, h2⟩ := hvs
        rw [arr_of e1] at hrun
        rw [Option.map_eq_some_iff] at hb
        obtain ⟨u, hu, h5⟩ := hb
        cases h5
        obtain ⟨r', h3, h4⟩ := foldB_ok (P := P) (w := w) (mx := false) _ _ _ _ _ hu h1 h2
        refine wp_val ?_ (hn _ _ (Owe.keep hr h4))
        rw [hrun]
        simp only at h3
        simp only [builtin, Builtin.min_, Sem.run_bind, h3]
        rfl
      · cases hb
    | value f =>
      simp only at hb hvs
      split at hb
      case h_2 => cases hb
      rename_i fv hfv
      have hv := evo hfv
      unfold callB at hb
      split at hb
      case h_2 => cases hb
      rename_i g first captured
      split at hb
      case h_2 => cases hb
      rename_i fn hf
      simp only [VR] at hv
      obtain ⟨f', c', hfe, h1, h2⟩ := hv
      split at hb
      · rename_i body hbody
        have hcall := horc g _ h v ho hb μ w (f' ++ ar.toList.map a.eval ++ c') hr ((h1.append hvs).append h2)
        unfold Oper.wp
        rw [call_run hname hf (by rw [hbody]; rfl) hfe hop]
        refine hcall.mono ?_
        rintro e' w' ⟨v', rfl, h3⟩
        exact hn _ _ h3
      · rename_i hbody
        split at hb
        case h_2 => cases hb
        rename_i x hx
        rw [Option.map_eq_some_iff] at hb
        obtain ⟨u, hu, h5⟩ := hb
        cases h5
        obtain ⟨hf1, hf2⟩ := hext g x fn hx hf
        obtain ⟨v', h6, h7⟩ := externB_ok (P := P) (w := w) hu ((h1.append hvs).append h2)
        refine wp_val ?_ (hn _ _ (Owe.keep hr h7))
        rw [extern_run hname hf hbody hf1 hf2 hfe hop, h6]
        rfl

end
end Go.Proofs.YtlccfcbifplhkaaGreatDoor.V
