/- Functions that defer calls, recover and panic: the small machine's way through them, and that it agrees with the model's. Conditions: none. -/
import Derived.Test.YtelimgiehdfblaaGreatDoorVn
import Derived.RecoverIn
namespace Go.Proofs.YtelimgiehdfblaaGreatDoor.V
set_option linter.all false
open Go

/-- A deferred call: its function, all its arguments. -/
structure Dfr where
  g : FuncId
  args : List Value

inductive DOut where
  | norm (o : Out)
  | pan (v : Value)

/-- Of calls that panic: the panic's value, and memory where it has turned. -/
abbrev DR := Option (DOut × T (Option Value) × AH × List Dfr)

noncomputable section
section
variable (P : Program)

def fnB (fv : Value) (args : List Value) : Option (FuncId × List Value) := match fv with
  | .func (.func g) ⟨first⟩ ⟨captured⟩ => match P.funcs[g]? with
    | some fn => match fn.body with
      | some _ => some (g, first ++ args ++ captured)
      | none => none
    | none => none
  | _ => none

variable (G : Nat) (ext : FuncId → Option Ext) (orc por : Orc) (n fuel : Nat)

def callD (env : T (Option Value)) (c : Call) : Option (FuncId × List Value) := match c.callee with
  | .value f => match ev G n env f, evs G n env c.args.toList with
    | some fv, some args => fnB P fv args
    | _, _ => none
  | _ => none

/-- A call that panics. -/
def panO (env : T (Option Value)) (h : AH) (op : Op) : R := match op with
  | .call c => match callD P G n env c with
    | some (g, l) => por g l h
    | none => none
  | _ => none

def opsD (ops : Array Oper) : List Oper → T (Option Value) → AH → List Dfr → DR
  | [], env, h, ds => some (.norm .normal, env, h, ds)
  | o :: os, env, h, ds => match wantedB n ops o env with
    | none => none
    | some false => match putE n o.dst undef env with
      | some env' => opsD ops os env' h ds
      | none => none
    | some true => match o.op with
      | .defer c => match callD P G n env c, putE n o.dst undef env with
        | some (g, l), some env' => opsD ops os env' h (⟨g, l⟩ :: ds)
        | _, _ => none
      | .panic x => match ev G n env x with
        | some (.iface t v) => some (.pan (.iface t v), env, h, ds)
        | _ => none
      | _ => match opB P G ext orc n o env h with
        | some (v, ho) => match putE n o.dst v env with
          | some env' => opsD ops os env' (ho.getD h) ds
          | none => none
        | none => match panO P G por n env h o.op with
          | some (v, ho) => some (.pan v, env, ho.getD h, ds)
          | none => none

def iterD (body : T (Option Value) → AH → List Dfr → DR) : Nat → T (Option Value) → AH → List Dfr → DR
  | 0, _, _, _ => none
  | k + 1, env, h, ds => match body env h ds with
    | some (.norm .normal, env', h', ds') => iterD body k env' h' ds'
    | r => r

def leafD (c : Code) (env : T (Option Value)) (h : AH) (ds : List Dfr) : DR := match noFunc c, codeB P G ext orc n fuel c env h with
  | true, some (o, env', h') => some (.norm o, env', h', ds)
  | _, _ => none

def codeD : Code → T (Option Value) → AH → List Dfr → DR
  | .region _ ops false, env, h, ds => opsD P G ext orc por n ops ops.toList env h ds
  | .seq a b, env, h, ds => match codeD a env h ds with
    | some (.norm .normal, env', h', ds') => codeD b env' h' ds'
    | r => r
  | .cond c a b, env, h, ds => match ev G n env c with
    | some (.bool true) => codeD a env h ds
    | some (.bool false) => codeD b env h ds
    | _ => none
  | .block id c, env, h, ds => match codeD c env h ds with
    | some (.norm (.exit j), env', h', ds') => match Nat.beq j id with | true => some (.norm .normal, env', h', ds') | false => some (.norm (.exit j), env', h', ds')
    | r => r
  | .loop c, env, h, ds => iterD (codeD c) fuel env h ds
  | c, env, h, ds => leafD P G ext orc n fuel c env h ds

/-- How a function that leaves stands: it returns; it panics; it has recovered. -/
inductive SMode where
  | ret
  | pan (v : Value)
  | rcv

def isRec : Op → Bool
  | .call c => match c.callee with | .builtin .recover => true | _ => false
  | _ => false

def opsS : List Oper → T (Option Value) → SMode → Option (T (Option Value) × SMode)
  | [], env, m => some (env, m)
  | o :: os, env, m => match o.guard with
    | some _ => none
    | none => match isRec o.op with
      | true => match m with
        | .pan v => match putE n o.dst v env with | some env' => opsS os env' .rcv | none => none
        | m => match putE n o.dst .nilIface env with | some env' => opsS os env' m | none => none
      | false => match o.op with
        | .assign x => match ev G n env x with
          | some v => match putE n o.dst v env with | some env' => opsS os env' m | none => none
          | none => none
        | .move x => match ev G n env x with
          | some v => match putE n o.dst v env with | some env' => opsS os env' m | none => none
          | none => none
        | _ => none

abbrev SR := Option (Out × T (Option Value) × AH × SMode)
def leafS (c : Code) (env : T (Option Value)) (h : AH) (m : SMode) : SR := match noFunc c, codeB P G ext orc n fuel c env h with
  | true, some (o, env', h') => some (o, env', h', m)
  | _, _ => none

def codeS : Code → T (Option Value) → AH → SMode → SR
  | .region id ops false, env, h, m => match ops.toList.any (fun o => isRec o.op) with
    | true => match opsS G n ops.toList env m with
      | some (env', m') => some (.normal, env', h, m')
      | none => none
    | false => leafS P G ext orc n fuel (.region id ops false) env h m
  | .seq a b, env, h, m => match codeS a env h m with
    | some (.normal, env', h', m') => codeS b env' h' m'
    | r => r
  | .cond c a b, env, h, m => match ev G n env c with
    | some (.bool true) => codeS a env h m
    | some (.bool false) => codeS b env h m
    | _ => none
  | c, env, h, m => leafS P G ext orc n fuel c env h m

end

section
variable (P : Program) (G : Nat) (ext : FuncId → Option Ext) (fuel : Nat) (orc por : Orc)

/-- A deferred call is made. -/
def bodyS (g : FuncId) (args : List Value) (h : AH) (m : SMode) : Option (AH × SMode) := match P.funcs[g]? with
  | some fn => match fn.body with
    | some c => match Nat.ble args.length fn.ntmps, Nat.ble fn.ntmps 4096 with
      | true, true => match codeS P G ext orc fn.ntmps fuel c (setArgs args 0 (.leaf (some undef))) h m with
        | some (.normal, env', h', m') => match resB P fn.ntmps env' h' fn.results.toList with | some _ => some (h', m') | none => none
        | some (.ret, env', h', m') => match resB P fn.ntmps env' h' fn.results.toList with | some _ => some (h', m') | none => none
        | _ => none
      | _, _ => none
    | none => none
  | none => none

def SMode.settle : SMode → SMode
  | .rcv => .ret
  | m => m

def leaveD : List Dfr → AH → SMode → Option (AH × SMode)
  | [], h, m => some (h, m)
  | d :: ds, h, m => match bodyS P G ext fuel orc d.g d.args h m with
    | some (h', m') => leaveD ds h' m'.settle
    | none => none

def DOut.start : DOut → Option SMode
  | .norm .normal => some .ret
  | .norm .ret => some .ret
  | .pan v => some (.pan v)
  | _ => none

inductive BRes where
  | val (v : Value)
  | pan (v : Value)

/-- A call of a function that may defer calls and panic, by its body. -/
def bodyD (g : FuncId) (args : List Value) (h : AH) : Option (BRes × AH) := match P.funcs[g]? with
  | some fn => match fn.body with
    | some c => match Nat.ble args.length fn.ntmps, Nat.ble fn.ntmps 4096 with
      | true, true => match codeD P G ext orc por fn.ntmps fuel c (setArgs args 0 (.leaf (some undef))) h [] with
        | some (out, env', h1, ds) => match out.start with
          | some m => match leaveD P G ext fuel orc ds h1 m with
            | some (h2, .ret) => (resB P fn.ntmps env' h2 fn.results.toList).map fun vs => (.val (resV vs), h2)
            | some (h2, .pan v) => some (.pan v, h2)
            | _ => none
          | none => none
        | none => none
      | _, _ => none
    | none => none
  | none => none

def mutD : Orc := fun g args h => match bodyD P G ext fuel orc por g args h with
  | some (.val v, h') => some (v, some h')
  | _ => none
def overD : Orc := fun g args h => match bodyD P G ext fuel orc por g args h.locked with
  | some (.val v, h') => match pureV v with
    | true => some (v, none)
    | false => some (v, some { h' with lock := h.lock })
  | _ => none
def panD : Orc := fun g args h => match bodyD P G ext fuel orc por g args h with
  | some (.pan v, h') => some (v, some h')
  | _ => none

/-- Calls within calls, panics and deferred calls let in: 'mt' as ever (3: deferred calls, callers' blocks may be written; 4: deferred calls, they are not), 'pt' tells the functions that may panic. -/
def deepX (base : Orc) (mt : FuncId → Nat) (pt : FuncId → Bool) : Nat → Orc × Orc
  | 0 => (fun g args h => match Nat.beq g yid with
    | true => none
    | false => base g args h, fun _ _ _ => none)
  | d + 1 => (fun g args h => match Nat.beq g yid with
    | true => match P.funcs[yid]? with
      | none => yieldB P G ext fuel (deepX base mt pt d).1 args h
      | some _ => none
    | false => match base g args h with
      | some r => some r
      | none => match mt g with
        | 0 => overB P G ext fuel (deepX base mt pt d).1 g args h
        | 1 => match Nat.beq h.lock h.next with
          | true => none
          | false => mutB P G ext fuel (deepX base mt pt d).1 g args h
        | 3 => match Nat.beq h.lock h.next with
          | true => none
          | false => mutD P G ext fuel (deepX base mt pt d).1 (deepX base mt pt d).2 g args h
        | 4 => overD P G ext fuel (deepX base mt pt d).1 (deepX base mt pt d).2 g args h
        | _ => match Nat.beq h.lock h.next with
          | true => overB P G ext fuel (deepX base mt pt d).1 g args h
          | false => mutB P G ext fuel (deepX base mt pt d).1 g args h,
    fun g args h => match pt g with
      | true => panD P G ext fuel (deepX base mt pt d).1 (deepX base mt pt d).2 g args h
      | false => none)
end
end

section
variable {P : Program} {Z : AH} {G n fuel : Nat} {ext : FuncId → Option Ext} {orc por : Orc}

/-- What a call that panics owes. -/
def PorOK (P : Program) (Z : AH) (G : Nat) (por : Orc) : Prop :=
  ∀ (g : FuncId) (args : List Value) (h : AH) (v : Value) (ho : Option AH), por g args h = some (v, ho) → ∀ (μ : Mu) (w : World) (args' : List Value), HR Z G μ h w → VRL μ args args' →
    Calls P g args'.toArray w fun e w' => ∃ v', e = .panicked [{ v := v', recovered := false }] ∧ Owe Z G μ h w v ho v' w'

def DfrR (P : Program) (μ : Mu) (d : Dfr) (D : Deferred) : Prop :=
  ∃ (cap as : List Value), D = { target := .fn (.func d.g) ⟨cap⟩, args := ⟨as⟩ } ∧ VRL μ d.args (as ++ cap) ∧ ∃ fn c, P.funcs[d.g]? = some fn ∧ fn.body = some c
def DfrL (P : Program) (μ : Mu) : List Dfr → List Deferred → Prop
  | [], l => l = []
  | d :: ds, l => ∃ D Ds, l = D :: Ds ∧ DfrR P μ d D ∧ DfrL P μ ds Ds

theorem DfrL.mono {μ ν : Mu} (hle : μ.le ν) : ∀ {ds : List Dfr} {Ds : List Deferred}, DfrL P μ ds Ds → DfrL P ν ds Ds
  | [], _, h => h
  | d :: ds, l, h => by
    obtain ⟨D, Ds, h1, ⟨cap, as, h2, h3, h4⟩, h5⟩ := h
    exact ⟨D, Ds, h1, ⟨cap, as, h2, h3.mono hle, h4⟩, h5.mono hle⟩

theorem fnB_ok {μ : Mu} {fv fv' : Value} {args args' : List Value} {g : FuncId} {l : List Value} (h : fnB P fv args = some (g, l)) (hf : VR μ fv fv') (ha : VRL μ args args') :
    ∃ first captured fn c, fv' = .func (.func g) ⟨first⟩ ⟨captured⟩ ∧ P.funcs[g]? = some fn ∧ fn.body = some c ∧ VRL μ l (first ++ args' ++ captured) := by
  unfold fnB at h
  split at h
  case h_2 => cases h
  split at h
  case h_2 => cases h
  rename_i fn hfn
  split at h
  case h_2 => cases h
  rename_i c hc
  cases h
  simp only [VR, FnR] at hf
  obtain ⟨_, f', c', hfe, rfl, h1, h2⟩ := hf
  exact ⟨f', c', fn, c, hfe, hfn, hc, (h1.append ha).append h2⟩

theorem callD_ok {μ : Mu} {env : T (Option Value)} {a : Act} {c : Call} {g : FuncId} {l : List Value} (hc : callD P G n env c = some (g, l)) (he : EnvOK μ n env a) (hg : ∀ g, g < G → ∃ l, μ g = some l ∧ l.b = g ∧ l.o = 0) :
    ∃ f first captured fn cd, c.callee = .value f ∧ a.eval f = .func (.func g) ⟨first⟩ ⟨captured⟩ ∧ P.funcs[g]? = some fn ∧ fn.body = some cd ∧ VRL μ l (first ++ c.args.toList.map a.eval ++ captured) := by
  unfold callD at hc
  split at hc
  case h_2 => cases hc
  rename_i f hcal
  split at hc
  case h_2 => cases hc
  rename_i fv args hfv hargs
  obtain ⟨first, captured, fn, cd, h1, h2, h3, h4⟩ := fnB_ok hc (ev_ok hfv he hg) (evs_ok he hg hargs)
  exact ⟨f, first, captured, fn, cd, hcal, h1, h2, h3, h4⟩

theorem defer_run {o : Oper} {c : Call} {a : Act} {w : World} {f : Operand} {g : FuncId} {first captured : List Value} (hop : o.op = .defer c) (hf : c.callee = .value f) (hv : a.eval f = .func (.func g) ⟨first⟩ ⟨captured⟩) :
    (execOp a.eval o).run P w = .ok (.defer { target := .fn (.func g) ⟨captured⟩, args := ⟨first ++ c.args.toList.map a.eval⟩ }) w := by
  have h1 : (⟨first⟩ : Array Value) ++ c.args.map a.eval = ⟨first ++ c.args.toList.map a.eval⟩ := by
    apply Array.ext'
    simp
  simp only [execOp, hop, resolve, hf, hv, Deferred.ofValue, Sem.run_bind, Sem.run_pure, Result.andThen_ok, h1]

theorem invoke_run {w : World} {g : FuncId} {fn : Func} (hname : NoNum P) (hf : P.funcs[g]? = some fn) (hb : fn.body.isNone = false) {as cap : List Value} :
    (invoke (.fn (.func g) ⟨cap⟩) ⟨as⟩).run P w = .ok (.enter g (as ++ cap).toArray) w := by
  have h1 := hname g fn hf
  simp only [invoke, callFunc, run_program, Sem.run_bind, Result.andThen_ok, hf, h1, Bool.false_eq_true, if_false, hb, Sem.run_pure]
  congr 2
  apply Array.ext'
  simp

def outQ (μ : Mu) (out : DOut) (Q : Exit → Act → World → Prop) (a : Act) (w : World) : Prop := match out with
  | .norm o => Q o.toExit a w
  | .pan v => ∀ v', VR μ v v' → Q (.panic [{ v := v', recovered := false }]) a w

def CodeOKD (P : Program) (Z : AH) (G n : Nat) (c : Code) (env : T (Option Value)) (h : AH) (ds : List Dfr) (out : DOut) (env' : T (Option Value)) (h' : AH) (ds' : List Dfr) : Prop :=
  ∀ (μ : Mu) (a : Act) (w : World) (Q : Exit → Act → World → Prop), HR Z G μ h w → EnvOK μ n env a → DfrL P μ ds a.defers →
    (∀ μ' a' w', HR Z G μ' h' w' → EnvOK μ' n env' a' → FR h μ w h' μ' w' → DfrL P μ' ds' a'.defers → outQ μ' out Q a' w') → c.wpIn (Fr none) 0 P Q a w

theorem opsD_go (horc : OrcOK P Z G orc) (hpor : PorOK P Z G por) (hext : ExtOK P ext) (hname : NoNum P) {ops : Array Oper} {Q : Exit → Act → World → Prop} : ∀ (os : List Oper) (k : Nat) (env : T (Option Value)) (h : AH) (ds : List Dfr) (out : DOut) (env' : T (Option Value)) (h' : AH) (ds' : List Dfr),
    ops.toList.drop k = os → opsD P G ext orc por n ops os env h ds = some (out, env', h', ds') → ∀ (μ : Mu) (a : Act) (w : World), HR Z G μ h w → EnvOK μ n env a → DfrL P μ ds a.defers →
    (∀ μ' a' w', HR Z G μ' h' w' → EnvOK μ' n env' a' → FR h μ w h' μ' w' → DfrL P μ' ds' a'.defers → outQ μ' out Q a' w') → wpOpsIn (Fr none) 0 P ops Q (List.range' k os.length) a w
  | [], k, env, h, ds, out, env', h', ds', hd, hb => by
    intro μ a w hr he hdf hq
    simp only [opsD, Option.some.injEq, Prod.mk.injEq] at hb
    obtain ⟨rfl, rfl, rfl, rfl⟩ := hb
    exact hq μ a w hr he (FR.refl _ _ _) hdf
  | o :: os, k, env, h, ds, out, env', h', ds', hd, hb => by
    intro μ a w hr he hdf hq
    have hk : ops[k]? = some o := by
      have := congrArg (·[0]?) hd
      simpa using this
    have hd' : ops.toList.drop (k + 1) = os := by
      rw [← List.drop_drop, hd]; rfl
    rw [List.length_cons, List.range'_succ]
    simp only [wpOpsIn, hk]
    have hdef : ∀ (a : Act) v, (a.put o.dst v).defers = a.defers := fun a v => by cases o.dst <;> rfl
    simp only [opsD] at hb
    split at hb
    · cases hb
    · rename_i hw
      rw [wanted_ok hw he, if_neg (by simp)]
      split at hb
      case h_2 => cases hb
      rename_i env1 hput
      refine ⟨fun _ _ => trivial, ?_⟩
      exact opsD_go horc hpor hext hname os (k + 1) _ _ _ _ _ _ _ hd' hb μ _ w hr (putE_ok hput he (VR.of_pure rfl)) (by rw [hdef]; exact hdf) hq
    · rename_i hw
      rw [wanted_ok hw he, if_pos rfl]
      split at hb
      · rename_i c hop
        split at hb
        case h_2 => cases hb
        rename_i g l env1 hcall hput
        obtain ⟨f, first, captured, fn, cd, h1, h2, h3, h4, h5⟩ := callD_ok hcall he hr.glob
        refine ⟨fun _ _ => trivial, ?_⟩
        rw [show (Fr none).round = Option.none from rfl, Oper.semAt_none, defer_run hop h1 h2, Oper.uponIn_defer]
        have hput2 := putE_ok (a := { a with defers := ({ target := .fn (.func g) ⟨captured⟩, args := ⟨first ++ c.args.toList.map a.eval⟩ } : Deferred) :: a.defers }) hput ⟨he.size, he.le, he.fits, he.at_⟩ (VR.of_pure (show pureV undef = true from rfl))
        refine opsD_go horc hpor hext hname os (k + 1) _ _ _ _ _ _ _ hd' hb μ _ w hr hput2 ?_ hq
        rw [hdef]
        exact ⟨_, _, rfl, ⟨captured, first ++ c.args.toList.map a.eval, rfl, h5, fn, cd, h3, h4⟩, hdf⟩
      · rename_i x hop
        split at hb
        case h_2 => cases hb
        rename_i t v hx
        simp only [Option.some.injEq, Prod.mk.injEq] at hb
        obtain ⟨rfl, rfl, rfl, rfl⟩ := hb
        have hv := ev_ok hx he hr.glob
        have hv' := hv
        simp only [VR] at hv'
        obtain ⟨u, hu, _⟩ := hv'
        refine ⟨fun _ _ => trivial, ?_⟩
        have hrun : (execOp a.eval o).run P w = .halt (.panic (a.eval x)) w := by
          simp only [execOp, hop, hu, Instr.panic, goPanic]
          rfl
        rw [show (Fr none).round = Option.none from rfl, Oper.semAt_none, hrun, Oper.uponIn_panic]
        exact hq μ a w hr he (FR.refl _ _ _) hdf _ hv
      · split at hb
        · rename_i v ho hop
          split at hb
          case h_2 => cases hb
          rename_i env1 hput
          refine (opB_Fr none hr he horc hext hname hop ?_)
          rintro v' w' ⟨ν, hv, hr1, hf1⟩
          refine opsD_go horc hpor hext hname os (k + 1) _ _ _ _ _ _ _ hd' hb ν _ w' hr1 (putE_ok hput (he.mono hf1.le) hv) (by rw [hdef]; exact hdf.mono hf1.le) ?_
          intro μ2 a2 w2 hr2 he2 hf2 hd2
          exact hq μ2 a2 w2 hr2 he2 (hf1.trans hf2) hd2
        · split at hb
          case h_2 => cases hb
          rename_i v ho hpan
          simp only [Option.some.injEq, Prod.mk.injEq] at hb
          obtain ⟨rfl, rfl, rfl, rfl⟩ := hb
          unfold panO at hpan
          split at hpan
          case h_2 => cases hpan
          rename_i c hop
          split at hpan
          case h_2 => cases hpan
          rename_i g l hcall
          obtain ⟨f, first, captured, fn, cd, h1, h2, h3, h4, h5⟩ := callD_ok hcall he hr.glob
          obtain ⟨callee, ar, ts⟩ := c
          simp only at h1 h5
          subst h1
          have hC := hpor g l h v ho hpan μ w _ hr h5
          refine wpIn_call (call_run hname h3 (by rw [h4]; rfl) h2 hop) (hC.mono ?_)
          rintro e w' ⟨v', rfl, ν, hv, hr1, hf1⟩
          exact hq ν a w' hr1 (he.mono hf1.le) hf1 (hdf.mono hf1.le) _ hv

theorem codeD_ok (horc : OrcOK P Z G orc) (hpor : PorOK P Z G por) (hext : ExtOK P ext) (hname : NoNum P) (hmix : P.follows .mixedOrders = true) : ∀ (c : Code) env h ds out env' h' ds', codeD P G ext orc por n fuel c env h ds = some (out, env', h', ds') → CodeOKD P Z G n c env h ds out env' h' ds' := by
  have leaf : ∀ (c : Code) env h ds out env' h' ds', leafD P G ext orc n fuel c env h ds = some (out, env', h', ds') → CodeOKD P Z G n c env h ds out env' h' ds' := by
    intro c env h ds out env' h' ds' hc μ a w Q hr he hdf hq
    unfold leafD at hc
    split at hc
    case h_2 => cases hc
    rename_i o env1 h1 hnf hb
    simp only [Option.some.injEq, Prod.mk.injEq] at hc
    obtain ⟨rfl, rfl, rfl, rfl⟩ := hc
    refine codeB_ok none horc hext hname hmix c (.inl rfl) _ _ _ _ _ hb μ a w Q hr he ?_
    intro μ1 a1 w1 hr1 he1 hf1 hd1
    rw [hnf] at hd1
    exact hq μ1 a1 w1 hr1 he1 hf1 (by rw [hd1.none]; exact hdf.mono hf1.le)
  intro c
  induction c with
  | skip => intro env h ds out env' h' ds' hc; exact leaf _ _ _ _ _ _ _ _ hc
  | region id ops draw =>
    intro env h ds out env' h' ds' hc
    cases draw with
    | true => exact leaf _ _ _ _ _ _ _ _ hc
    | false =>
      intro μ a w Q hr he hdf hq
      refine wpIn_region ?_
      have := opsD_go horc hpor hext hname ops.toList 0 _ _ _ _ _ _ _ rfl hc μ a w hr he hdf hq
      rw [List.range_eq_range']
      simpa using this
  | seq x y ihx ihy =>
    intro env h ds out env' h' ds' hc μ a w Q hr he hdf hq
    simp only [codeD] at hc
    split at hc
    · rename_i env1 h1 ds1 hb
      refine wpIn_seq (ihx _ _ _ _ _ _ _ hb μ a w _ hr he hdf ?_)
      intro μ1 a1 w1 hr1 he1 hf1 hd1
      show y.wpIn (Fr none) 0 P Q a1 w1
      refine ihy _ _ _ _ _ _ _ hc μ1 a1 w1 Q hr1 he1 hd1 ?_
      intro μ2 a2 w2 hr2 he2 hf2 hd2
      exact hq μ2 a2 w2 hr2 he2 (hf1.trans hf2) hd2
    · rename_i hno
      refine wpIn_seq (ihx _ _ _ _ _ _ _ hc μ a w _ hr he hdf ?_)
      intro μ1 a1 w1 hr1 he1 hf1 hd1
      have := hq μ1 a1 w1 hr1 he1 hf1 hd1
      cases out with
      | pan v => exact this
      | norm o => cases o with
        | normal => exact absurd hc (hno _ _ _)
        | exit id => exact this
        | ret => exact this
  | cond c x y ihx ihy =>
    intro env h ds out env' h' ds' hc μ a w Q hr he hdf hq
    simp only [codeD] at hc
    split at hc
    · rename_i hv
      have := ev_ok hv he hr.glob
      simp only [VR] at this
      exact wpIn_cond_true this (ihx _ _ _ _ _ _ _ hc μ a w Q hr he hdf hq)
    · rename_i hv
      have := ev_ok hv he hr.glob
      simp only [VR] at this
      exact wpIn_cond_false this (ihy _ _ _ _ _ _ _ hc μ a w Q hr he hdf hq)
    · cases hc
  | block id c ih =>
    intro env h ds out env' h' ds' hc μ a w Q hr he hdf hq
    simp only [codeD] at hc
    split at hc
    · rename_i j env1 h1 ds1 hb
      refine wpIn_block (ih _ _ _ _ _ _ _ hb μ a w _ hr he hdf ?_)
      intro μ1 a1 w1 hr1 he1 hf1 hd1
      split at hc
      · rename_i hj
        simp only [Option.some.injEq, Prod.mk.injEq] at hc
        obtain ⟨rfl, rfl, rfl, rfl⟩ := hc
        show (if j = id then Q .normal a1 w1 else Q (.exit j) a1 w1)
        rw [if_pos (beq_iff.1 hj)]
        exact hq μ1 a1 w1 hr1 he1 hf1 hd1
      · rename_i hj
        simp only [Option.some.injEq, Prod.mk.injEq] at hc
        obtain ⟨rfl, rfl, rfl, rfl⟩ := hc
        show (if j = id then Q .normal a1 w1 else Q (.exit j) a1 w1)
        rw [if_neg (fun h => by rw [beq_iff.2 h] at hj; cases hj)]
        exact hq μ1 a1 w1 hr1 he1 hf1 hd1
    · rename_i hno
      refine wpIn_block (ih _ _ _ _ _ _ _ hc μ a w _ hr he hdf ?_)
      intro μ1 a1 w1 hr1 he1 hf1 hd1
      have := hq μ1 a1 w1 hr1 he1 hf1 hd1
      cases out with
      | pan v => exact this
      | norm o => cases o with
        | exit id => exact absurd hc (hno _ _ _ _)
        | normal => exact this
        | ret => exact this
  | loop c ih =>
    intro env h ds out env' h' ds' hc μ a w Q hr he hdf hq
    simp only [codeD] at hc
    refine wpIn_loop_rounds fuel ?_
    have go : ∀ k env h ds, iterD (codeD P G ext orc por n fuel c) k env h ds = some (out, env', h', ds') → ∀ (μ : Mu) (a : Act) (w : World), HR Z G μ h w → EnvOK μ n env a → DfrL P μ ds a.defers →
        (∀ μ' a' w', HR Z G μ' h' w' → EnvOK μ' n env' a' → FR h μ w h' μ' w' → DfrL P μ' ds' a'.defers → outQ μ' out Q a' w') → Code.roundsIn (Fr none) 0 P c Q k a w := by
      intro k
      induction k with
      | zero => intro env h ds hi; simp [iterD] at hi
      | succ k ihk =>
        intro env h ds hi μ a w hr he hdf hq
        simp only [iterD] at hi
        rw [roundsIn_succ]
        split at hi
        · rename_i env1 h1 ds1 hb
          refine ih _ _ _ _ _ _ _ hb μ a w _ hr he hdf ?_
          intro μ1 a1 w1 hr1 he1 hf1 hd1
          show Code.roundsIn (Fr none) 0 P c Q k a1 w1
          refine ihk _ _ _ hi μ1 a1 w1 hr1 he1 hd1 ?_
          intro μ2 a2 w2 hr2 he2 hf2 hd2
          exact hq μ2 a2 w2 hr2 he2 (hf1.trans hf2) hd2
        · rename_i hno
          refine ih _ _ _ _ _ _ _ hi μ a w _ hr he hdf ?_
          intro μ1 a1 w1 hr1 he1 hf1 hd1
          have := hq μ1 a1 w1 hr1 he1 hf1 hd1
          cases out with
          | pan v => exact this
          | norm o => cases o with
            | normal => exact absurd hi (hno _ _ _)
            | exit id => exact this
            | ret => exact this
    exact go fuel _ _ _ hc μ a w hr he hdf hq
  | rangeFunc f ps x y => intro env h ds out env' h' ds' hc; exact leaf _ _ _ _ _ _ _ _ hc
  | exit id => intro env h ds out env' h' ds' hc; exact leaf _ _ _ _ _ _ _ _ hc
  | scope c ih => intro env h ds out env' h' ds' hc; exact leaf _ _ _ _ _ _ _ _ hc
  | label l => intro env h ds out env' h' ds' hc; exact leaf _ _ _ _ _ _ _ _ hc
  | goto l => intro env h ds out env' h' ds' hc; exact leaf _ _ _ _ _ _ _ _ hc
  | ret => intro env h ds out env' h' ds' hc; exact leaf _ _ _ _ _ _ _ _ hc
  | refuse why => intro env h ds out env' h' ds' hc; exact leaf _ _ _ _ _ _ _ _ hc

/-! Deferred calls. -/
def MR (μ : Mu) : SMode → FrameMode → Prop
  | .ret, u => u = .returning
  | .pan v, u => ∃ v', VR μ v v' ∧ u = .panicking [{ v := v', recovered := false }]
  | .rcv, u => ∃ v', u = .panicking [{ v := v', recovered := true }]

theorem MR.mono {μ ν : Mu} (hle : μ.le ν) {m : SMode} {u : FrameMode} (h : MR μ m u) : MR ν m u := by
  cases m with
  | ret => exact h
  | pan v => obtain ⟨v', h1, h2⟩ := h; exact ⟨v', h1.mono hle, h2⟩
  | rcv => exact h
theorem MR.settle {μ : Mu} {m : SMode} {u : FrameMode} (h : MR μ m u) : MR μ m.settle (settle u) := by
  cases m with
  | ret => cases h; rfl
  | pan v => obtain ⟨v', h1, rfl⟩ := h; exact ⟨v', h1, rfl⟩
  | rcv => obtain ⟨v', rfl⟩ := h; rfl
theorem MR.run {μ : Mu} {m : SMode} {u : FrameMode} (h : MR μ m u) : u ≠ .run := by
  cases m with
  | ret => cases h; simp
  | pan v => obtain ⟨v', h1, rfl⟩ := h; simp
  | rcv => obtain ⟨v', rfl⟩ := h; simp

theorem isRec_run {o : Oper} {a : Act} {w : World} (h : isRec o.op = true) : (execOp a.eval o).run P w = .ok .recover w := by
  unfold isRec at h
  split at h
  · rename_i c hop
    split at h
    · rename_i hc
      obtain ⟨callee, ar, ts⟩ := c
      simp only at hc
      subst hc
      rw [builtin_run (P := P) (w := w) (a := a) hop]
      rfl
    · cases h
  · cases h

theorem opsS_ok {μ : Mu} {ops : Array Oper} {w : World} {c₀ : Frame} {cs : List Frame} {Q : Exit → Act → List Frame → World → Prop} (hg : ∀ g, g < G → ∃ l, μ g = some l ∧ l.b = g ∧ l.o = 0) : ∀ (os : List Oper) (k : Nat) (env : T (Option Value)) (m : SMode) (env' : T (Option Value)) (m' : SMode),
    ops.toList.drop k = os → opsS G n os env m = some (env', m') → ∀ (a : Act) (u : FrameMode), EnvOK μ n env a → MR μ m u →
    (∀ a' u', EnvOK μ n env' a' → a'.defers = a.defers → MR μ m' u' → Q .normal a' ({ c₀ with mode := u' } :: cs) w) → wpOpsSIn (Fr none) 0 P ops Q (List.range' k os.length) a ({ c₀ with mode := u } :: cs) w
  | [], k, env, m, env', m', hd, hb => by
    intro a u he hm hq
    simp only [opsS, Option.some.injEq, Prod.mk.injEq] at hb
    obtain ⟨rfl, rfl⟩ := hb
    exact hq a u he rfl hm
  | o :: os, k, env, m, env', m', hd, hb => by
    intro a u he hm hq
    have hk : ops[k]? = some o := by
      have := congrArg (·[0]?) hd
      simpa using this
    have hd' : ops.toList.drop (k + 1) = os := by
      rw [← List.drop_drop, hd]; rfl
    have hdef : ∀ (a : Act) v, (a.put o.dst v).defers = a.defers := fun a v => by cases o.dst <;> rfl
    rw [List.length_cons, List.range'_succ]
    simp only [wpOpsSIn, hk]
    simp only [opsS] at hb
    split at hb
    · cases hb
    rename_i hgd
    have hwant : Region.wanted o (yielded ops a.tmps) = true := by unfold Region.wanted; rw [hgd]
    refine ⟨fun _ _ => trivial, ?_⟩
    rw [hwant, if_pos rfl]
    split at hb
    · rename_i hrec
      rw [isRec_run hrec]
      simp only
      split at hb
      · rename_i v
        split at hb
        case h_2 => cases hb
        rename_i env1 hput
        obtain ⟨v', hv, rfl⟩ := hm
        simp only [recoverD]
        refine opsS_ok hg os (k + 1) _ _ _ _ hd' hb _ _ (putE_ok hput he hv) ⟨v', rfl⟩ ?_
        intro a' u' he' hd2 hm'
        exact hq a' u' he' (hd2.trans (hdef _ _)) hm'
      · rename_i hnp
        split at hb
        case h_2 => cases hb
        rename_i env1 hput
        have hnone : recoverD ({ c₀ with mode := u } :: cs) = none := by
          cases m with
          | pan v => exact absurd rfl (hnp v)
          | ret => cases hm; rfl
          | rcv => obtain ⟨v', rfl⟩ := hm; rfl
        rw [hnone]
        simp only
        refine opsS_ok hg os (k + 1) _ _ _ _ hd' hb _ _ (putE_ok hput he (VR.of_pure rfl)) hm ?_
        intro a' u' he' hd2 hm'
        exact hq a' u' he' (hd2.trans (hdef _ _)) hm'
    · split at hb
      · rename_i x hop
        split at hb
        case h_2 => cases hb
        rename_i v hx
        split at hb
        case h_2 => cases hb
        rename_i env1 hput
        rw [show (execOp a.eval o).run P w = .ok (.value (a.eval x)) w by simp only [execOp, hop]; rfl]
        simp only
        refine opsS_ok hg os (k + 1) _ _ _ _ hd' hb _ _ (putE_ok hput he (ev_ok hx he hg)) hm ?_
        intro a' u' he' hd2 hm'
        exact hq a' u' he' (hd2.trans (hdef _ _)) hm'
      · rename_i x hop
        split at hb
        case h_2 => cases hb
        rename_i v hx
        split at hb
        case h_2 => cases hb
        rename_i env1 hput
        rw [show (execOp a.eval o).run P w = .ok (.value (a.eval x)) w by simp only [execOp, hop]; rfl]
        simp only
        refine opsS_ok hg os (k + 1) _ _ _ _ hd' hb _ _ (putE_ok hput he (ev_ok hx he hg)) hm ?_
        intro a' u' he' hd2 hm'
        exact hq a' u' he' (hd2.trans (hdef _ _)) hm'
      · cases hb

def CodeOKS (P : Program) (Z : AH) (G n : Nat) (c : Code) (env : T (Option Value)) (h : AH) (m : SMode) (out : Out) (env' : T (Option Value)) (h' : AH) (m' : SMode) : Prop :=
  ∀ (μ : Mu) (a : Act) (w : World) (u : FrameMode) (c₀ : Frame) (cs : List Frame) (Q : Exit → Act → List Frame → World → Prop), HR Z G μ h w → EnvOK μ n env a → MR μ m u →
    (∀ μ' a' w' u', HR Z G μ' h' w' → EnvOK μ' n env' a' → FR h μ w h' μ' w' → a'.defers = a.defers → MR μ' m' u' → Q out.toExit a' ({ c₀ with mode := u' } :: cs) w') → c.wpSIn (Fr none) 0 P Q a ({ c₀ with mode := u } :: cs) w

theorem codeS_ok (horc : OrcOK P Z G orc) (hext : ExtOK P ext) (hname : NoNum P) (hmix : P.follows .mixedOrders = true) : ∀ (c : Code) env h m out env' h' m', codeS P G ext orc n fuel c env h m = some (out, env', h', m') → CodeOKS P Z G n c env h m out env' h' m' := by
  have leaf : ∀ (c : Code) env h m out env' h' m', leafS P G ext orc n fuel c env h m = some (out, env', h', m') → CodeOKS P Z G n c env h m out env' h' m' := by
    intro c env h m out env' h' m' hc μ a w u c₀ cs Q hr he hm hq
    unfold leafS at hc
    split at hc
    case h_2 => cases hc
    rename_i o env1 h1 hnf hb
    simp only [Option.some.injEq, Prod.mk.injEq] at hc
    obtain ⟨rfl, rfl, rfl, rfl⟩ := hc
    refine wpSIn_of_wpIn rfl ?_
    refine codeB_ok none horc hext hname hmix c (.inl rfl) _ _ _ _ _ hb μ a w _ hr he ?_
    intro μ1 a1 w1 hr1 he1 hf1 hd1
    rw [hnf] at hd1
    exact hq μ1 a1 w1 u hr1 he1 hf1 hd1.none (hm.mono hf1.le)
  intro c
  induction c with
  | skip => intro env h m out env' h' m' hc; exact leaf _ _ _ _ _ _ _ _ hc
  | region id ops draw =>
    intro env h m out env' h' m' hc
    cases draw with
    | true => exact leaf _ _ _ _ _ _ _ _ hc
    | false =>
      simp only [codeS] at hc
      split at hc
      · split at hc
        case h_2 => cases hc
        rename_i env1 m1 hb
        simp only [Option.some.injEq, Prod.mk.injEq] at hc
        obtain ⟨rfl, rfl, rfl, rfl⟩ := hc
        intro μ a w u c₀ cs Q hr he hm hq
        refine wpSIn_region ?_
        have := opsS_ok (P := P) (w := w) (c₀ := c₀) (cs := cs) (Q := Q) (ops := ops) hr.glob ops.toList 0 _ _ _ _ rfl hb a u he hm (fun a' u' he' hd hm' => hq μ a' w u' hr he' (FR.refl _ _ _) hd hm')
        rw [List.range_eq_range']
        simpa using this
      · exact leaf _ _ _ _ _ _ _ _ hc
  | seq x y ihx ihy =>
    intro env h m out env' h' m' hc μ a w u c₀ cs Q hr he hm hq
    simp only [codeS] at hc
    split at hc
    · rename_i env1 h1 m1 hb
      refine wpSIn_seq (ihx _ _ _ _ _ _ _ hb μ a w u c₀ cs _ hr he hm ?_)
      intro μ1 a1 w1 u1 hr1 he1 hf1 hd1 hm1
      show y.wpSIn (Fr none) 0 P Q a1 _ w1
      refine ihy _ _ _ _ _ _ _ hc μ1 a1 w1 u1 c₀ cs Q hr1 he1 hm1 ?_
      intro μ2 a2 w2 u2 hr2 he2 hf2 hd2 hm2
      exact hq μ2 a2 w2 u2 hr2 he2 (hf1.trans hf2) (hd2.trans hd1) hm2
    · rename_i hno
      refine wpSIn_seq (ihx _ _ _ _ _ _ _ hc μ a w u c₀ cs _ hr he hm ?_)
      intro μ1 a1 w1 u1 hr1 he1 hf1 hd1 hm1
      have := hq μ1 a1 w1 u1 hr1 he1 hf1 hd1 hm1
      cases out with
      | normal => exact absurd hc (hno _ _ _)
      | exit id => exact this
      | ret => exact this
  | cond c x y ihx ihy =>
    intro env h m out env' h' m' hc μ a w u c₀ cs Q hr he hm hq
    simp only [codeS] at hc
    split at hc
    · rename_i hv
      have := ev_ok hv he hr.glob
      simp only [VR] at this
      exact wpSIn_cond this (ihx _ _ _ _ _ _ _ hc μ a w u c₀ cs Q hr he hm hq)
    · rename_i hv
      have := ev_ok hv he hr.glob
      simp only [VR] at this
      exact wpSIn_cond this (ihy _ _ _ _ _ _ _ hc μ a w u c₀ cs Q hr he hm hq)
    · cases hc
  | block id c ih => intro env h m out env' h' m' hc; exact leaf _ _ _ _ _ _ _ _ hc
  | loop c ih => intro env h m out env' h' m' hc; exact leaf _ _ _ _ _ _ _ _ hc
  | rangeFunc f ps x y => intro env h m out env' h' m' hc; exact leaf _ _ _ _ _ _ _ _ hc
  | exit id => intro env h m out env' h' m' hc; exact leaf _ _ _ _ _ _ _ _ hc
  | scope c ih => intro env h m out env' h' m' hc; exact leaf _ _ _ _ _ _ _ _ hc
  | label l => intro env h m out env' h' m' hc; exact leaf _ _ _ _ _ _ _ _ hc
  | goto l => intro env h m out env' h' m' hc; exact leaf _ _ _ _ _ _ _ _ hc
  | ret => intro env h m out env' h' m' hc; exact leaf _ _ _ _ _ _ _ _ hc
  | refuse why => intro env h m out env' h' m' hc; exact leaf _ _ _ _ _ _ _ _ hc

theorem results_run {μ : Mu} {m : Nat} {env : T (Option Value)} {h : AH} {a : Act} {w : World} {fn : Func} {vs : List Value} (hr : HR Z G μ h w) (he : EnvOK μ m env a) (hres : resB P m env h fn.results.toList = some vs) :
    ∃ v', VR μ (resV vs) v' ∧ (results fn a.tmps).run P w = .ok v' w := by
  obtain ⟨vs', h1, h2⟩ := resB_ok (P := P) hr he _ _ hres
  refine ⟨if h : vs'.toArray.size = 1 then vs'.toArray[0] else .tuple vs'.toArray, resV_ok h1, ?_⟩
  unfold results
  rw [Array.mapM_eq_mapM_toList]
  simp only [Sem.run_bind, Sem.run_map, Sem.run_pure]
  erw [h2]
  rfl

theorem bodyS_ok (horc : OrcOK P Z G orc) (hext : ExtOK P ext) (hname : NoNum P) (hmix : P.follows .mixedOrders = true) {g : FuncId} {args : List Value} {h : AH} {m : SMode} {h' : AH} {m' : SMode} (hb : bodyS P G ext fuel orc g args h m = some (h', m')) {μ : Mu} {w : World} {args' : List Value} {u : FrameMode}
    (hr : HR Z G μ h w) (hv : VRL μ args args') (hm : MR μ m u) : CallsDIn (Fr none) 0 P g args'.toArray u w fun e u' w' => ∃ v', e = .returned v' ∧ ∃ ν, HR Z G ν h' w' ∧ FR h μ w h' ν w' ∧ MR ν m' u' := by
  unfold bodyS at hb
  split at hb
  case h_2 => cases hb
  rename_i fn hf
  split at hb
  case h_2 => cases hb
  rename_i c hc
  split at hb
  case h_2 => cases hb
  rename_i hl1 hl2
  have henv := args_env hv (ble_iff.1 hl1) (ble_iff.1 hl2)
  have fin : ∀ (out : Out) (env1 : T (Option Value)), codeS P G ext orc fn.ntmps fuel c (setArgs args 0 (.leaf (some undef))) h m = some (out, env1, h', m') → ∀ vs, resB P fn.ntmps env1 h' fn.results.toList = some vs → (out = .normal ∨ out = .ret) →
      CallsDIn (Fr none) 0 P g args'.toArray u w fun e u' w' => ∃ v', e = .returned v' ∧ ∃ ν, HR Z G ν h' w' ∧ FR h μ w h' ν w' ∧ MR ν m' u' := by
    intro out env1 hcode vs hres hout
    refine callsDIn_of_wpSIn hf hc trivial ?_
    intro c₀ cs hu
    have hc0 : c₀ = { c₀ with mode := u } := by subst hu; rfl
    rw [show (c₀ :: cs) = ({ c₀ with mode := u } :: cs) by rw [← hc0]]
    refine codeS_ok horc hext hname hmix c _ _ _ _ _ _ _ hcode μ _ w u c₀ cs _ hr henv hm ?_
    intro μ1 a1 w1 u1 hr1 he1 hf1 hd1 hm1
    obtain ⟨v', _, hrun⟩ := results_run hr1 he1 hres
    rcases hout with rfl | rfl <;> exact ⟨hd1, u1, rfl, v', hrun, v', rfl, μ1, hr1, hf1, hm1⟩
  split at hb
  · rename_i env1 h1 m1 hcode
    split at hb
    case h_2 => cases hb
    rename_i vs hres
    cases hb
    exact fin _ _ hcode vs hres (.inl rfl)
  · rename_i env1 h1 m1 hcode
    split at hb
    case h_2 => cases hb
    rename_i vs hres
    cases hb
    exact fin _ _ hcode vs hres (.inr rfl)
  · cases hb

theorem leaveD_ok (horc : OrcOK P Z G orc) (hext : ExtOK P ext) (hname : NoNum P) (hmix : P.follows .mixedOrders = true) {fn : Func} {tmps : Array Value} {R : Ending → World → Prop} : ∀ (ds : List Dfr) (Ds : List Deferred) (h : AH) (m : SMode) (h2 : AH) (m2 : SMode), leaveD P G ext fuel orc ds h m = some (h2, m2) → ∀ (μ : Mu) (w : World) (u : FrameMode), HR Z G μ h w → DfrL P μ ds Ds → MR μ m u →
    (∀ μ' w' u', HR Z G μ' h2 w' → FR h μ w h2 μ' w' → MR μ' m2 u' → LeavesIn (Fr none) 0 P fn tmps R [] u' w') → LeavesIn (Fr none) 0 P fn tmps R Ds u w
  | [], Ds, h, m, h2, m2, hl => by
    intro μ w u hr hd hm hq
    simp only [leaveD, Option.some.injEq, Prod.mk.injEq] at hl
    obtain ⟨rfl, rfl⟩ := hl
    simp only [DfrL] at hd
    subst hd
    exact hq μ w u hr (FR.refl _ _ _) hm
  | d :: ds, Ds, h, m, h2, m2, hl => by
    intro μ w u hr hd hm hq
    simp only [leaveD] at hl
    split at hl
    case h_2 => cases hl
    rename_i h1 m1 hb
    obtain ⟨D, Ds', rfl, ⟨cap, as, rfl, hv, fn', c', hf', hc'⟩, hds⟩ := hd
    refine leavesIn_cons hm.run (fun h => by cases h) (invoke_run hname hf' (by rw [hc']; rfl)) (fun _ _ => trivial) ?_
    refine (bodyS_ok horc hext hname hmix hb hr hv hm).mono ?_
    rintro e u' w' ⟨v', rfl, ν, hr1, hf1, hm1⟩
    refine leaveD_ok horc hext hname hmix ds Ds' h1 _ h2 m2 hl ν w' (settle u') hr1 (hds.mono hf1.le) hm1.settle ?_
    intro μ2 w2 u2 hr2 hf2 hm2
    exact hq μ2 w2 u2 hr2 (hf1.trans hf2) hm2

theorem bodyD_ok (horc : OrcOK P Z G orc) (hpor : PorOK P Z G por) (hext : ExtOK P ext) (hname : NoNum P) (hmix : P.follows .mixedOrders = true) {g : FuncId} {args : List Value} {h : AH} {r : BRes} {h' : AH} (hb : bodyD P G ext fuel orc por g args h = some (r, h')) {μ : Mu} {w : World} {args' : List Value}
    (hr : HR Z G μ h w) (hv : VRL μ args args') : Calls P g args'.toArray w fun e w' => ∃ v', (match r with
      | .val v => e = .returned v' ∧ Owe Z G μ h w v (some h') v' w'
      | .pan v => e = .panicked [{ v := v', recovered := false }] ∧ Owe Z G μ h w v (some h') v' w') := by
  unfold bodyD at hb
  split at hb
  case h_2 => cases hb
  rename_i fn hf
  split at hb
  case h_2 => cases hb
  rename_i c hc
  split at hb
  case h_2 => cases hb
  rename_i hl1 hl2
  have henv := args_env hv (ble_iff.1 hl1) (ble_iff.1 hl2)
  split at hb
  case h_2 => cases hb
  rename_i out env1 h1 ds hcode
  split at hb
  case h_2 => cases hb
  rename_i m hstart
  refine callsIn_wide.1 (callsIn_of_wp_defers (F := Fr none) (n := 0) hf hc trivial ?_)
  refine codeD_ok horc hpor hext hname hmix c _ _ _ _ _ _ _ hcode μ _ w _ hr henv (by simp only [DfrL]) ?_
  intro μ1 a1 w1 hr1 he1 hf1 hd1
  -- how the function leaves
  have key : ∀ u, MR μ1 m u → LeavesIn (Fr none) 0 P fn a1.tmps (fun e w' => ∃ v', (match r with
      | .val v => e = .returned v' ∧ Owe Z G μ h w v (some h') v' w'
      | .pan v => e = .panicked [{ v := v', recovered := false }] ∧ Owe Z G μ h w v (some h') v' w')) a1.defers u w1 := by
    intro u hu
    split at hb
    · rename_i h2 hlv
      rw [Option.map_eq_some_iff] at hb
      obtain ⟨vs, hres, hb⟩ := hb
      cases hb
      refine leaveD_ok horc hext hname hmix ds a1.defers h1 m _ _ hlv μ1 w1 u hr1 hd1 hu ?_
      intro μ2 w2 u2 hr2 hf2 hm2
      cases hm2
      obtain ⟨v', hv', hrun⟩ := results_run (P := P) hr2 (he1.mono hf2.le) hres
      exact ⟨v', hrun, v', rfl, μ2, hv', hr2, hf1.trans hf2⟩
    · rename_i h2 v hlv
      cases hb
      refine leaveD_ok horc hext hname hmix ds a1.defers h1 m _ _ hlv μ1 w1 u hr1 hd1 hu ?_
      intro μ2 w2 u2 hr2 hf2 hm2
      obtain ⟨v', hv', rfl⟩ := hm2
      exact ⟨v', rfl, μ2, hv', hr2, hf1.trans hf2⟩
    · cases hb
  cases out with
  | pan v =>
    simp only [DOut.start, Option.some.injEq] at hstart
    subst hstart
    intro v' hv'
    exact key _ ⟨v', hv', rfl⟩
  | norm o =>
    cases o with
    | normal =>
      simp only [DOut.start, Option.some.injEq] at hstart
      subst hstart
      exact key _ rfl
    | ret =>
      simp only [DOut.start, Option.some.injEq] at hstart
      subst hstart
      exact key _ rfl
    | exit id => cases hstart

theorem mutD_ok (horc : OrcOK P Z G orc) (hpor : PorOK P Z G por) (hext : ExtOK P ext) (hname : NoNum P) (hmix : P.follows .mixedOrders = true) : BaseOK P Z G (mutD P G ext fuel orc por) := by
  intro g args h v ho hb μ w args' hr hv
  unfold mutD at hb
  split at hb
  case h_2 => cases hb
  rename_i v1 h1 hb1
  cases hb
  exact bodyD_ok horc hpor hext hname hmix hb1 hr hv

theorem panD_ok (horc : OrcOK P Z G orc) (hpor : PorOK P Z G por) (hext : ExtOK P ext) (hname : NoNum P) (hmix : P.follows .mixedOrders = true) : PorOK P Z G (panD P G ext fuel orc por) := by
  intro g args h v ho hb μ w args' hr hv
  unfold panD at hb
  split at hb
  case h_2 => cases hb
  rename_i v1 h1 hb1
  cases hb
  exact bodyD_ok horc hpor hext hname hmix hb1 hr hv

theorem overD_ok (horc : OrcOK P Z G orc) (hpor : PorOK P Z G por) (hext : ExtOK P ext) (hname : NoNum P) (hmix : P.follows .mixedOrders = true) : BaseOK P Z G (overD P G ext fuel orc por) := by
  intro g args h v ho hb μ w args' hr hv
  unfold overD at hb
  split at hb
  case h_2 => cases hb
  rename_i v1 h1 hb1
  have hcall := bodyD_ok horc hpor hext hname hmix hb1 hr.locked hv
  refine hcall.mono ?_
  rintro e w' ⟨v', rfl, ν, hv1, hr1, hf1⟩
  refine ⟨v', rfl, ?_⟩
  have hold := FR.locked_blk hf1
  split at hb
  · rename_i hp
    cases hb
    refine ⟨μ, ?_, hr.congr (fun i l hi hl => ?_), ?_⟩
    · rw [VR.pure hp] at hv1 ⊢; exact hv1
    · cases hg : h.get i with
      | none => exact absurd hg hi
      | some b =>
        obtain ⟨l', hl', hbr⟩ := hr.blk i b hg
        rw [hl] at hl'; cases hl'
        exact hold _ hbr.lt
    · exact ⟨Mu.le_refl _, hf1.os, hf1.tape, hf1.output, hf1.size, rfl, rfl, Nat.le_refl _, fun _ _ => rfl, fun _ _ h => h, fun _ h _ => h, fun b hb _ => hold b hb, fun _ _ _ => rfl⟩
  · cases hb
    exact ⟨ν, hv1, hr1.relock _, FR.unlock hr hf1⟩

theorem deepX_ok (hext : ExtOK P ext) (hname : NoNum P) (hmix : P.follows .mixedOrders = true) {base : Orc} (hbase : BaseOK P Z G base) (mt : FuncId → Nat) (pt : FuncId → Bool) : ∀ d, OrcOK P Z G (deepX P G ext fuel base mt pt d).1 ∧ PorOK P Z G (deepX P G ext fuel base mt pt d).2
  | 0 => by
    refine ⟨?_, fun g args h v ho hb => by cases hb⟩
    intro g args h v ho hb μ w args' hr hv
    simp only [deepX] at hb
    split at hb
    · cases hb
    · rename_i hg
      exact ⟨fun _ => hbase g args h v ho hb μ w args' hr hv, fun h => by rw [beq_iff.2 h] at hg; cases hg⟩
  | d + 1 => by
    obtain ⟨ih1, ih2⟩ := deepX_ok hext hname hmix hbase mt pt d
    constructor
    · intro g args h v ho hb μ w args' hr hv
      simp only [deepX] at hb
      split at hb
      · rename_i hg
        have hg := beq_iff.1 hg
        split at hb
        · rename_i hno
          subst hg
          refine ⟨fun h => ?_, fun _ _ => yieldB_ok ih1 hext hname hmix hb hr hv⟩
          rcases h with h | h
          · exact absurd rfl h
          · exact absurd hno h
        · cases hb
      · rename_i hg
        refine ⟨fun _ => ?_, fun h => by rw [beq_iff.2 h] at hg; cases hg⟩
        split at hb
        · rename_i r hr'
          cases hb
          exact hbase g args h v ho hr' μ w args' hr hv
        · split at hb
          · exact overB_ok ih1 hext hname hmix g args h v ho hb μ w args' hr hv
          · split at hb
            · cases hb
            · exact mutB_ok ih1 hext hname hmix g args h v ho hb μ w args' hr hv
          · split at hb
            · cases hb
            · exact mutD_ok ih1 ih2 hext hname hmix g args h v ho hb μ w args' hr hv
          · exact overD_ok ih1 ih2 hext hname hmix g args h v ho hb μ w args' hr hv
          · split at hb
            · exact overB_ok ih1 hext hname hmix g args h v ho hb μ w args' hr hv
            · exact mutB_ok ih1 hext hname hmix g args h v ho hb μ w args' hr hv
    · intro g args h v ho hb μ w args' hr hv
      simp only [deepX] at hb
      split at hb
      · exact panD_ok ih1 ih2 hext hname hmix g args h v ho hb μ w args' hr hv
      · cases hb

end
end Go.Proofs.YtelimgiehdfblaaGreatDoor.V
