/- Symbolic runs: the slots as a full tree, a function's body, what a contract owes. Conditions: none. -/
import Derived.Test.YtibffohcmegooaaGreatDoorWa
namespace Go.Proofs.YtibffohcmegooaaGreatDoor.V
set_option linter.all false
open Go
noncomputable section

/-! Full trees. -/
def fullT : Nat → Ev
  | 0 => .leaf (some undef)
  | d + 1 => .node (some undef) (fullT d) (fullT d)
theorem fullT_get : ∀ (d i : Nat), (fullT d).get i = some undef
  | 0, i => rfl
  | d + 1, 0 => rfl
  | d + 1, i + 1 => by
    rw [fullT, T.get_succ]
    split
    · exact fullT_get d _
    · exact fullT_get d _
theorem fullT_fits : ∀ (d e : Nat), d ≤ e → (fullT d).fits e
  | 0, e, _ => T.fits_leaf _ _
  | d + 1, 0, h => by omega
  | d + 1, e + 1, h => ⟨fullT_fits d e (by omega), fullT_fits d e (by omega)⟩

/-- A full tree of a depth. -/
def sh : Nat → Ev → Bool
  | 0, .leaf _ => true
  | d + 1, .node _ l r => sh d l && sh d r
  | _, _ => false
def rebuild : Nat → (Nat → Option Value) → Ev
  | 0, f => .leaf (f 0)
  | d + 1, f => .node (f 0) (rebuild d fun j => f (2 * j + 1)) (rebuild d fun j => f (2 * j + 2))
theorem rebuild_eq : ∀ (d : Nat) {env : Ev}, sh d env = true → rebuild d env.get = env
  | 0, .leaf a, _ => rfl
  | 0, .node _ _ _, h => by cases h
  | d + 1, .leaf _, h => by cases h
  | d + 1, .node a l r, h => by
    simp only [sh, Bool.and_eq_true] at h
    have e1 : (fun j => (T.node a l r).get (2 * j + 1)) = l.get := by
      funext j
      rw [T.get_succ, show 2 * j % 2 = 0 from by omega, show 2 * j / 2 = j from by omega]
    have e2 : (fun j => (T.node a l r).get (2 * j + 2)) = r.get := by
      funext j
      rw [show 2 * j + 2 = (2 * j + 1) + 1 from rfl, T.get_succ, show (2 * j + 1) % 2 = 1 from by omega, show (2 * j + 1) / 2 = j from by omega]
    simp only [rebuild]
    rw [e1, e2, rebuild_eq d h.1, rebuild_eq d h.2]
    rfl

def look : List (Nat × Value) → (Nat → Option Value) → Nat → Option Value
  | [], f, i => f i
  | (j, v) :: r, f, i => match Nat.beq i j with | true => some v | false => look r f i
/-- What is known of some slots stands in the tree. -/
def has (env : Ev) : List (Nat × Value) → Prop
  | [] => True
  | (j, v) :: r => env.get j = some v ∧ has env r
theorem look_eq {env : Ev} : ∀ {l : List (Nat × Value)}, has env l → look l env.get = env.get
  | [], _ => rfl
  | (j, v) :: r, h => by
    funext i
    simp only [look]
    split
    · rename_i hb
      rw [beq_iff.1 hb]; exact h.1.symm
    · rw [look_eq h.2]
theorem env_form {d : Nat} {env : Ev} {l : List (Nat × Value)} (hs : sh d env = true) (hl : has env l) : env = rebuild d (look l env.get) := by
  rw [look_eq hl, rebuild_eq d hs]

section
variable (P : Program) (G : Nat) (ext : FuncId → Option Ext) (fuel : Nat)

/-- The depth of the tree that holds so many slots. -/
def deepOf (n : Nat) : Nat := Nat.log2 n + 1

/-- A call of a function, by its body: the slots lie in a full tree. -/
def bodyF (orc : Orc) (g : FuncId) (args : List Value) (h : AH) : Option (Value × AH) := match P.funcs[g]? with
  | some fn => match fn.body with
    | some c => match Nat.ble args.length fn.ntmps, Nat.ble fn.ntmps 4096, Nat.ble (deepOf fn.ntmps) 12 with
      | true, true, true => match codeB P G ext orc fn.ntmps fuel c (setArgs args 0 (fullT (deepOf fn.ntmps))) h with
        | some (.normal, env, h') => (resB P fn.ntmps env h' fn.results.toList).map fun vs => (resV vs, h')
        | some (.ret, env, h') => (resB P fn.ntmps env h' fn.results.toList).map fun vs => (resV vs, h')
        | _ => none
      | _, _, _ => none
    | none => none
  | none => none
def mutF (orc : Orc) : Orc := fun g args h => (bodyF P G ext fuel orc g args h).map fun (v, h') => (v, some h')
def overF (orc : Orc) : Orc := fun g args h => match bodyF P G ext fuel orc g args h.locked with
  | some (v, h') => match pureV v with
    | true => some (v, none)
    | false => some (v, some { h' with lock := h.lock })
  | none => none

/-- Calls within calls, as deepB, the slots in full trees; code 5: the careful way of deepX is not taken: the answer is 'base's alone. -/
def deepF (base : Orc) (mt : FuncId → List Value → Nat) : Nat → Orc
  | 0 => fun g args h => match Nat.beq g yid with
    | true => none
    | false => base g args h
  | d + 1 => fun g args h => match Nat.beq g yid with
    | true => match P.funcs[yid]? with
      | none => yieldB P G ext fuel (deepF base mt d) args h
      | some _ => none
    | false => match base g args h with
      | some r => some r
      | none => match mt g args with
        | 0 => overF P G ext fuel (deepF base mt d) g args h
        | 1 => match Nat.beq h.lock h.next with
          | true => none
          | false => mutF P G ext fuel (deepF base mt d) g args h
        | _ => match Nat.beq h.lock h.next with
          | true => overF P G ext fuel (deepF base mt d) g args h
          | false => mutF P G ext fuel (deepF base mt d) g args h

/-- The results. -/
def resK (n : Nat) (env : Ev) (h : AH) : List ResultVar → (List Value → Prop) → Prop
  | [], k => k []
  | .tmp t :: rs, k => match Nat.blt t n, env.get t with
    | true, some v => resK n env h rs fun vs => k (v :: vs)
    | _, _ => False
  | .cell a t :: rs, k => match Nat.blt a n, env.get a with
    | true, some p => loadK P h t p fun v => resK n env h rs fun vs => k (v :: vs)
    | _, _ => False

/-- A body, with what is asked of symbolic values ahead; the function's record is given. -/
def funcK (orc : Orc) (fn : Func) (args : List Value) (h : AH) (k : Value → AH → Prop) : Prop := match fn.body with
  | some c => args.length ≤ fn.ntmps ∧ codeK P G ext orc fn.ntmps fuel c (setArgs args 0 (fullT (deepOf fn.ntmps))) h fun out env h' => match out with
    | .exit _ => False
    | _ => resK P fn.ntmps env h' fn.results.toList fun vs => k (resV vs) h'
  | none => False
end

section
variable {P : Program} {Z : AH} {G fuel : Nat} {ext : FuncId → Option Ext} {orc : Orc}

theorem resK_ok {n : Nat} {env : Ev} {h : AH} : ∀ (rs : List ResultVar) {k : List Value → Prop}, resK P n env h rs k → ∃ vs, resB P n env h rs = some vs ∧ k vs
  | [], k, hk => ⟨[], rfl, hk⟩
  | .tmp t :: rs, k, hk => by
    simp only [resK] at hk
    split at hk
    case h_2 => exact hk.elim
    rename_i v h1 h2
    obtain ⟨vs, h3, h4⟩ := resK_ok rs hk
    exact ⟨v :: vs, by simp only [resB, h1, h2, h3], h4⟩
  | .cell a t :: rs, k, hk => by
    simp only [resK] at hk
    split at hk
    case h_2 => exact hk.elim
    rename_i p h1 h2
    obtain ⟨v, h5, hk⟩ := loadK_ok hk
    obtain ⟨vs, h3, h4⟩ := resK_ok rs hk
    exact ⟨v :: vs, by simp only [resB, h1, h2, h5, h3], h4⟩

theorem funcK_ok {g : FuncId} {fn : Func} (hf : P.funcs[g]? = some fn) (hn : Nat.ble fn.ntmps 4095 = true) {args : List Value} {h : AH} (hok : HOK h) {k : Value → AH → Prop} (hk : funcK P G ext fuel orc fn args h k) :
    ∃ v h', bodyF P G ext fuel orc g args h = some (v, h') ∧ HOK h' ∧ k v h' := by
  have hn' := ble_iff.1 hn
  have h3 : Nat.ble (deepOf fn.ntmps) 12 = true := by
    rw [ble_iff]
    unfold deepOf
    by_cases h0 : fn.ntmps = 0
    · rw [h0]; decide
    · have : Nat.log2 fn.ntmps < 12 := (Nat.log2_lt h0).2 (by omega)
      omega
  unfold funcK at hk
  unfold bodyF
  rw [hf]
  simp only
  split at hk
  case h_2 => exact hk.elim
  rename_i c hc
  try simp only [hc]
  rw [ble_iff.2 hk.1, ble_iff.2 (show fn.ntmps ≤ 4096 by omega), h3]
  simp only
  obtain ⟨out, env', h', hb, hok', hk⟩ := codeK_ok c hok hk.2
  rw [hb]
  cases out with
  | exit id => exact hk.elim
  | normal =>
    obtain ⟨vs, hr, hk⟩ := resK_ok _ hk
    simp only [hr]
    exact ⟨_, _, rfl, hok', hk⟩
  | ret =>
    obtain ⟨vs, hr, hk⟩ := resK_ok _ hk
    simp only [hr]
    exact ⟨_, _, rfl, hok', hk⟩

theorem args_envF {μ : Mu} {args args' : List Value} {m d : Nat} (hv : VRL μ args args') (hm : args.length ≤ m) (hM : m ≤ 4096) (hd : d ≤ 12) :
    EnvOK μ m (setArgs args 0 (fullT d)) { tmps := args'.toArray ++ Array.replicate (m - args'.toArray.size) undef, defers := [] } := by
  have hl := hv.length
  obtain ⟨h1, h2⟩ := setArgs_ok args 0 (fullT d) (fullT_fits d 12 hd) (by omega)
  refine ⟨by simp; omega, hM, h1, ?_⟩
  intro t v ht hg
  rw [h2 t (by omega)] at hg
  by_cases hlt : t < args.length
  · rw [if_pos (by omega)] at hg
    simp only [Nat.sub_zero] at hg
    obtain ⟨v', hv', hr⟩ := hv.at hg
    have : (args'.toArray ++ Array.replicate (m - args'.toArray.size) undef)[t]? = some v' := by
      rw [Array.getElem?_append_left (by simp; omega)]
      simpa using hv'
    show VR μ v ((args'.toArray ++ Array.replicate (m - args'.toArray.size) undef).getD t undef)
    rw [Array.getD_eq_getD_getElem?, this]
    exact hr
  · rw [if_neg (by omega), fullT_get] at hg
    simp only [Option.some.injEq] at hg
    subst hg
    have : (args'.toArray ++ Array.replicate (m - args'.toArray.size) undef)[t]? = some undef := by
      rw [Array.getElem?_append_right (by simp; omega), Array.getElem?_replicate, if_pos (by simp; omega)]
    show VR μ undef ((args'.toArray ++ Array.replicate (m - args'.toArray.size) undef).getD t undef)
    rw [Array.getD_eq_getD_getElem?, this]
    exact VR.of_pure (show pureV undef = true from rfl)

theorem results_go {μ : Mu} {m : Nat} {env : T (Option Value)} {h : AH} {a : Act} {w : World} {fn : Func} {vs : List Value} (hr : HR Z G μ h w) (he : EnvOK μ m env a) (hres : resB P m env h fn.results.toList = some vs) :
    ∃ v', VR μ (resV vs) v' ∧ (results fn a.tmps).run P w = .ok v' w := by
  obtain ⟨vs', h1, h2⟩ := resB_ok (P := P) hr he _ _ hres
  refine ⟨if h : vs'.toArray.size = 1 then vs'.toArray[0] else .tuple vs'.toArray, resV_ok h1, ?_⟩
  unfold results
  rw [Array.mapM_eq_mapM_toList]
  simp only [Sem.run_bind, Sem.run_map, Sem.run_pure]
  erw [h2]
  rfl

theorem bodyF_ok (horc : OrcOK P Z G orc) (hext : ExtOK P ext) (hname : NoNum P) (hmix : P.follows .mixedOrders = true) {g : FuncId} {args : List Value} {h : AH} {v : Value} {h' : AH} (hb : bodyF P G ext fuel orc g args h = some (v, h')) {μ : Mu} {w : World} {args' : List Value}
    (hr : HR Z G μ h w) (hv : VRL μ args args') : Calls P g args'.toArray w fun e w' => ∃ v', e = .returned v' ∧ Owe Z G μ h w v (some h') v' w' := by
  unfold bodyF at hb
  split at hb
  case h_2 => cases hb
  rename_i fn hf
  split at hb
  case h_2 => cases hb
  rename_i c hc
  split at hb
  case h_2 => cases hb
  rename_i hl1 hl2 hl3
  have henv := args_envF hv (ble_iff.1 hl1) (ble_iff.1 hl2) (ble_iff.1 hl3)
  refine callsIn_wide.1 (callsIn_of_wp_marks (F := Fr none) (n := 0) hf hc trivial ?_)
  have fin : ∀ (out : Out) (env1 : T (Option Value)), codeB P G ext orc fn.ntmps fuel c (setArgs args 0 (fullT (deepOf fn.ntmps))) h = some (out, env1, h') → (∀ vs, resB P fn.ntmps env1 h' fn.results.toList = some vs → resV vs = v → (out = .normal ∨ out = .ret) →
      c.wpIn (Fr none) 0 P (bodyPostM (Fr none) 0 P fn fun e w' => ∃ v', e = .returned v' ∧ Owe Z G μ h w v (some h') v' w') { tmps := args'.toArray ++ Array.replicate (fn.ntmps - args'.toArray.size) undef, defers := [] } w) := by
    intro out env1 hcode vs hres hvs hout
    refine codeB_ok none horc hext hname hmix c (.inl rfl) _ _ _ _ _ hcode μ _ w _ hr henv ?_
    intro μ1 a1 w1 hr1 he1 hf1 hd1
    obtain ⟨bs, hbs, hnd, hmk, _⟩ := hd1
    have hpost : LeavesInM (Fr none) 0 P fn a1.tmps (fun e w' => ∃ v', e = .returned v' ∧ Owe Z G μ h w v (some h') v' w') a1.defers .returning w1 := by
      rw [hbs, List.append_nil]
      refine leaves_marks bs w1 hnd hmk hr1 hf1 ?_
      intro w2 hr2 hf2
      obtain ⟨v', hv', hrun⟩ := results_go (P := P) hr2 he1 hres
      exact ⟨v', hrun, v', rfl, μ1, hvs ▸ hv', hr2, hf2⟩
    rcases hout with rfl | rfl <;> exact hpost
  split at hb
  · rename_i env1 h1 hcode
    rw [Option.map_eq_some_iff] at hb
    obtain ⟨vs, hres, hb⟩ := hb
    cases hb
    exact fin _ _ hcode vs hres rfl (.inl rfl)
  · rename_i env1 h1 hcode
    rw [Option.map_eq_some_iff] at hb
    obtain ⟨vs, hres, hb⟩ := hb
    cases hb
    exact fin _ _ hcode vs hres rfl (.inr rfl)
  · cases hb

theorem mutF_ok (horc : OrcOK P Z G orc) (hext : ExtOK P ext) (hname : NoNum P) (hmix : P.follows .mixedOrders = true) : BaseOK P Z G (mutF P G ext fuel orc) := by
  intro g args h v ho hb μ w args' hr hv
  unfold mutF at hb
  rw [Option.map_eq_some_iff] at hb
  obtain ⟨⟨v1, h1⟩, hb1, hb2⟩ := hb
  cases hb2
  exact bodyF_ok horc hext hname hmix hb1 hr hv

theorem overF_ok (horc : OrcOK P Z G orc) (hext : ExtOK P ext) (hname : NoNum P) (hmix : P.follows .mixedOrders = true) : BaseOK P Z G (overF P G ext fuel orc) := by
  intro g args h v ho hb μ w args' hr hv
  unfold overF at hb
  split at hb
  case h_2 => cases hb
  rename_i v1 h1 hb1
  have hcall := bodyF_ok horc hext hname hmix hb1 hr.locked hv
  refine hcall.mono ?_
  rintro e w' ⟨v', rfl, ν, hv1, hr1, hf1⟩
  refine ⟨v', rfl, ?_⟩
  have hold := FR.locked_blk hf1
  split at hb
  · rename_i hp
    cases hb
    refine ⟨μ, ?_, hr.congr (fun i l hi hl => ?_), ?_⟩
    · rw [VR.pure hp] at hv1 ⊢; exact hv1
    · cases hg : h.get i with
      | none => exact absurd hg hi
      | some b =>
        obtain ⟨l', hl', hbr⟩ := hr.blk i b hg
        rw [hl] at hl'; cases hl'
        exact hold _ hbr.lt
    · exact ⟨Mu.le_refl _, hf1.os, hf1.tape, hf1.output, hf1.size, rfl, rfl, Nat.le_refl _, fun _ _ => rfl, fun _ _ h => h, fun _ h _ => h, fun b hb _ => hold b hb, fun _ _ _ => rfl⟩
  · cases hb
    exact ⟨ν, hv1, hr1.relock _, FR.unlock hr hf1⟩

theorem deepF_ok (hext : ExtOK P ext) (hname : NoNum P) (hmix : P.follows .mixedOrders = true) {base : Orc} (hbase : BaseOK P Z G base) (mt : FuncId → List Value → Nat) : ∀ d, OrcOK P Z G (deepF P G ext fuel base mt d)
  | 0 => by
    intro g args h v ho hb μ w args' hr hv
    simp only [deepF] at hb
    split at hb
    · cases hb
    · rename_i hg
      exact ⟨fun _ => hbase g args h v ho hb μ w args' hr hv, fun h => by rw [beq_iff.2 h] at hg; cases hg⟩
  | d + 1 => by
    intro g args h v ho hb μ w args' hr hv
    simp only [deepF] at hb
    split at hb
    · rename_i hg
      have hg := beq_iff.1 hg
      split at hb
      · rename_i hno
        subst hg
        refine ⟨fun h => ?_, fun _ _ => yieldB_ok (deepF_ok hext hname hmix hbase mt d) hext hname hmix hb hr hv⟩
        rcases h with h | h
        · exact absurd rfl h
        · exact absurd hno h
      · cases hb
    · rename_i hg
      refine ⟨fun _ => ?_, fun h => by rw [beq_iff.2 h] at hg; cases hg⟩
      split at hb
      · rename_i r hr'
        cases hb
        exact hbase g args h v ho hr' μ w args' hr hv
      · split at hb
        · exact overF_ok (deepF_ok hext hname hmix hbase mt d) hext hname hmix g args h v ho hb μ w args' hr hv
        · split at hb
          · cases hb
          · exact mutF_ok (deepF_ok hext hname hmix hbase mt d) hext hname hmix g args h v ho hb μ w args' hr hv
        · split at hb
          · exact overF_ok (deepF_ok hext hname hmix hbase mt d) hext hname hmix g args h v ho hb μ w args' hr hv
          · exact mutF_ok (deepF_ok hext hname hmix hbase mt d) hext hname hmix g args h v ho hb μ w args' hr hv

/-! Contracts: what a call answers, from some depth on. -/
section
variable {base : Orc} {mt : FuncId → List Value → Nat} {g : FuncId} {fn : Func} {args : List Value} {h : AH}

theorem callB_fn (hf : P.funcs[g]? = some fn) {c : Code} (hc : fn.body = some c) {first captured : List Value} : callB P ext orc h (.func (.func g) ⟨first⟩ ⟨captured⟩) args = orc g (first ++ args ++ captured) h := by
  unfold callB
  simp only [hf, hc]

theorem over_pure {d : Nat} (hg : Nat.beq g yid = false) (hb : base g args h = none) (hm : mt g args = 0) (hf : P.funcs[g]? = some fn) (hn : Nat.ble fn.ntmps 4095 = true) (hok : HOK h) {Q : Value → Prop}
    (hk : funcK P G ext fuel (deepF P G ext fuel base mt d) fn args h.locked fun v _ => pureV v = true ∧ Q v) : ∃ v, deepF P G ext fuel base mt (d + 1) g args h = some (v, none) ∧ Q v := by
  obtain ⟨v, h', h1, _, h2, h3⟩ := funcK_ok hf hn hok.locked hk
  refine ⟨v, ?_, h3⟩
  simp only [deepF, hg, hb, hm, overF, h1, h2]

theorem over_any {d : Nat} (hg : Nat.beq g yid = false) (hb : base g args h = none) (hm : mt g args = 0) (hf : P.funcs[g]? = some fn) (hn : Nat.ble fn.ntmps 4095 = true) (hok : HOK h) {Q : Value → AH → Prop}
    (hk : funcK P G ext fuel (deepF P G ext fuel base mt d) fn args h.locked fun v h' => pureV v = false ∧ Q v { h' with lock := h.lock }) : ∃ v h', deepF P G ext fuel base mt (d + 1) g args h = some (v, some h') ∧ HOK h' ∧ Q v h' := by
  obtain ⟨v, h', h1, h4, h2, h3⟩ := funcK_ok hf hn hok.locked hk
  refine ⟨v, { h' with lock := h.lock }, ?_, h4.relock _, h3⟩
  simp only [deepF, hg, hb, hm, overF, h1, h2]

theorem mut_any {d : Nat} (hg : Nat.beq g yid = false) (hb : base g args h = none) (hm : mt g args = 1 ∨ mt g args = 2) (hl : Nat.beq h.lock h.next = false) (hf : P.funcs[g]? = some fn) (hn : Nat.ble fn.ntmps 4095 = true) (hok : HOK h) {Q : Value → AH → Prop}
    (hk : funcK P G ext fuel (deepF P G ext fuel base mt d) fn args h Q) : ∃ v h', deepF P G ext fuel base mt (d + 1) g args h = some (v, some h') ∧ HOK h' ∧ Q v h' := by
  obtain ⟨v, h', h1, h4, h3⟩ := funcK_ok hf hn hok hk
  refine ⟨v, h', ?_, h4, h3⟩
  rcases hm with hm | hm <;> simp only [deepF, hg, hb, hm, hl, mutF, h1, Option.map_some]
end

end
end
end Go.Proofs.YtibffohcmegooaaGreatDoor.V
