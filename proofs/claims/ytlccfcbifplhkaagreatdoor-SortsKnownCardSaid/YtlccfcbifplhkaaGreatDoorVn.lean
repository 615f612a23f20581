/- The small machine's codes and calls agree with the model's. Conditions: none. -/
import Derived.Test.YtlccfcbifplhkaaGreatDoorVd4
namespace Go.Proofs.YtlccfcbifplhkaaGreatDoor.V
open Go

def Out.toExit : Out → Exit
  | .normal => .normal
  | .exit id => .exit id
  | .ret => .ret

section
variable {P : Program} {Z : AH} {G n fuel : Nat} {ext : FuncId → Option Ext} {orc : Orc}

/-- What a piece of code owes. -/
def CodeOK (P : Program) (Z : AH) (G n : Nat) (c : Code) (env : T (Option Value)) (h : AH) (out : Out) (env' : T (Option Value)) (h' : AH) : Prop :=
  ∀ (μ : Mu) (a : Act) (w : World) (Q : Exit → Act → World → Prop), HR Z G μ h w → EnvOK μ n env a →
    (∀ μ' a' w', HR Z G μ' h' w' → EnvOK μ' n env' a' → FR h μ w h' μ' w' → a'.defers = a.defers → Q out.toExit a' w') → c.wp P Q a w

theorem iterB_ok {c : Code} {body : T (Option Value) → AH → CR} (ih : ∀ env h out env' h', body env h = some (out, env', h') → CodeOK P Z G n c env h out env' h') :
    ∀ k env h out env' h', iterB body k env h = some (out, env', h') → ∀ (μ : Mu) (a : Act) (w : World) (Q : Exit → Act → World → Prop), HR Z G μ h w → EnvOK μ n env a →
    (∀ μ' a' w', HR Z G μ' h' w' → EnvOK μ' n env' a' → FR h μ w h' μ' w' → a'.defers = a.defers → Q out.toExit a' w') → Code.rounds P c Q k a w
  | 0, env, h, out, env', h', hi => by simp [iterB_zero] at hi
  | k + 1, env, h, out, env', h', hi => by
    intro μ a w Q hr he hq
    simp only [iterB_succ] at hi
    split at hi
    · rename_i env1 h1 hb
      rw [rounds_succ]
      refine ih _ _ _ _ _ hb μ a w _ hr he ?_
      intro μ1 a1 w1 hr1 he1 hf1 hd1
      show Code.rounds P c Q k a1 w1
      refine iterB_ok ih k _ _ _ _ _ hi μ1 a1 w1 Q hr1 he1 ?_
      intro μ2 a2 w2 hr2 he2 hf2 hd2
      exact hq μ2 a2 w2 hr2 he2 (hf1.trans hf2) (hd2.trans hd1)
    · rename_i hno
      rw [rounds_succ]
      refine ih _ _ _ _ _ hi μ a w _ hr he ?_
      intro μ1 a1 w1 hr1 he1 hf1 hd1
      have := hq μ1 a1 w1 hr1 he1 hf1 hd1
      cases out with
      | normal => exact absurd hi (hno _ _)
      | exit id => exact this
      | ret => exact this

theorem codeB_ok (horc : OrcOK P Z G orc) (hext : ExtOK P ext) (hname : NoNum P) (hmix : P.follows .mixedOrders = true) : ∀ (c : Code) env h out env' h', codeB P G ext orc n fuel c env h = some (out, env', h') → CodeOK P Z G n c env h out env' h' := by
  intro c
  induction c with
  | skip =>
    intro env h out env' h' hc μ a w Q hr he hq
    simp only [codeB_skip, Option.some.injEq, Prod.mk.injEq] at hc
    obtain ⟨rfl, rfl, rfl⟩ := hc
    exact wp_skip (hq μ a w hr he (FR.refl _ _ _) rfl)
  | region id ops draw =>
    intro env h out env' h' hc μ a w Q hr he hq
    cases draw with
    | false =>
      simp only [codeB_ops] at hc
      split at hc
      · rename_i env1 h1 hb
        simp only [Option.some.injEq, Prod.mk.injEq] at hc
        obtain ⟨rfl, rfl, rfl⟩ := hc
        exact wp_region (opsB_ok horc hext hname hb hr he hq)
      · cases hc
    | true =>
      simp only [codeB_draw] at hc
      split at hc
      · rename_i env1 h1 hb
        simp only [Option.some.injEq, Prod.mk.injEq] at hc
        obtain ⟨rfl, rfl, rfl⟩ := hc
        exact drawF_ok horc hext hname hmix hb hr he hq
      · cases hc
  | seq x y ihx ihy =>
    intro env h out env' h' hc μ a w Q hr he hq
    simp only [codeB_seq] at hc
    split at hc
    · rename_i env1 h1 hb
      refine wp_seq (ihx _ _ _ _ _ hb μ a w _ hr he ?_)
      intro μ1 a1 w1 hr1 he1 hf1 hd1
      show y.wp P Q a1 w1
      refine ihy _ _ _ _ _ hc μ1 a1 w1 Q hr1 he1 ?_
      intro μ2 a2 w2 hr2 he2 hf2 hd2
      exact hq μ2 a2 w2 hr2 he2 (hf1.trans hf2) (hd2.trans hd1)
    · rename_i hno
      refine wp_seq (ihx _ _ _ _ _ hc μ a w _ hr he ?_)
      intro μ1 a1 w1 hr1 he1 hf1 hd1
      have := hq μ1 a1 w1 hr1 he1 hf1 hd1
      cases out with
      | normal => exact absurd hc (hno _ _)
      | exit id => exact this
      | ret => exact this
  | cond c x y ihx ihy =>
    intro env h out env' h' hc μ a w Q hr he hq
    simp only [codeB_cond] at hc
    split at hc
    · rename_i hv
      have := ev_ok hv he hr.glob
      simp only [VR] at this
      exact wp_cond_true this (ihx _ _ _ _ _ hc μ a w Q hr he hq)
    · rename_i hv
      have := ev_ok hv he hr.glob
      simp only [VR] at this
      exact wp_cond_false this (ihy _ _ _ _ _ hc μ a w Q hr he hq)
    · cases hc
  | block id c ih =>
    intro env h out env' h' hc μ a w Q hr he hq
    simp only [codeB_block] at hc
    split at hc
    · rename_i j env1 h1 hb
      refine wp_block (ih _ _ _ _ _ hb μ a w _ hr he ?_)
      intro μ1 a1 w1 hr1 he1 hf1 hd1
      split at hc
      · rename_i hj
        simp only [Option.some.injEq, Prod.mk.injEq] at hc
        obtain ⟨rfl, rfl, rfl⟩ := hc
        show (if j = id then Q .normal a1 w1 else Q (.exit j) a1 w1)
        rw [if_pos (beq_iff.1 hj)]
        exact hq μ1 a1 w1 hr1 he1 hf1 hd1
      · rename_i hj
        simp only [Option.some.injEq, Prod.mk.injEq] at hc
        obtain ⟨rfl, rfl, rfl⟩ := hc
        show (if j = id then Q .normal a1 w1 else Q (.exit j) a1 w1)
        rw [if_neg (fun h => by rw [beq_iff.2 h] at hj; cases hj)]
        exact hq μ1 a1 w1 hr1 he1 hf1 hd1
    · rename_i hno
      refine wp_block (ih _ _ _ _ _ hc μ a w _ hr he ?_)
      intro μ1 a1 w1 hr1 he1 hf1 hd1
      have := hq μ1 a1 w1 hr1 he1 hf1 hd1
      cases out with
      | exit id => exact absurd hc (hno _ _ _)
      | normal => exact this
      | ret => exact this
  | loop c ih =>
    intro env h out env' h' hc μ a w Q hr he hq
    simp only [codeB_loop] at hc
    exact wp_loop_rounds fuel (iterB_ok ih fuel _ _ _ _ _ hc μ a w Q hr he hq)
  | rangeFunc => intro env h out env' h' hc; simp [codeB_func] at hc
  | exit id =>
    intro env h out env' h' hc μ a w Q hr he hq
    simp only [codeB_exit, Option.some.injEq, Prod.mk.injEq] at hc
    obtain ⟨rfl, rfl, rfl⟩ := hc
    exact wp_exit (hq μ a w hr he (FR.refl _ _ _) rfl)
  | scope c ih =>
    intro env h out env' h' hc μ a w Q hr he hq
    simp only [codeB_scope] at hc
    refine wp_scope_straight (ih _ _ _ _ _ hc μ a w _ hr he ?_)
    intro μ1 a1 w1 hr1 he1 hf1 hd1
    have := hq μ1 a1 w1 hr1 he1 hf1 hd1
    cases out <;> exact this
  | label l =>
    intro env h out env' h' hc μ a w Q hr he hq
    simp only [codeB_label, Option.some.injEq, Prod.mk.injEq] at hc
    obtain ⟨rfl, rfl, rfl⟩ := hc
    exact wp_label (hq μ a w hr he (FR.refl _ _ _) rfl)
  | goto l => intro env h out env' h' hc; simp [codeB_goto] at hc
  | ret =>
    intro env h out env' h' hc μ a w Q hr he hq
    simp only [codeB_ret, Option.some.injEq, Prod.mk.injEq] at hc
    obtain ⟨rfl, rfl, rfl⟩ := hc
    exact wp_ret (hq μ a w hr he (FR.refl _ _ _) rfl)
  | refuse why => intro env h out env' h' hc; simp [codeB_refuse] at hc

/-! Calls. -/

theorem setArgs_ok : ∀ (args : List Value) (i : Nat) (t : T (Option Value)), t.fits 12 → i + args.length ≤ 4096 →
    (setArgs args i t).fits 12 ∧ ∀ j, j < 4096 → (setArgs args i t).get j = if i ≤ j ∧ j < i + args.length then args[j - i]? else t.get j
  | [], i, t, ht, _ => ⟨ht, fun j _ => by rw [if_neg (by simp only [List.length_nil]; omega)]; rfl⟩
  | v :: vs, i, t, ht, hl => by
    simp only [List.length_cons] at hl
    obtain ⟨h1, h2⟩ := setArgs_ok vs (i + 1) (T.set 12 t i (some v)) (T.fits_set 12 _ _ _ ht) (by omega)
    refine ⟨h1, fun j hj => ?_⟩
    rw [setArgs, h2 j hj, T.get_set 12 _ _ _ _ ht (by simp; omega) (by simpa using hj)]
    by_cases hq : i + 1 ≤ j ∧ j < i + 1 + vs.length
    · rw [if_pos hq, if_pos (by simp only [List.length_cons]; omega)]
      rw [show j - i = (j - (i + 1)) + 1 from by omega]
      simp
    · rw [if_neg hq]
      by_cases he : j = i
      · subst he
        rw [if_pos rfl, if_pos (by simp)]
        simp
      · rw [if_neg he, if_neg (by simp only [List.length_cons]; omega)]

theorem args_env {μ : Mu} {args args' : List Value} {m : Nat} (hv : VRL μ args args') (hm : args.length ≤ m) (hM : m ≤ 4096) :
    EnvOK μ m (setArgs args 0 (.leaf (some undef))) { tmps := args'.toArray ++ Array.replicate (m - args'.toArray.size) undef, defers := [] } := by
  have hl := hv.length
  obtain ⟨h1, h2⟩ := setArgs_ok args 0 (.leaf (some undef)) (T.fits_leaf _ _) (by omega)
  refine ⟨by simp; omega, hM, h1, ?_⟩
  intro t v ht hg
  rw [h2 t (by omega)] at hg
  by_cases hlt : t < args.length
  · rw [if_pos (by omega)] at hg
    simp only [Nat.sub_zero] at hg
    obtain ⟨v', hv', hr⟩ := hv.at hg
    have : (args'.toArray ++ Array.replicate (m - args'.toArray.size) undef)[t]? = some v' := by
      rw [Array.getElem?_append_left (by simp; omega)]
      simpa using hv'
    show VR μ v ((args'.toArray ++ Array.replicate (m - args'.toArray.size) undef).getD t undef)
    rw [Array.getD_eq_getD_getElem?, this]
    exact hr
  · rw [if_neg (by omega)] at hg
    simp only [T.get, Option.some.injEq] at hg
    subst hg
    have : (args'.toArray ++ Array.replicate (m - args'.toArray.size) undef)[t]? = some undef := by
      rw [Array.getElem?_append_right (by simp; omega), Array.getElem?_replicate, if_pos (by simp; omega)]
    show VR μ undef ((args'.toArray ++ Array.replicate (m - args'.toArray.size) undef).getD t undef)
    rw [Array.getD_eq_getD_getElem?, this]
    exact VR.of_pure (show pureV undef = true from rfl)

theorem resB_ok {μ : Mu} {m : Nat} {env : T (Option Value)} {h : AH} {a : Act} {w : World} (hr : HR Z G μ h w) (he : EnvOK μ m env a) : ∀ (rs : List ResultVar) (vs : List Value), resB P m env h rs = some vs →
    ∃ vs', VRL μ vs vs' ∧ (rs.mapM (fun | .tmp t => pure (a.tmps.getD t undef) | .cell x t => do loadVar t (← asAddr (a.tmps.getD x undef)) : ResultVar → Sem Value)).run P w = .ok vs' w
  | [], vs, hv => by simp only [resB, Option.some.injEq] at hv; subst hv; exact ⟨[], VRL.nil, rfl⟩
  | .tmp t :: rs, vs, hv => by
    simp only [resB] at hv
    split at hv
    · rename_i hlt
      split at hv
      · rename_i v us hg hus
        cases hv
        obtain ⟨us', h1, h2⟩ := resB_ok hr he rs us hus
        refine ⟨_, VRL.cons (he.at_ t v (blt_iff.1 hlt) hg) h1, ?_⟩
        simp only [List.mapM_cons, Sem.run_bind, Sem.run_pure, Result.andThen_ok, h2]
      · cases hv
    · cases hv
  | .cell x t :: rs, vs, hv => by
    simp only [resB] at hv
    split at hv
    · rename_i hlt
      split at hv
      · rename_i p hg
        split at hv
        · rename_i v us hld hus
          cases hv
          obtain ⟨us', h1, h2⟩ := resB_ok hr he rs us hus
          have hp := he.at_ x p (blt_iff.1 hlt) hg
          obtain ⟨v', h3, h4⟩ := loadB_ok (P := P) hr hld hp
          refine ⟨_, VRL.cons h4 h1, ?_⟩
          have h5 : ((do loadVar t (← asAddr (a.tmps.getD x undef))) : Sem Value).run P w = .ok v' w := by
            unfold loadB at hld
            split at hld
            · simp only [VR] at hp
              obtain ⟨l, _, _, hpe⟩ := hp
              rw [hpe] at h3 ⊢
              exact h3
            · cases hld
          simp only [List.mapM_cons, Sem.run_bind, Sem.run_pure] at h5 ⊢
          rw [h5]
          simp only [Result.andThen_ok, h2]
        · cases hv
      · cases hv
    · cases hv

theorem resV_ok {μ : Mu} {vs vs' : List Value} (h : VRL μ vs vs') : VR μ (resV vs) (if h : vs'.toArray.size = 1 then vs'.toArray[0] else .tuple vs'.toArray) := by
  have hl := h.length
  cases vs with
  | nil =>
    simp only [VRL] at h
    subst h
    exact VR.of_pure rfl
  | cons v us =>
    simp only [VRL] at h
    obtain ⟨v', us', rfl, h1, h2⟩ := h
    cases us with
    | nil =>
      simp only [VRL] at h2
      subst h2
      simpa [resV] using h1
    | cons u ts =>
      simp only [VRL] at h2
      obtain ⟨u', ts', rfl, h3, h4⟩ := h2
      simp only [resV]
      rw [dif_neg (by simp)]
      exact VR.tuple_mk (by simpa using VRL.cons h1 (VRL.cons h3 h4))

/-- What a call owes, memory given. -/
theorem bodyB_ok (horc : OrcOK P Z G orc) (hext : ExtOK P ext) (hname : NoNum P) (hmix : P.follows .mixedOrders = true) {g : FuncId} {args : List Value} {h : AH} {v : Value} {h' : AH} (hb : bodyB P G ext fuel orc g args h = some (v, h')) {μ : Mu} {w : World} {args' : List Value}
    (hr : HR Z G μ h w) (hv : VRL μ args args') : Calls P g args'.toArray w fun e w' => ∃ v', e = .returned v' ∧ Owe Z G μ h w v (some h') v' w' := by
  unfold bodyB at hb
  split at hb
  case h_2 => cases hb
  rename_i fn hf
  split at hb
  case h_2 => cases hb
  rename_i c hc
  split at hb
  case h_2 => cases hb
  rename_i hl1 hl2
  have henv := args_env hv (ble_iff.1 hl1) (ble_iff.1 hl2)
  refine calls_of_wp hf hc ?_
  have fin : ∀ (out : Out) (env1 : T (Option Value)), codeB P G ext orc fn.ntmps fuel c (setArgs args 0 (.leaf (some undef))) h = some (out, env1, h') → (∀ vs, resB P fn.ntmps env1 h' fn.results.toList = some vs → resV vs = v → (out = .normal ∨ out = .ret) →
      c.wp P (bodyPost P fn fun e w' => ∃ v', e = .returned v' ∧ Owe Z G μ h w v (some h') v' w') { tmps := args'.toArray ++ Array.replicate (fn.ntmps - args'.toArray.size) undef, defers := [] } w) := by
    intro out env1 hcode vs hres hvs hout
    refine codeB_ok horc hext hname hmix c _ _ _ _ _ hcode μ _ w _ hr henv ?_
    intro μ1 a1 w1 hr1 he1 hf1 hd1
    obtain ⟨vs', h1, h2⟩ := resB_ok (P := P) hr1 he1 _ _ hres
    have hrun : (results fn a1.tmps).run P w1 = .ok (if h : vs'.toArray.size = 1 then vs'.toArray[0] else .tuple vs'.toArray) w1 := by
      unfold results
      rw [Array.mapM_eq_mapM_toList]
      simp only [Sem.run_bind, Sem.run_map, Sem.run_pure]
      erw [h2]
      rfl
    have hpost : a1.defers = [] ∧ ∃ v', (results fn a1.tmps).run P w1 = .ok v' w1 ∧ ∃ v'', Ending.returned v' = .returned v'' ∧ Owe Z G μ h w v (some h') v'' w1 :=
      ⟨hd1, _, hrun, _, rfl, μ1, hvs ▸ resV_ok h1, hr1, hf1⟩
    rcases hout with rfl | rfl <;> exact hpost
  split at hb
  · rename_i env1 h1 hcode
    rw [Option.map_eq_some_iff] at hb
    obtain ⟨vs, hres, hb⟩ := hb
    cases hb
    exact fin _ _ hcode vs hres rfl (.inl rfl)
  · rename_i env1 h1 hcode
    rw [Option.map_eq_some_iff] at hb
    obtain ⟨vs, hres, hb⟩ := hb
    cases hb
    exact fin _ _ hcode vs hres rfl (.inr rfl)
  · cases hb

theorem mutB_ok (horc : OrcOK P Z G orc) (hext : ExtOK P ext) (hname : NoNum P) (hmix : P.follows .mixedOrders = true) : OrcOK P Z G (mutB P G ext fuel orc) := by
  intro g args h v ho hb μ w args' hr hv
  unfold mutB at hb
  rw [Option.map_eq_some_iff] at hb
  obtain ⟨⟨v1, h1⟩, hb1, hb2⟩ := hb
  cases hb2
  exact bodyB_ok horc hext hname hmix hb1 hr hv

theorem overB_ok (horc : OrcOK P Z G orc) (hext : ExtOK P ext) (hname : NoNum P) (hmix : P.follows .mixedOrders = true) : OrcOK P Z G (overB P G ext fuel orc) := by
  intro g args h v ho hb μ w args' hr hv
  unfold overB at hb
  split at hb
  case h_2 => cases hb
  rename_i v1 h1 hb1
  have hcall := bodyB_ok horc hext hname hmix hb1 hr.locked hv
  refine hcall.mono ?_
  rintro e w' ⟨v', rfl, ν, hv1, hr1, hf1⟩
  refine ⟨v', rfl, ?_⟩
  have hold := FR.locked_blk hf1
  split at hb
  · rename_i hp
    cases hb
    refine ⟨μ, ?_, hr.congr (fun i l hi hl => ?_), ?_⟩
    · rw [VR.pure hp] at hv1 ⊢; exact hv1
    · cases hg : h.get i with
      | none => exact absurd hg hi
      | some b =>
        obtain ⟨l', hl', hbr⟩ := hr.blk i b hg
        rw [hl] at hl'; cases hl'
        exact hold _ hbr.lt
    · exact ⟨Mu.le_refl _, hf1.os, hf1.tape, hf1.output, hf1.size, rfl, rfl, Nat.le_refl _, fun _ _ => rfl, fun _ _ h => h, fun _ h _ => h, fun b hb _ => hold b hb⟩
  · cases hb
    exact ⟨ν, hv1, hr1.relock _, FR.unlock hr hf1⟩


theorem deepB_ok (hext : ExtOK P ext) (hname : NoNum P) (hmix : P.follows .mixedOrders = true) {base : Orc} (hbase : OrcOK P Z G base) (mt : FuncId → Bool) : ∀ d, OrcOK P Z G (deepB P G ext fuel base mt d)
  | 0 => hbase
  | d + 1 => by
    intro g args h v ho hb
    simp only [deepB] at hb
    split at hb
    · rename_i r hr
      cases hb
      exact hbase g args h v ho hr
    · split at hb
      · split at hb
        · cases hb
        · exact mutB_ok (deepB_ok hext hname hmix hbase mt d) hext hname hmix g args h v ho hb
      · exact overB_ok (deepB_ok hext hname hmix hbase mt d) hext hname hmix g args h v ho hb

theorem noBase_ok : OrcOK P Z G noBase := fun _ _ _ _ _ hb => by cases hb

end
end Go.Proofs.YtlccfcbifplhkaaGreatDoor.V
