/- The small machine's codes and calls agree with the model's. Conditions: none. -/
import Derived.Test.YtibffohcmegooaaGreatDoorVd4
namespace Go.Proofs.YtibffohcmegooaaGreatDoor.V
set_option linter.all false
open Go

def Out.toExit : Out → Exit
  | .normal => .normal
  | .exit id => .exit id
  | .ret => .ret

section
variable {P : Program} {Z : AH} {G n fuel : Nat} {ext : FuncId → Option Ext} {orc : Orc}

/-! Marks: a loop over a function leaves a block for deferred calls among an activation's own. -/
def markD (b : Nat) : Deferred := { target := .collected b, args := #[] }

def MarkAt (w0 : World) (h : AH) (μ : Mu) (w : World) (b : Nat) : Prop :=
  w0.heap.size ≤ b ∧ w.heap[b]? = some (.deferred (some [])) ∧ h.lock ≤ h.next ∧ ∀ i l, h.get i ≠ none → μ i = some l → l.b ≠ b

def DefK (nf : Bool) (w0 : World) (h : AH) (μ : Mu) (w : World) (ds ds' : List Deferred) : Prop :=
  ∃ bs : List Nat, ds' = bs.map markD ++ ds ∧ bs.Nodup ∧ (∀ b ∈ bs, MarkAt w0 h μ w b) ∧ (nf = true → bs = [])

theorem DefK.refl {nf : Bool} {w0 : World} {h : AH} {μ : Mu} {w : World} {ds : List Deferred} : DefK nf w0 h μ w ds ds := ⟨[], rfl, List.nodup_nil, fun _ h => (by cases h), fun _ => rfl⟩
theorem DefK.same {nf : Bool} {w0 : World} {h : AH} {μ : Mu} {w : World} {ds ds' : List Deferred} (e : ds' = ds) : DefK nf w0 h μ w ds ds' := e ▸ .refl
theorem DefK.weak {a b : Bool} {w0 : World} {h : AH} {μ : Mu} {w : World} {ds ds' : List Deferred} (m : DefK a w0 h μ w ds ds') (hab : b = true → a = true) : DefK b w0 h μ w ds ds' := by
  obtain ⟨bs, h1, h2, h3, h4⟩ := m
  exact ⟨bs, h1, h2, h3, fun h => h4 (hab h)⟩
theorem DefK.none {w0 : World} {h : AH} {μ : Mu} {w : World} {ds ds' : List Deferred} (m : DefK true w0 h μ w ds ds') : ds' = ds := by
  obtain ⟨bs, h1, _, _, h4⟩ := m
  rw [h1, h4 rfl]; rfl

theorem MarkAt.lt {w0 w : World} {h : AH} {μ : Mu} {b : Nat} (m : MarkAt w0 h μ w b) : b < w.heap.size := by
  rcases Nat.lt_or_ge b w.heap.size with h' | h'
  · exact h'
  · have := m.2.1
    rw [Array.getElem?_eq_none h'] at this; cases this

theorem MarkAt.step {w0 w w' : World} {h h' : AH} {μ μ' : Mu} {b : Nat} (m : MarkAt w0 h μ w b) (x : HR Z G μ h w) (f : FR h μ w h' μ' w') : MarkAt w0 h' μ' w' b := by
  obtain ⟨h1, h2, h3, h4⟩ := m
  have hlt := MarkAt.lt ⟨h1, h2, h3, h4⟩
  have hno : ¬ Wr h μ b := by
    rintro ⟨i, l, _, hi, hl, rfl⟩
    exact h4 i l hi hl rfl
  refine ⟨h1, by rw [f.blk b hlt hno]; exact h2, by rw [f.lock]; exact Nat.le_trans h3 f.next, ?_⟩
  intro i l hi hl he
  by_cases ho : i < h.next ∨ 16777216 ≤ i
  · exact h4 i l (f.sub i ho hi) (by rw [← f.old i ho]; exact hl) he
  · refine hno (f.wr b ⟨i, l, ?_, hi, hl, he⟩ hlt)
    have h5 := x.imp
    unfold AH.may
    rw [Bool.and_eq_true, ble_iff, AH.own_iff, f.lock, f.imp]
    omega

theorem DefK.step {w0 w w' : World} {h h' : AH} {μ μ' : Mu} {ds ds' : List Deferred} {nf : Bool} (m : DefK nf w0 h μ w ds ds') (x : HR Z G μ h w) (f : FR h μ w h' μ' w') : DefK nf w0 h' μ' w' ds ds' := by
  obtain ⟨bs, h1, h2, h3, h4⟩ := m
  exact ⟨bs, h1, h2, fun b hb => (h3 b hb).step x f, h4⟩

theorem DefK.trans {w0 w w' : World} {h h' : AH} {μ μ' : Mu} {ds ds' ds'' : List Deferred} {nf nf' : Bool} (m : DefK nf w0 h μ w ds ds') (hs : w0.heap.size ≤ w.heap.size) (x : HR Z G μ h w) (f : FR h μ w h' μ' w') (m' : DefK nf' w h' μ' w' ds' ds'') : DefK (nf && nf') w0 h' μ' w' ds ds'' := by
  obtain ⟨bs, h1, h2, h3, h4⟩ := m
  obtain ⟨cs, k1, k2, k3, k4⟩ := m'
  refine ⟨cs ++ bs, by rw [k1, h1]; simp, ?_, ?_, fun h => by rw [Bool.and_eq_true] at h; rw [h4 h.1, k4 h.2]; rfl⟩
  · rw [List.nodup_append]
    refine ⟨k2, h2, fun a ha b hb he => ?_⟩
    subst he
    have h4 := (h3 a hb).lt
    have h5 := (k3 a ha).1
    omega
  · intro b hb
    rcases List.mem_append.1 hb with hb | hb
    · obtain ⟨a1, a2, a3, a4⟩ := k3 b hb
      exact ⟨Nat.le_trans hs a1, a2, a3, a4⟩
    · exact (h3 b hb).step x f

/-- What a piece of code owes. -/
def CodeOK (P : Program) (Z : AH) (G n : Nat) (ro : Option Nat) (c : Code) (env : T (Option Value)) (h : AH) (out : Out) (env' : T (Option Value)) (h' : AH) : Prop :=
  ∀ (μ : Mu) (a : Act) (w : World) (Q : Exit → Act → World → Prop), HR Z G μ h w → EnvOK μ n env a →
    (∀ μ' a' w', HR Z G μ' h' w' → EnvOK μ' n env' a' → FR h μ w h' μ' w' → DefK (noFunc c) w h' μ' w' a.defers a'.defers → Q out.toExit a' w') → c.wpIn (Fr ro) 0 P Q a w

/-! A loop over a function: the statement. -/
theorem HR.grow {μ : Mu} {h : AH} {w : World} (x : HR Z G μ h w) (o : Obj) : HR Z G μ h (w.alloc o) ∧ FR h μ w h μ (w.alloc o) := by
  have hk : ∀ b, b < w.heap.size → (w.alloc o).heap[b]? = w.heap[b]? := by
    intro b hb
    show (w.heap.push o)[b]? = _
    rw [Array.getElem?_push, if_neg (by omega)]
  refine ⟨x.congr fun i l hi hl => hk _ ?_, ⟨Mu.le_refl _, rfl, rfl, rfl, by show _ ≤ (w.heap.push o).size; simp, rfl, rfl, Nat.le_refl _, fun _ _ => rfl, fun _ _ h => h, fun _ h _ => h, fun b hb _ => hk b hb, fun _ _ _ => rfl⟩⟩
  cases hg : h.get i with
  | none => exact absurd hg hi
  | some b =>
    obtain ⟨l', hl', hr⟩ := x.blk i b hg
    rw [hl] at hl'; cases hl'
    exact hr.lt

theorem seq_run {f : Operand} {a : Act} {w : World} {l : Nat} {g : FuncId} {fn : Func} (hname : NoNum P) (hf : P.funcs[g]? = some fn) (hb : fn.body.isNone = false) {first captured : List Value}
    (hfv : a.eval f = .func (.func g) ⟨first⟩ ⟨captured⟩) : ∃ d : Deferred, (resolve a.eval (rangeCall f l) 0).run P w = .ok d w ∧
      (invoke d.target d.args).run P w = .ok (.enter g (first ++ [Value.func (.yield l) #[] #[]] ++ captured).toArray) w := by
  have h1 := hname g fn hf
  have hm : Array.map a.eval #[Operand.const (Value.func (Fn.yield l) #[] #[])] = #[Value.func (Fn.yield l) #[] #[]] := by simp [Act.eval]
  refine ⟨{ target := .fn (.func g) ⟨captured⟩, args := (⟨first⟩ : Array Value) ++ #[Value.func (.yield l) #[] #[]] }, ?_, ?_⟩
  · simp only [resolve, hfv, Deferred.ofValue, Sem.run_pure, hm]
  · simp only [invoke, callFunc, run_program, Sem.run_bind, Result.andThen_ok, hf, h1, Bool.false_eq_true, if_false, hb, Sem.run_pure]
    congr 2
    apply Array.ext'
    simp

theorem cFunc_ok (horc : OrcOK P Z G orc) (hname : NoNum P) {f : Operand} {ps : Array Tmp} {x y : Code} {env : T (Option Value)} {h : AH} {out : Out} {env' : T (Option Value)} {h' : AH}
    (hc : cFunc f ps x y P G ext orc n fuel env h = some (out, env', h')) {μ : Mu} {a : Act} {w : World} {Q : Exit → Act → World → Prop} (hr : HR Z G μ h w) (he : EnvOK μ n env a)
    (hq : ∀ μ' a' w', HR Z G μ' h' w' → EnvOK μ' n env' a' → FR h μ w h' μ' w' → DefK false w h' μ' w' a.defers a'.defers → Q out.toExit a' w') :
    (Code.rangeFunc f ps x y).wpIn (Fr none) 0 P Q a w := by
  unfold cFunc at hc
  split at hc
  case h_2 => cases hc
  rename_i hx hy hle
  split at hc
  case h_2 => cases hc
  rename_i fv hfv
  split at hc
  case h_2 => cases hc
  rename_i i h1 hnew
  split at hc
  case h_2 => cases hc
  rename_i v2 ho hcall
  have hv := ev_ok hfv he hr.glob
  unfold seqB at hcall
  split at hcall
  case h_2 => cases hcall
  rename_i g first captured
  split at hcall
  case h_2 => cases hcall
  rename_i fn hf
  split at hcall
  case h_2 => cases hcall
  rename_i cbody hbody
  simp only [VR, FnR] at hv
  obtain ⟨_, first', captured', hfe, rfl, hv1, hv2⟩ := hv
  refine wpIn_rangeFunc fun fnid _ => ?_
  have hgrow := hr.grow (.deferred (some []))
  let rec0 : Loop := { state := .ready, pending := none, fn := fnid, tmps := a.tmps, params := ps, assign := x, body := y, defers := w.heap.size }
  obtain ⟨rfl, ν, hνi, hr1, hf1⟩ := HR.new hgrow.1 hnew (.loop rec0) 0 0 (fun ν hle => ⟨rfl, rfl, he.le, he.fits, hx, hy, rec0, World.alloc_heap_new _ _, rfl, rfl, rfl, rfl, rfl, he.size, fun t v ht hv => (he.at_ t v ht hv).mono hle⟩)
  have hsz : (w.alloc (.deferred (some []))).heap.size = w.heap.size + 1 := World.size_alloc _ _
  obtain ⟨d, hd1, hd2⟩ := seq_run (P := P) (w := (w.alloc (.deferred (some []))).alloc (.loop rec0)) (l := w.heap.size + 1) hname hf (by rw [hbody]; rfl) hfe
  refine ⟨w.heap.size + 1, [markD w.heap.size], _, d, _, g, _, _, run_enterLoop_outer fnid a.tmps ps x y, hd1, fun _ _ => trivial, hd2, fun h => (by cases h), ?_⟩
  have hyv : VR ν (.func (.yield h.next) ⟨[]⟩ ⟨[]⟩) (.func (.yield (w.heap.size + 1)) #[] #[]) := by
    simp only [VR, FnR, VRL]
    exact ⟨_, _, _, rfl, ⟨_, hνi, by rw [← hsz]⟩, rfl, rfl⟩
  have hargs : VRL ν (first ++ [.func (.yield h.next) ⟨[]⟩ ⟨[]⟩] ++ captured) (first' ++ [.func (.yield (w.heap.size + 1)) #[] #[]] ++ captured') :=
    ((hv1.mono hf1.le).append (VRL.cons hyv VRL.nil)).append (hv2.mono hf1.le)
  have hC := (horc g _ h1 v2 ho hcall ν _ _ hr1 hargs).1 (.inr (by rw [hf]; simp))
  refine callsIn_wide.2 (hC.mono ?_)
  rintro e w3 ⟨v', rfl, ν2, _, hr2, hf2⟩
  have hmay : (ho.getD h1).may h.next = true := by
    rw [AH.may_of hf2.lock hf2.imp]
    unfold AH.may
    rw [Bool.and_eq_true, ble_iff, AH.own_iff, hf1.lock, hf1.imp]
    have h5 := hr.imp
    have h6 : h.next < 16777216 := by
      unfold AH.new at hnew
      split at hnew
      · rename_i hlt; exact blt_iff.1 hlt
      · cases hnew
    exact ⟨ble_iff.1 hle, h5, h6⟩
  have hνi2 := hf2.le _ _ hνi
  rw [hsz] at hνi2
  have hm0 : MarkAt w h μ (w.alloc (.deferred (some []))) w.heap.size := by
    refine ⟨Nat.le_refl _, World.alloc_heap_new _ _, ble_iff.1 hle, fun i l hi hl heq => ?_⟩
    cases hg : h.get i with
    | none => exact hi hg
    | some b =>
      obtain ⟨l', hl', hbr⟩ := hr.blk i b hg
      rw [hl] at hl'; cases hl'
      have := hbr.lt
      omega
  have fin : ∀ (env3 : T (Option Value)) (n3 : Nat) (ps3 : Array Tmp) (x3 y3 : Code) (st3 : LoopState) (pend3 : Option Code) (hst : st3 ≠ .busy)
      (hget : (ho.getD h1).get h.next = some (.loop env3 n3 ps3 x3 y3 st3 pend3)) (out : Out) (hj : jumpOut pend3 = some out)
      (hq : ∀ μ' a' w', HR Z G μ' ((ho.getD h1).put h.next none) w' → EnvOK μ' n env a' → FR h μ w ((ho.getD h1).put h.next none) μ' w' → DefK false w ((ho.getD h1).put h.next none) μ' w' a.defers a'.defers → Q out.toExit a' w'),
      rangePost (Fr none) 0 P (w.heap.size + 1) Q { a with defers := [markD w.heap.size] ++ a.defers } (.returned v') w3 := by
    intro env3 n3 ps3 x3 y3 st3 pend3 hst hget out hj hq
    obtain ⟨l3, hl3, hbr⟩ := hr2.blk _ _ hget
    rw [hνi2] at hl3; cases hl3
    obtain ⟨_, _, _, _, _, _, r3, k1, k2, k3, _⟩ := hbr
    simp only at k1
    have hput := HR.put (w' := w3.putObj (w.heap.size + 1) (.loop { r3 with state := .exhausted })) hr2 (b := none) hmay hget hνi2 (World.putObj_size) (fun k hk => World.putObj_heap_other hk) rfl rfl rfl (fun bb h => by cases h)
    have hq' : Q out.toExit { a with defers := [markD w.heap.size] ++ a.defers } (w3.putObj (w.heap.size + 1) (.loop { r3 with state := .exhausted })) := by
      refine hq ν2 _ _ hput.1 ?_ (((hgrow.2.trans hf1).trans hf2).trans hput.2) ?_
      · have := he.mono (Mu.le_trans hf1.le hf2.le)
        exact ⟨this.size, this.le, this.fits, this.at_⟩
      · refine ⟨[w.heap.size], rfl, by simp, ?_, fun h => by cases h⟩
        intro b hb
        simp at hb
        subst hb
        exact ((hm0.step hgrow.1 hf1).step hr1 hf2).step hr2 hput.2
    refine ⟨pend3, w3.putObj (w.heap.size + 1) (.loop { r3 with state := .exhausted }), ?_, ?_⟩
    · rw [← k3]
      exact run_endLoop k1 (by rw [k2]; exact hst)
    · cases pend3 with
      | none => cases hj; exact hq'
      | some c =>
        cases c <;> simp only [jumpOut] at hj <;> cases hj
        · exact wpIn_exit hq'
        · exact wpIn_ret hq'
  split at hc
  · cases hc
  · rename_i env3 n3 ps3 x3 y3 st3 pend3 hst hget
    split at hc
    case h_2 => cases hc
    rename_i out3 hj
    simp only [Option.some.injEq, Prod.mk.injEq] at hc
    obtain ⟨rfl, rfl, rfl⟩ := hc
    refine fin _ _ _ _ _ st3 pend3 ?_ hget _ hj hq
    intro hbusy
    subst hbusy
    exact hst rfl
  · cases hc

theorem iterB_ok {ro : Option Nat} {c : Code} {body : T (Option Value) → AH → CR} (ih : ∀ env h out env' h', body env h = some (out, env', h') → CodeOK P Z G n ro c env h out env' h') :
    ∀ k env h out env' h', iterB body k env h = some (out, env', h') → ∀ (μ : Mu) (a : Act) (w : World) (Q : Exit → Act → World → Prop), HR Z G μ h w → EnvOK μ n env a →
    (∀ μ' a' w', HR Z G μ' h' w' → EnvOK μ' n env' a' → FR h μ w h' μ' w' → DefK (noFunc c) w h' μ' w' a.defers a'.defers → Q out.toExit a' w') → Code.roundsIn (Fr ro) 0 P c Q k a w
  | 0, env, h, out, env', h', hi => by simp [iterB_zero] at hi
  | k + 1, env, h, out, env', h', hi => by
    intro μ a w Q hr he hq
    simp only [iterB_succ] at hi
    split at hi
    · rename_i env1 h1 hb
      rw [roundsIn_succ]
      refine ih _ _ _ _ _ hb μ a w _ hr he ?_
      intro μ1 a1 w1 hr1 he1 hf1 hd1
      show Code.roundsIn (Fr ro) 0 P c Q k a1 w1
      refine iterB_ok ih k _ _ _ _ _ hi μ1 a1 w1 Q hr1 he1 ?_
      intro μ2 a2 w2 hr2 he2 hf2 hd2
      exact hq μ2 a2 w2 hr2 he2 (hf1.trans hf2) (Bool.and_self (noFunc c) ▸ hd1.trans hf1.size hr1 hf2 hd2)
    · rename_i hno
      rw [roundsIn_succ]
      refine ih _ _ _ _ _ hi μ a w _ hr he ?_
      intro μ1 a1 w1 hr1 he1 hf1 hd1
      have := hq μ1 a1 w1 hr1 he1 hf1 hd1
      cases out with
      | normal => exact absurd hi (hno _ _)
      | exit id => exact this
      | ret => exact this

theorem codeB_ok (ro : Option Nat) (horc : OrcOK P Z G orc) (hext : ExtOK P ext) (hname : NoNum P) (hmix : P.follows .mixedOrders = true) : ∀ (c : Code), (ro = none ∨ noFunc c = true) → ∀ env h out env' h', codeB P G ext orc n fuel c env h = some (out, env', h') → CodeOK P Z G n ro c env h out env' h' := by
  intro c hn
  induction c with
  | skip =>
    intro env h out env' h' hc μ a w Q hr he hq
    simp only [codeB_skip, Option.some.injEq, Prod.mk.injEq] at hc
    obtain ⟨rfl, rfl, rfl⟩ := hc
    exact wpIn_skip (hq μ a w hr he (FR.refl _ _ _) .refl)
  | region id ops draw =>
    intro env h out env' h' hc μ a w Q hr he hq
    cases draw with
    | false =>
      simp only [codeB_ops] at hc
      split at hc
      · rename_i env1 h1 hb
        simp only [Option.some.injEq, Prod.mk.injEq] at hc
        obtain ⟨rfl, rfl, rfl⟩ := hc
        exact wpIn_region (opsB_ok ro horc hext hname hb hr he (fun μ' a' w' h1 h2 h3 h4 => hq μ' a' w' h1 h2 h3 (.same h4)))
      · cases hc
    | true =>
      simp only [codeB_draw] at hc
      split at hc
      · rename_i env1 h1 hb
        simp only [Option.some.injEq, Prod.mk.injEq] at hc
        obtain ⟨rfl, rfl, rfl⟩ := hc
        exact drawF_ok ro horc hext hname hmix hb hr he (fun μ' a' w' h1 h2 h3 h4 => hq μ' a' w' h1 h2 h3 (.same h4))
      · cases hc
  | seq x y ihx ihy =>
    intro env h out env' h' hc μ a w Q hr he hq
    simp only [codeB_seq] at hc
    split at hc
    · rename_i env1 h1 hb
      refine wpIn_seq (ihx (hn.imp id fun h => (Bool.and_eq_true _ _ ▸ h : _ ∧ _).1) _ _ _ _ _ hb μ a w _ hr he ?_)
      intro μ1 a1 w1 hr1 he1 hf1 hd1
      show y.wpIn (Fr ro) 0 P Q a1 w1
      refine ihy (hn.imp id fun h => (Bool.and_eq_true _ _ ▸ h : _ ∧ _).2) _ _ _ _ _ hc μ1 a1 w1 Q hr1 he1 ?_
      intro μ2 a2 w2 hr2 he2 hf2 hd2
      exact hq μ2 a2 w2 hr2 he2 (hf1.trans hf2) (hd1.trans hf1.size hr1 hf2 hd2)
    · rename_i hno
      refine wpIn_seq (ihx (hn.imp id fun h => (Bool.and_eq_true _ _ ▸ h : _ ∧ _).1) _ _ _ _ _ hc μ a w _ hr he ?_)
      intro μ1 a1 w1 hr1 he1 hf1 hd1
      have := hq μ1 a1 w1 hr1 he1 hf1 (hd1.weak fun h => (Bool.and_eq_true _ _ ▸ (show (noFunc x && noFunc y) = true from h) : _ ∧ _).1)
      cases out with
      | normal => exact absurd hc (hno _ _)
      | exit id => exact this
      | ret => exact this
  | cond c x y ihx ihy =>
    intro env h out env' h' hc μ a w Q hr he hq
    simp only [codeB_cond] at hc
    split at hc
    · rename_i hv
      have := ev_ok hv he hr.glob
      simp only [VR] at this
      exact wpIn_cond_true this (ihx (hn.imp id fun h => (Bool.and_eq_true _ _ ▸ h : _ ∧ _).1) _ _ _ _ _ hc μ a w Q hr he (fun μ' a' w' h1 h2 h3 h4 => hq μ' a' w' h1 h2 h3 (h4.weak fun h => (Bool.and_eq_true _ _ ▸ (show (noFunc x && noFunc y) = true from h) : _ ∧ _).1)))
    · rename_i hv
      have := ev_ok hv he hr.glob
      simp only [VR] at this
      exact wpIn_cond_false this (ihy (hn.imp id fun h => (Bool.and_eq_true _ _ ▸ h : _ ∧ _).2) _ _ _ _ _ hc μ a w Q hr he (fun μ' a' w' h1 h2 h3 h4 => hq μ' a' w' h1 h2 h3 (h4.weak fun h => (Bool.and_eq_true _ _ ▸ (show (noFunc x && noFunc y) = true from h) : _ ∧ _).2)))
    · cases hc
  | block id c ih =>
    intro env h out env' h' hc μ a w Q hr he hq
    simp only [codeB_block] at hc
    split at hc
    · rename_i j env1 h1 hb
      refine wpIn_block (ih hn _ _ _ _ _ hb μ a w _ hr he ?_)
      intro μ1 a1 w1 hr1 he1 hf1 hd1
      split at hc
      · rename_i hj
        simp only [Option.some.injEq, Prod.mk.injEq] at hc
        obtain ⟨rfl, rfl, rfl⟩ := hc
        show (if j = id then Q .normal a1 w1 else Q (.exit j) a1 w1)
        rw [if_pos (beq_iff.1 hj)]
        exact hq μ1 a1 w1 hr1 he1 hf1 hd1
      · rename_i hj
        simp only [Option.some.injEq, Prod.mk.injEq] at hc
        obtain ⟨rfl, rfl, rfl⟩ := hc
        show (if j = id then Q .normal a1 w1 else Q (.exit j) a1 w1)
        rw [if_neg (fun h => by rw [beq_iff.2 h] at hj; cases hj)]
        exact hq μ1 a1 w1 hr1 he1 hf1 hd1
    · rename_i hno
      refine wpIn_block (ih hn _ _ _ _ _ hc μ a w _ hr he ?_)
      intro μ1 a1 w1 hr1 he1 hf1 hd1
      have := hq μ1 a1 w1 hr1 he1 hf1 hd1
      cases out with
      | exit id => exact absurd hc (hno _ _ _)
      | normal => exact this
      | ret => exact this
  | loop c ih =>
    intro env h out env' h' hc μ a w Q hr he hq
    simp only [codeB_loop] at hc
    exact wpIn_loop_rounds fuel (iterB_ok (ih hn) fuel _ _ _ _ _ hc μ a w Q hr he hq)
  | rangeFunc f ps x y =>
    intro env h out env' h' hc μ a w Q hr he hq
    rcases hn with rfl | hn
    · rw [codeB_func] at hc
      exact cFunc_ok horc hname hc hr he hq
    · cases hn
  | exit id =>
    intro env h out env' h' hc μ a w Q hr he hq
    simp only [codeB_exit, Option.some.injEq, Prod.mk.injEq] at hc
    obtain ⟨rfl, rfl, rfl⟩ := hc
    exact wpIn_exit (hq μ a w hr he (FR.refl _ _ _) .refl)
  | scope c ih =>
    intro env h out env' h' hc μ a w Q hr he hq
    simp only [codeB_scope] at hc
    refine wpIn_scope (ih hn _ _ _ _ _ hc μ a w _ hr he ?_)
    intro μ1 a1 w1 hr1 he1 hf1 hd1
    have := hq μ1 a1 w1 hr1 he1 hf1 hd1
    cases out <;> exact this
  | label l =>
    intro env h out env' h' hc μ a w Q hr he hq
    simp only [codeB_label, Option.some.injEq, Prod.mk.injEq] at hc
    obtain ⟨rfl, rfl, rfl⟩ := hc
    exact wpIn_label (hq μ a w hr he (FR.refl _ _ _) .refl)
  | goto l => intro env h out env' h' hc; simp [codeB_goto] at hc
  | ret =>
    intro env h out env' h' hc μ a w Q hr he hq
    simp only [codeB_ret, Option.some.injEq, Prod.mk.injEq] at hc
    obtain ⟨rfl, rfl, rfl⟩ := hc
    exact wpIn_ret (hq μ a w hr he (FR.refl _ _ _) .refl)
  | refuse why => intro env h out env' h' hc; simp [codeB_refuse] at hc

/-! Calls. -/

theorem setArgs_ok : ∀ (args : List Value) (i : Nat) (t : T (Option Value)), t.fits 12 → i + args.length ≤ 4096 →
    (setArgs args i t).fits 12 ∧ ∀ j, j < 4096 → (setArgs args i t).get j = if i ≤ j ∧ j < i + args.length then args[j - i]? else t.get j
  | [], i, t, ht, _ => ⟨ht, fun j _ => by rw [if_neg (by simp only [List.length_nil]; omega)]; rfl⟩
  | v :: vs, i, t, ht, hl => by
    simp only [List.length_cons] at hl
    obtain ⟨h1, h2⟩ := setArgs_ok vs (i + 1) (T.set 12 t i (some v)) (T.fits_set 12 _ _ _ ht) (by omega)
    refine ⟨h1, fun j hj => ?_⟩
    rw [setArgs, h2 j hj, T.get_set 12 _ _ _ _ ht (by simp; omega) (by simpa using hj)]
    by_cases hq : i + 1 ≤ j ∧ j < i + 1 + vs.length
    · rw [if_pos hq, if_pos (by simp only [List.length_cons]; omega)]
      rw [show j - i = (j - (i + 1)) + 1 from by omega]
      simp
    · rw [if_neg hq]
      by_cases he : j = i
      · subst he
        rw [if_pos rfl, if_pos (by simp)]
        simp
      · rw [if_neg he, if_neg (by simp only [List.length_cons]; omega)]

theorem args_env {μ : Mu} {args args' : List Value} {m : Nat} (hv : VRL μ args args') (hm : args.length ≤ m) (hM : m ≤ 4096) :
    EnvOK μ m (setArgs args 0 (.leaf (some undef))) { tmps := args'.toArray ++ Array.replicate (m - args'.toArray.size) undef, defers := [] } := by
  have hl := hv.length
  obtain ⟨h1, h2⟩ := setArgs_ok args 0 (.leaf (some undef)) (T.fits_leaf _ _) (by omega)
  refine ⟨by simp; omega, hM, h1, ?_⟩
  intro t v ht hg
  rw [h2 t (by omega)] at hg
  by_cases hlt : t < args.length
  · rw [if_pos (by omega)] at hg
    simp only [Nat.sub_zero] at hg
    obtain ⟨v', hv', hr⟩ := hv.at hg
    have : (args'.toArray ++ Array.replicate (m - args'.toArray.size) undef)[t]? = some v' := by
      rw [Array.getElem?_append_left (by simp; omega)]
      simpa using hv'
    show VR μ v ((args'.toArray ++ Array.replicate (m - args'.toArray.size) undef).getD t undef)
    rw [Array.getD_eq_getD_getElem?, this]
    exact hr
  · rw [if_neg (by omega)] at hg
    simp only [T.get, Option.some.injEq] at hg
    subst hg
    have : (args'.toArray ++ Array.replicate (m - args'.toArray.size) undef)[t]? = some undef := by
      rw [Array.getElem?_append_right (by simp; omega), Array.getElem?_replicate, if_pos (by simp; omega)]
    show VR μ undef ((args'.toArray ++ Array.replicate (m - args'.toArray.size) undef).getD t undef)
    rw [Array.getD_eq_getD_getElem?, this]
    exact VR.of_pure (show pureV undef = true from rfl)

theorem resB_ok {μ : Mu} {m : Nat} {env : T (Option Value)} {h : AH} {a : Act} {w : World} (hr : HR Z G μ h w) (he : EnvOK μ m env a) : ∀ (rs : List ResultVar) (vs : List Value), resB P m env h rs = some vs →
    ∃ vs', VRL μ vs vs' ∧ (rs.mapM (fun | .tmp t => pure (a.tmps.getD t undef) | .cell x t => do loadVar t (← asAddr (a.tmps.getD x undef)) : ResultVar → Sem Value)).run P w = .ok vs' w
  | [], vs, hv => by simp only [resB, Option.some.injEq] at hv; subst hv; exact ⟨[], VRL.nil, rfl⟩
  | .tmp t :: rs, vs, hv => by
    simp only [resB] at hv
    split at hv
    · rename_i hlt
      split at hv
      · rename_i v us hg hus
        cases hv
        obtain ⟨us', h1, h2⟩ := resB_ok hr he rs us hus
        refine ⟨_, VRL.cons (he.at_ t v (blt_iff.1 hlt) hg) h1, ?_⟩
        simp only [List.mapM_cons, Sem.run_bind, Sem.run_pure, Result.andThen_ok, h2]
      · cases hv
    · cases hv
  | .cell x t :: rs, vs, hv => by
    simp only [resB] at hv
    split at hv
    · rename_i hlt
      split at hv
      · rename_i p hg
        split at hv
        · rename_i v us hld hus
          cases hv
          obtain ⟨us', h1, h2⟩ := resB_ok hr he rs us hus
          have hp := he.at_ x p (blt_iff.1 hlt) hg
          obtain ⟨v', h3, h4⟩ := loadB_ok (P := P) hr hld hp
          refine ⟨_, VRL.cons h4 h1, ?_⟩
          have h5 : ((do loadVar t (← asAddr (a.tmps.getD x undef))) : Sem Value).run P w = .ok v' w := by
            unfold loadB at hld
            split at hld
            · simp only [VR] at hp
              obtain ⟨l, _, _, hpe⟩ := hp
              rw [hpe] at h3 ⊢
              exact h3
            · cases hld
          simp only [List.mapM_cons, Sem.run_bind, Sem.run_pure] at h5 ⊢
          rw [h5]
          simp only [Result.andThen_ok, h2]
        · cases hv
      · cases hv
    · cases hv

theorem resV_ok {μ : Mu} {vs vs' : List Value} (h : VRL μ vs vs') : VR μ (resV vs) (if h : vs'.toArray.size = 1 then vs'.toArray[0] else .tuple vs'.toArray) := by
  have hl := h.length
  cases vs with
  | nil =>
    simp only [VRL] at h
    subst h
    exact VR.of_pure rfl
  | cons v us =>
    simp only [VRL] at h
    obtain ⟨v', us', rfl, h1, h2⟩ := h
    cases us with
    | nil =>
      simp only [VRL] at h2
      subst h2
      simpa [resV] using h1
    | cons u ts =>
      simp only [VRL] at h2
      obtain ⟨u', ts', rfl, h3, h4⟩ := h2
      simp only [resV]
      rw [dif_neg (by simp)]
      exact VR.tuple_mk (by simpa using VRL.cons h1 (VRL.cons h3 h4))

/-! A round of a loop over a function. -/
theorem setParams_ok {μ : Mu} {n : Nat} : ∀ (ps : List Tmp) (vs vs' : List Value) (env : T (Option Value)) (tmps : Array Value), VRL μ vs vs' → EnvOK μ n env { tmps := tmps, defers := [] } →
    EnvOK μ n (setParams n ps vs env) { tmps := (ps.zip vs').foldl (fun tmps (t, a) => tmps.setIfInBounds t a) tmps, defers := [] }
  | [], vs, vs', env, tmps, hv, he => by simpa [setParams] using he
  | t :: ts, [], vs', env, tmps, hv, he => by
    simp only [VRL] at hv
    subst hv
    simpa [setParams] using he
  | t :: ts, v :: vs, l', env, tmps, hv, he => by
    simp only [VRL] at hv
    obtain ⟨v', vs', rfl, hv1, hv2⟩ := hv
    simp only [setParams, List.zip_cons_cons, List.foldl_cons]
    split
    · rename_i hlt
      refine setParams_ok ts vs vs' _ _ hv2 ?_
      have := putE_ok (dst := some t) (env' := T.set 12 env t (some v)) (v := v) (v' := v') (by simp only [putE]; rw [hlt]) he hv1
      simpa [Act.put] using this
    · rename_i hlt
      refine setParams_ok ts vs vs' _ _ hv2 ?_
      have hge : ¬ t < n := fun h => by rw [blt_iff.2 h] at hlt; cases hlt
      have : tmps.setIfInBounds t v' = tmps := by
        have := he.size
        simp only at this
        rw [Array.setIfInBounds_eq_of_size_le (by have h2 := Nat.le_of_not_lt hge; rw [← this] at h2; exact h2)]
      rw [this]
      exact he

theorem yieldB_ok (horc : OrcOK P Z G orc) (hext : ExtOK P ext) (hname : NoNum P) (hmix : P.follows .mixedOrders = true) {args : List Value} {h : AH} {v : Value} {ho : Option AH} (hb : yieldB P G ext fuel orc args h = some (v, ho)) {μ : Mu} {w : World} {args' : List Value}
    (hr : HR Z G μ h w) (hv : VRL μ args args') : RoundOK P Z G μ h w args' v ho := by
  intro k rest' hargs
  subst hargs
  unfold yieldB at hb
  split at hb
  case h_2 => cases hb
  rename_i i rest
  simp only [VRL] at hv
  obtain ⟨_, _, heq, hvy, hvs⟩ := hv
  simp only [List.cons.injEq] at heq
  obtain ⟨rfl, rfl⟩ := heq
  simp only [VR, FnR, VRL] at hvy
  obtain ⟨_, _, _, heq, ⟨l, hl, rfl⟩, rfl, rfl⟩ := hvy
  simp only [Value.func.injEq, Fn.yield.injEq] at heq
  obtain ⟨rfl, _⟩ := heq
  split at hb
  case h_2 => cases hb
  rename_i env n ps x y pend0 hget
  split at hb
  case h_2 => cases hb
  rename_i hmay hsz
  obtain ⟨l', hl', hbr⟩ := hr.blk _ _ hget
  rw [hl] at hl'; cases hl'
  obtain ⟨b1, b2, b3, b4, b5, b6, r, r1, r2, r3, r4, r5, r6, r7, r8⟩ := hbr
  have hlen : rest'.length = r.params.size := by rw [← hvs.length, r4]; exact (beq_iff.1 hsz).symm
  refine ⟨r, r1, hlen, ?_⟩
  have henv0 : EnvOK μ n env { tmps := r.tmps, defers := [] } := ⟨r7, b3, b4, r8⟩
  have henv1 := setParams_ok ps.toList rest rest' env r.tmps hvs henv0
  have htm : (r.params.zip rest'.toArray).foldl (fun tmps (t, a) => tmps.setIfInBounds t a) r.tmps = (ps.toList.zip rest').foldl (fun tmps (t, a) => tmps.setIfInBounds t a) r.tmps := by
    rw [r4, ← Array.foldl_toList, Array.toList_zip]
  split at hb
  case h_2 => cases hb
  rename_i env1 h1 hcx
  split at hb
  case h_2 => cases hb
  rename_i env0' n0 ps0 x0 y0 pend1 hget1
  split at hb
  case h_2 => cases hb
  rename_i out env2 h2 hcy
  split at hb
  case h_2 => cases hb
  rename_i env3 n3 ps3 x3 y3 st3 pend3 hget2
  rw [htm, r5, r6]
  refine roundIn_of_wpIn (F := Fence.wide) trivial ?_
  refine codeB_ok (some l.b) horc hext hname hmix x (.inr b5) _ _ _ _ _ hcx μ _ w _ hr henv1 ?_
  intro μ1 a1 w1 hr1 he1 hf1 _
  have hl1 := hf1.le _ _ hl
  obtain ⟨l1, hl1', hbr1⟩ := hr1.blk _ _ hget1
  rw [hl1] at hl1'; cases hl1'
  obtain ⟨c1, c2, c3, c4, c5, c6, q, q1, q2, q3, q4, q5, q6, q7, q8⟩ := hbr1
  have hmay1 : h1.may i = true := by rw [AH.may_of hf1.lock hf1.imp]; exact hmay
  have hlt1 : l.b < w1.heap.size := (Array.getElem?_eq_some_iff.1 q1).1
  have hput1 := HR.put (w' := w1.putObj l.b (.loop { q with state := .busy })) hr1 (b := some (.loop env0' n0 ps0 x0 y0 .busy pend1)) hmay1 hget1 hl1 World.putObj_size (fun k hk => World.putObj_heap_other hk) rfl rfl rfl
    (fun bb h => by cases h; exact ⟨c1, c2, c3, c4, c5, c6, { q with state := .busy }, World.putObj_heap_same hlt1, rfl, q3, q4, q5, q6, q7, q8⟩)
  refine ⟨w1.putObj l.b (.loop { q with state := .busy }), run_beginRound q1 q2, ?_⟩
  refine codeB_ok (some l.b) horc hext hname hmix y (.inr b6) _ _ _ _ _ hcy μ1 a1 _ _ hput1.1 he1 ?_
  intro μ2 a2 w2 hr2 he2 hf2 _
  have hl2 := hf2.le _ _ hl1
  obtain ⟨l2, hl2', hbr2⟩ := hr2.blk _ _ hget2
  rw [hl2] at hl2'; cases hl2'
  obtain ⟨d1, d2, d3, d4, d5, d6, p, p1, p2, p3, p4, p5, p6, p7, p8⟩ := hbr2
  have hmay2 : h2.may i = true := by rw [AH.may_of hf2.lock hf2.imp, AH.may_of hput1.2.lock hput1.2.imp]; exact hmay1
  have hlt2 : l.b < w2.heap.size := (Array.getElem?_eq_some_iff.1 p1).1
  have fin : ∀ (st : LoopState) (jump : Option Code), st = (if jump.isNone then .ready else .done) → v = .bool jump.isNone → ho = some (h2.put i (some (.loop env3 n3 ps3 x3 y3 st jump))) →
      ∃ v' w', (Instr.endRound l.b jump).run P w2 = .ok v' w' ∧ ∃ v'', Ending.returned v' = .returned v'' ∧ Owe Z G μ h w v ho v'' w' := by
    rintro st jump rfl rfl rfl
    have hput2 := HR.put (w' := w2.putObj l.b (.loop { p with state := if jump.isNone then .ready else .done, pending := jump })) hr2 (b := some (.loop env3 n3 ps3 x3 y3 (if jump.isNone then .ready else .done) jump)) hmay2 hget2 hl2 World.putObj_size (fun k hk => World.putObj_heap_other hk) rfl rfl rfl
      (fun bb h => by cases h; exact ⟨d1, d2, d3, d4, d5, d6, { p with state := if jump.isNone then .ready else .done, pending := jump }, World.putObj_heap_same hlt2, rfl, rfl, p4, p5, p6, p7, p8⟩)
    exact ⟨_, _, run_endRound jump p1, _, rfl, μ2, VR.of_pure rfl, hput2.1, ((hf1.trans hput1.2).trans hf2).trans hput2.2⟩
  cases out with
  | normal =>
    simp only [outJump, Option.some.injEq, Prod.mk.injEq] at hb
    exact fin .ready none rfl hb.1.symm hb.2.symm
  | ret =>
    simp only [outJump, Option.some.injEq, Prod.mk.injEq] at hb
    exact fin .done (some .ret) rfl hb.1.symm hb.2.symm
  | exit id =>
    simp only [outJump, Option.some.injEq, Prod.mk.injEq] at hb
    exact fin .done (some (.exit id)) rfl hb.1.symm hb.2.symm

/-! The marks that an activation leaves with. -/
theorem FR.touch {h h' : AH} {μ μ' : Mu} {w w' : World} (f : FR h μ w h' μ' w') {b : Nat} (hb : w.heap.size ≤ b) (o : Obj) : FR h μ w h' μ' (w'.putObj b o) :=
  ⟨f.le, f.os, f.tape, f.output, by rw [World.putObj_size]; exact f.size, f.lock, f.imp, f.next, f.old, f.sub, f.wr, fun k hk hn => by rw [World.putObj_heap_other (by omega)]; exact f.blk k hk hn, f.keep⟩

theorem leaves_marks {fn : Func} {tmps : Array Value} {R : Ending → World → Prop} {h h' : AH} {μ μ' : Mu} {w : World} : ∀ (bs : List Nat) (w' : World), bs.Nodup → (∀ b ∈ bs, MarkAt w h' μ' w' b) → HR Z G μ' h' w' → FR h μ w h' μ' w' →
    (∀ w'', HR Z G μ' h' w'' → FR h μ w h' μ' w'' → ∃ v, (results fn tmps).run P w'' = .ok v w'' ∧ R (.returned v) w'') → LeavesInM (Fr none) 0 P fn tmps R (bs.map markD) .returning w'
  | [], w', _, _, hr, hf, hR => hR w' hr hf
  | b :: bs, w', hn, hm, hr, hf, hR => by
    obtain ⟨m1, m2, m3, m4⟩ := hm b (by simp)
    rw [List.nodup_cons] at hn
    refine ⟨by simp, .inl ⟨b, w'.putObj b (.deferred none), rfl, run_takeDeferred m2, ?_⟩⟩
    refine leaves_marks bs _ hn.2 ?_ ?_ (hf.touch m1 _) hR
    · intro c hc
      obtain ⟨k1, k2, k3, k4⟩ := hm c (by simp [hc])
      exact ⟨k1, by rw [World.putObj_heap_other (fun h => by subst h; exact hn.1 hc)]; exact k2, k3, k4⟩
    · exact hr.congr fun i l hi hl => World.putObj_heap_other (m4 i l hi hl)

/-- What a call owes, memory given. -/
theorem bodyB_ok (horc : OrcOK P Z G orc) (hext : ExtOK P ext) (hname : NoNum P) (hmix : P.follows .mixedOrders = true) {g : FuncId} {args : List Value} {h : AH} {v : Value} {h' : AH} (hb : bodyB P G ext fuel orc g args h = some (v, h')) {μ : Mu} {w : World} {args' : List Value}
    (hr : HR Z G μ h w) (hv : VRL μ args args') : Calls P g args'.toArray w fun e w' => ∃ v', e = .returned v' ∧ Owe Z G μ h w v (some h') v' w' := by
  unfold bodyB at hb
  split at hb
  case h_2 => cases hb
  rename_i fn hf
  split at hb
  case h_2 => cases hb
  rename_i c hc
  split at hb
  case h_2 => cases hb
  rename_i hl1 hl2
  have henv := args_env hv (ble_iff.1 hl1) (ble_iff.1 hl2)
  refine callsIn_wide.1 (callsIn_of_wp_marks (F := Fr none) (n := 0) hf hc trivial ?_)
  have fin : ∀ (out : Out) (env1 : T (Option Value)), codeB P G ext orc fn.ntmps fuel c (setArgs args 0 (.leaf (some undef))) h = some (out, env1, h') → (∀ vs, resB P fn.ntmps env1 h' fn.results.toList = some vs → resV vs = v → (out = .normal ∨ out = .ret) →
      c.wpIn (Fr none) 0 P (bodyPostM (Fr none) 0 P fn fun e w' => ∃ v', e = .returned v' ∧ Owe Z G μ h w v (some h') v' w') { tmps := args'.toArray ++ Array.replicate (fn.ntmps - args'.toArray.size) undef, defers := [] } w) := by
    intro out env1 hcode vs hres hvs hout
    refine codeB_ok none horc hext hname hmix c (.inl rfl) _ _ _ _ _ hcode μ _ w _ hr henv ?_
    intro μ1 a1 w1 hr1 he1 hf1 hd1
    obtain ⟨bs, hbs, hnd, hmk, _⟩ := hd1
    have hpost : LeavesInM (Fr none) 0 P fn a1.tmps (fun e w' => ∃ v', e = .returned v' ∧ Owe Z G μ h w v (some h') v' w') a1.defers .returning w1 := by
      rw [hbs, List.append_nil]
      refine leaves_marks bs w1 hnd hmk hr1 hf1 ?_
      intro w2 hr2 hf2
      obtain ⟨vs', h1, h2⟩ := resB_ok (P := P) hr2 he1 _ _ hres
      refine ⟨if h : vs'.toArray.size = 1 then vs'.toArray[0] else .tuple vs'.toArray, ?_, _, rfl, μ1, hvs ▸ resV_ok h1, hr2, hf2⟩
      unfold results
      rw [Array.mapM_eq_mapM_toList]
      simp only [Sem.run_bind, Sem.run_map, Sem.run_pure]
      erw [h2]
      rfl
    rcases hout with rfl | rfl <;> exact hpost
  split at hb
  · rename_i env1 h1 hcode
    rw [Option.map_eq_some_iff] at hb
    obtain ⟨vs, hres, hb⟩ := hb
    cases hb
    exact fin _ _ hcode vs hres rfl (.inl rfl)
  · rename_i env1 h1 hcode
    rw [Option.map_eq_some_iff] at hb
    obtain ⟨vs, hres, hb⟩ := hb
    cases hb
    exact fin _ _ hcode vs hres rfl (.inr rfl)
  · cases hb

theorem mutB_ok (horc : OrcOK P Z G orc) (hext : ExtOK P ext) (hname : NoNum P) (hmix : P.follows .mixedOrders = true) : BaseOK P Z G (mutB P G ext fuel orc) := by
  intro g args h v ho hb μ w args' hr hv
  unfold mutB at hb
  rw [Option.map_eq_some_iff] at hb
  obtain ⟨⟨v1, h1⟩, hb1, hb2⟩ := hb
  cases hb2
  exact bodyB_ok horc hext hname hmix hb1 hr hv

theorem overB_ok (horc : OrcOK P Z G orc) (hext : ExtOK P ext) (hname : NoNum P) (hmix : P.follows .mixedOrders = true) : BaseOK P Z G (overB P G ext fuel orc) := by
  intro g args h v ho hb μ w args' hr hv
  unfold overB at hb
  split at hb
  case h_2 => cases hb
  rename_i v1 h1 hb1
  have hcall := bodyB_ok horc hext hname hmix hb1 hr.locked hv
  refine hcall.mono ?_
  rintro e w' ⟨v', rfl, ν, hv1, hr1, hf1⟩
  refine ⟨v', rfl, ?_⟩
  have hold := FR.locked_blk hf1
  split at hb
  · rename_i hp
    cases hb
    refine ⟨μ, ?_, hr.congr (fun i l hi hl => ?_), ?_⟩
    · rw [VR.pure hp] at hv1 ⊢; exact hv1
    · cases hg : h.get i with
      | none => exact absurd hg hi
      | some b =>
        obtain ⟨l', hl', hbr⟩ := hr.blk i b hg
        rw [hl] at hl'; cases hl'
        exact hold _ hbr.lt
    · exact ⟨Mu.le_refl _, hf1.os, hf1.tape, hf1.output, hf1.size, rfl, rfl, Nat.le_refl _, fun _ _ => rfl, fun _ _ h => h, fun _ h _ => h, fun b hb _ => hold b hb, fun _ _ _ => rfl⟩
  · cases hb
    exact ⟨ν, hv1, hr1.relock _, FR.unlock hr hf1⟩


theorem deepB_ok (hext : ExtOK P ext) (hname : NoNum P) (hmix : P.follows .mixedOrders = true) {base : Orc} (hbase : BaseOK P Z G base) (mt : FuncId → Nat) : ∀ d, OrcOK P Z G (deepB P G ext fuel base mt d)
  | 0 => by
    intro g args h v ho hb μ w args' hr hv
    simp only [deepB] at hb
    split at hb
    · cases hb
    · rename_i hg
      exact ⟨fun _ => hbase g args h v ho hb μ w args' hr hv, fun h => by rw [beq_iff.2 h] at hg; cases hg⟩
  | d + 1 => by
    intro g args h v ho hb μ w args' hr hv
    simp only [deepB] at hb
    split at hb
    · rename_i hg
      have hg := beq_iff.1 hg
      split at hb
      · rename_i hno
        subst hg
        refine ⟨fun h => ?_, fun _ _ => yieldB_ok (deepB_ok hext hname hmix hbase mt d) hext hname hmix hb hr hv⟩
        rcases h with h | h
        · exact absurd rfl h
        · exact absurd hno h
      · cases hb
    · rename_i hg
      refine ⟨fun _ => ?_, fun h => by rw [beq_iff.2 h] at hg; cases hg⟩
      split at hb
      · rename_i r hr'
        cases hb
        exact hbase g args h v ho hr' μ w args' hr hv
      · split at hb
        · exact overB_ok (deepB_ok hext hname hmix hbase mt d) hext hname hmix g args h v ho hb μ w args' hr hv
        · split at hb
          · cases hb
          · exact mutB_ok (deepB_ok hext hname hmix hbase mt d) hext hname hmix g args h v ho hb μ w args' hr hv
        · split at hb
          · exact overB_ok (deepB_ok hext hname hmix hbase mt d) hext hname hmix g args h v ho hb μ w args' hr hv
          · exact mutB_ok (deepB_ok hext hname hmix hbase mt d) hext hname hmix g args h v ho hb μ w args' hr hv

theorem noBase_ok : BaseOK P Z G noBase := fun _ _ _ _ _ hb => by cases hb

end
end Go.Proofs.YtibffohcmegooaaGreatDoor.V
