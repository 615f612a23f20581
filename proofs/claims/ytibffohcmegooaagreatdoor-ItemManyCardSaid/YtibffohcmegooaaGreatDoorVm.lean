/- The small machine's statements agree with the model's, in whatever order Go may carry them out. Conditions: none. -/
import Derived.Test.YtibffohcmegooaaGreatDoorVl
namespace Go.Proofs.YtibffohcmegooaaGreatDoor.V
set_option linter.all false
open Go

section
variable {P : Program} {Z : AH} {G n fuel : Nat} {ext : FuncId → Option Ext} {orc : Orc}

theorem HR.locked {μ : Mu} {h : AH} {w : World} (hr : HR Z G μ h w) : HR Z G μ h.locked w := ⟨hr.fits, hr.nxt, hr.imp, hr.fresh, hr.glob, hr.blk, hr.inj, hr.std⟩
theorem HR.relock {μ : Mu} {h : AH} {w : World} (hr : HR Z G μ h w) (k : Nat) : HR Z G μ { h with lock := k } w := ⟨hr.fits, hr.nxt, hr.imp, hr.fresh, hr.glob, hr.blk, hr.inj, hr.std⟩

/-- Behind what ran on locked memory every old block stands. -/
theorem FR.locked_blk {h h' : AH} {μ ν : Mu} {w w' : World} (f : FR h.locked μ w h' ν w') : ∀ b, b < w.heap.size → w'.heap[b]? = w.heap[b]? := by
  intro b hb
  refine f.blk b hb ?_
  rintro ⟨i, l, hm, hi, _, _⟩
  have h1 : i < h.next := AH.may_lt (h := h.locked) hm hi
  unfold AH.may AH.locked at hm
  simp only [Bool.and_eq_true] at hm
  have h2 : h.next ≤ i := ble_iff.1 hm.1
  omega

theorem FR.unlock {h h' : AH} {μ ν : Mu} {w w' : World} (_ : HR Z G μ h w) (f : FR h.locked μ w h' ν w') : FR h μ w { h' with lock := h.lock } ν w' := by
  refine ⟨f.le, f.os, f.tape, f.output, f.size, rfl, f.imp, f.next, f.old, f.sub, ?_, fun b hb _ => FR.locked_blk f b hb, fun i hi hm => f.keep i hi (by
    rcases hi with h1 | h1
    · unfold AH.may AH.locked
      have : Nat.ble h.next i = false := by
        cases hn : Nat.ble h.next i with
        | false => rfl
        | true => have := ble_iff.1 hn; omega
      simp only [this, Bool.false_and]
    · unfold AH.may AH.own AH.locked
      simp only [blt_no (show ¬ i < 16777216 by omega), Bool.and_false])⟩
  rintro b ⟨i, l, hm, hi, hl, rfl⟩ hlt
  have hg : h'.get i ≠ none := hi
  have hown : h'.own i = true := AH.may_imp (h := { h' with lock := h.lock }) hm
  have hown2 : h.own i = true := by
    have h2 : h'.imp = h.imp := f.imp
    have := AH.own_iff.1 hown
    rw [h2] at this
    exact AH.own_iff.2 this
  have hi64 := (AH.own_iff.1 hown).2
  by_cases hin : i < h.next
  · refine ⟨i, l, ?_, f.sub i (.inl hin) hg, ?_, rfl⟩
    · unfold AH.may at hm ⊢
      simp only [Bool.and_eq_true] at hm ⊢
      exact ⟨hm.1, hown2⟩
    · rw [← f.old i (.inl hin)]; exact hl
  · exfalso
    obtain ⟨i0, l0, hm0, hi0, hl0, _⟩ := f.wr l.b ⟨i, l, by
      unfold AH.may
      simp only [Bool.and_eq_true]
      have h1 : h'.lock = h.next := f.lock
      exact ⟨by rw [h1]; exact ble_iff.2 (by omega), hown⟩, hg, hl, rfl⟩ hlt
    have h1 : i0 < h.next := AH.may_lt (h := h.locked) hm0 hi0
    unfold AH.may AH.locked at hm0
    simp only [Bool.and_eq_true] at hm0
    have h2 : h.next ≤ i0 := ble_iff.1 hm0.1
    omega

theorem AH.locked_may {h : AH} {i : Nat} (hi : i < h.next ∨ 16777216 ≤ i) : h.locked.may i = false := by
  unfold AH.may AH.own AH.locked
  rcases hi with h1 | h1
  · have : Nat.ble h.next i = false := by
      cases hn : Nat.ble h.next i with
      | false => rfl
      | true => have := ble_iff.1 hn; omega
    simp only [this, Bool.false_and]
  · simp only [blt_no (show ¬ i < 16777216 by omega), Bool.and_false]

/-- What ran under a higher lock. -/
theorem FR.from_low {h h' : AH} {k : Nat} {μ ν : Mu} {w w' : World} (f : FR (h.from k) μ w { h' with lock := k } ν w') (hk : h.lock ≤ k) (hk2 : k ≤ h.next) : FR h μ w { h' with lock := h.lock } ν w' := by
  have up : ∀ i, (h.from k).may i = true → h.may i = true := by
    intro i hm
    unfold AH.may AH.from at hm
    unfold AH.may
    simp only [Bool.and_eq_true] at hm ⊢
    exact ⟨ble_iff.2 (Nat.le_trans hk (ble_iff.1 hm.1)), hm.2⟩
  refine ⟨f.le, f.os, f.tape, f.output, f.size, rfl, f.imp, f.next, f.old, f.sub, ?_, ?_, ?_⟩
  · rintro b ⟨i, l, hm, hg, hl, rfl⟩ hlt
    by_cases hik : k ≤ i
    · have hm' : ({ h' with lock := k } : AH).may i = true := by
        unfold AH.may at hm ⊢
        simp only [Bool.and_eq_true] at hm ⊢
        exact ⟨ble_iff.2 hik, hm.2⟩
      obtain ⟨i2, l2, h1, h2, h3, h4⟩ := f.wr l.b ⟨i, l, hm', hg, hl, rfl⟩ hlt
      exact ⟨i2, l2, up i2 h1, h2, h3, h4⟩
    · have hown := AH.may_imp hm
      have hi64 := (AH.own_iff.1 hown).2
      by_cases hin : i < h.next
      · refine ⟨i, l, ?_, f.sub i (.inl hin) hg, by rw [← f.old i (.inl hin)]; exact hl, rfl⟩
        have : ({ h' with lock := h.lock } : AH).may i = h.may i := AH.may_of (h := h) (h' := { h' with lock := h.lock }) rfl f.imp i
        rw [← this]; exact hm
      · omega
  · intro b hb hn
    refine f.blk b hb ?_
    rintro ⟨i, l, hm, hg, hl, he⟩
    exact hn ⟨i, l, up i hm, hg, hl, he⟩
  · intro i hi hm
    refine f.keep i hi ?_
    cases hc : (h.from k).may i with
    | false => rfl
    | true => rw [up i hc] at hm; cases hm

theorem wanted_ok {μ : Mu} {ops : Array Oper} {o : Oper} {env : T (Option Value)} {a : Act} {b : Bool} (hw : wantedB n ops o env = some b) (he : EnvOK μ n env a) : Region.wanted o (yielded ops a.tmps) = b := by
  unfold wantedB at hw
  unfold Region.wanted
  split at hw
  · rename_i hg
    cases hw
    rw [hg]
  · rename_i j want hg
    rw [hg]
    simp only
    unfold yielded
    split at hw
    · rename_i d hd
      rw [hd]
      split at hw
      · rename_i hlt
        have hlt' := blt_iff.1 hlt
        have hsz : d < a.tmps.size := by rw [he.size]; exact hlt'
        have hgd : a.tmps.getD d undef = a.tmps[d] := by simp [Array.getD_eq_getD_getElem?, hsz]
        simp only [Option.bind_some, Array.getElem?_eq_getElem hsz]
        rw [← hgd]
        split at hw
        · rename_i b0 hv
          cases hw
          have := he.at_ d _ hlt' hv
          simp only [VR] at this
          rw [this]
          cases b0 <;> cases want <;> rfl
        · rename_i v hno hv
          cases hw
          have hvr := he.at_ d v hlt' hv
          have hnb : ∀ b, a.tmps.getD d undef ≠ .bool b := by
            intro b hb
            rw [hb] at hvr
            cases v with
            | bool b' => exact hno b' rfl
            | pointer p => cases p <;> simp only [VR] at hvr <;> first | (cases hvr; done) | (obtain ⟨_, _, _, h⟩ := hvr; cases h)
            | slice p _ _ => cases p <;> simp only [VR] at hvr <;> first | (cases hvr; done) | (obtain ⟨_, _, _, _, h, _⟩ := hvr; cases h)
            | map p => cases p <;> simp only [VR] at hvr <;> first | (cases hvr; done) | (obtain ⟨_, _, h⟩ := hvr; cases h)
            | chan p => cases p <;> simp only [VR] at hvr <;> cases hvr
            | func f p q => obtain ⟨p⟩ := p; obtain ⟨q⟩ := q; simp only [VR] at hvr; obtain ⟨_, _, _, h, _⟩ := hvr; cases h
            | iface t y => simp only [VR] at hvr; obtain ⟨_, h, _⟩ := hvr; cases h
            | agg c => obtain ⟨_, h, _⟩ := VR.agg_inv hvr; cases h
            | tuple c => obtain ⟨_, h, _⟩ := VR.tuple_inv hvr; cases h
            | _ => simp only [VR] at hvr; cases hvr
          revert hnb
          generalize a.tmps.getD d undef = q
          intro hnb
          cases q <;> first | rfl | exact absurd rfl (hnb _)
        · cases hw
      · rename_i hlt
        cases hw
        have hsz : ¬ d < a.tmps.size := by
          rw [he.size]
          intro hc
          rw [blt_iff.2 hc] at hlt
          cases hlt
        simp [Array.getElem?_eq_none (Nat.le_of_not_lt hsz)]
    · rename_i hd
      cases hw
      rw [hd]
      rfl

theorem opsB_go (ro : Option Nat) (horc : OrcOK P Z G orc) (hext : ExtOK P ext) (hname : NoNum P) {ops : Array Oper} {Q : Exit → Act → World → Prop} : ∀ (os : List Oper) (k : Nat) (env : T (Option Value)) (h : AH) (env' : T (Option Value)) (h' : AH),
    ops.toList.drop k = os → opsB P G ext orc n ops os env h = some (env', h') → ∀ (μ : Mu) (a : Act) (w : World), HR Z G μ h w → EnvOK μ n env a →
    (∀ μ' a' w', HR Z G μ' h' w' → EnvOK μ' n env' a' → FR h μ w h' μ' w' → a'.defers = a.defers → Q .normal a' w') → wpOpsIn (Fr ro) 0 P ops Q (List.range' k os.length) a w
  | [], k, env, h, env', h', hd, hb => by
    intro μ a w hr he hq
    simp only [opsB_nil, Option.some.injEq, Prod.mk.injEq] at hb
    obtain ⟨rfl, rfl⟩ := hb
    exact hq μ a w hr he (FR.refl _ _ _) rfl
  | o :: os, k, env, h, env', h', hd, hb => by
    intro μ a w hr he hq
    have hk : ops[k]? = some o := by
      have := congrArg (·[0]?) hd
      simpa using this
    have hd' : ops.toList.drop (k + 1) = os := by
      rw [← List.drop_drop, hd]; rfl
    rw [List.length_cons, List.range'_succ]
    simp only [wpOpsIn, hk]
    rw [opsB_cons] at hb
    have hdef : ∀ v, (a.put o.dst v).defers = a.defers := fun v => by cases o.dst <;> rfl
    split at hb
    · rename_i hw
      rw [wanted_ok hw he, if_pos rfl]
      split at hb
      case h_2 => cases hb
      rename_i v ho hop
      split at hb
      case h_2 => cases hb
      rename_i env1 hput
      refine (opB_Fr ro hr he horc hext hname hop ?_)
      rintro v' w' ⟨ν, hv, hr1, hf1⟩
      refine opsB_go ro horc hext hname os (k + 1) _ _ _ _ hd' hb ν _ w' hr1 (putE_ok hput (he.mono hf1.le) hv) ?_
      intro μ2 a2 w2 hr2 he2 hf2 hd2
      exact hq μ2 a2 w2 hr2 he2 (hf1.trans hf2) (hd2.trans (hdef v'))
    · rename_i hw
      rw [wanted_ok hw he, if_neg (by simp)]
      split at hb
      case h_2 => cases hb
      rename_i env1 hput
      refine ⟨fun _ _ => trivial, ?_⟩
      refine opsB_go ro horc hext hname os (k + 1) _ _ _ _ hd' hb μ _ w hr (putE_ok hput he (VR.of_pure rfl)) ?_
      intro μ2 a2 w2 hr2 he2 hf2 hd2
      exact hq μ2 a2 w2 hr2 he2 hf2 (hd2.trans (hdef undef))
    · cases hb

theorem opsB_ok (ro : Option Nat) (horc : OrcOK P Z G orc) (hext : ExtOK P ext) (hname : NoNum P) {ops : Array Oper} {Q : Exit → Act → World → Prop} {env : T (Option Value)} {h : AH} {env' : T (Option Value)} {h' : AH}
    (hb : opsB P G ext orc n ops ops.toList env h = some (env', h')) {μ : Mu} {a : Act} {w : World} (hr : HR Z G μ h w) (he : EnvOK μ n env a)
    (hq : ∀ μ' a' w', HR Z G μ' h' w' → EnvOK μ' n env' a' → FR h μ w h' μ' w' → a'.defers = a.defers → Q .normal a' w') : wpOpsIn (Fr ro) 0 P ops Q (List.range ops.size) a w := by
  have := opsB_go ro horc hext hname ops.toList 0 env h env' h' rfl hb μ a w hr he hq
  rw [List.range_eq_range']
  simpa using this

end
end Go.Proofs.YtibffohcmegooaaGreatDoor.V
