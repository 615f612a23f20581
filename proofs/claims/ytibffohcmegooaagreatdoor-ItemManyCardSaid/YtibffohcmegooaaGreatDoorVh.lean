/- The small machine's tests, literals and small conversions agree with the model's. Conditions: none. -/
import Derived.Test.YtibffohcmegooaaGreatDoorVf
import Derived.Laws.StructEq
import Derived.ChangeKeysEq
namespace Go.Proofs.YtibffohcmegooaaGreatDoor.V
set_option linter.all false
open Go

section
variable {P : Program} {Z : AH} {G n : Nat} {μ : Mu} {env : T (Option Value)} {a : Act} {h : AH} {w : World}

/-- Two values of one kind, one of them nil. -/
theorem equal_nil {t : TypeId} {d : TypeDesc} (hd : P.underlying t = some d) {u v : Value} (h1 : nilKind d u = true) (h2 : nilKind d v = true) (hnil : isNilB u = some true ∨ isNilB v = some true) :
    ∃ b b1 b2, isNilB u = some b1 ∧ isNilB v = some b2 ∧ b = (b1 && b2) ∧ (Op.equal t u v).run P w = .ok b w := by
  unfold Op.equal Op.maxDepth Op.equalIn
  cases d <;> cases u <;> simp only [nilKind, Bool.false_eq_true] at h1 <;> cases v <;> simp only [nilKind, Bool.false_eq_true] at h2
  case pointer.pointer.pointer e x y =>
    cases x <;> cases y <;> simp [isNilB] at hnil ⊢ <;> simp [run_underlying hd]
  case slice.slice.slice e x _ _ y _ _ =>
    cases x <;> cases y <;> simp [isNilB] at hnil ⊢ <;> simp [run_underlying hd]
  case map.map.map e1 e2 x y =>
    cases x <;> cases y <;> simp [isNilB] at hnil ⊢ <;> simp [run_underlying hd]
  all_goals (simp [isNilB] at hnil ⊢ <;> simp [run_underlying hd])

theorem isNilB_VR {v v' : Value} {b : Bool} (hb : isNilB v = some b) (hv : VR μ v v') : isNilB v' = some b := by
  cases v with
  | pointer x => cases x <;> simp only [VR] at hv <;> first | (subst hv; exact hb) | (obtain ⟨_, _, _, rfl⟩ := hv; exact hb)
  | slice x _ _ => cases x <;> simp only [VR] at hv <;> first | (subst hv; exact hb) | (obtain ⟨_, _, _, _, rfl, _⟩ := hv; exact hb)
  | map x => cases x <;> simp only [VR] at hv <;> first | (subst hv; exact hb) | (obtain ⟨_, _, rfl⟩ := hv; exact hb)
  | func f a c => obtain ⟨a⟩ := a; obtain ⟨c⟩ := c; simp only [VR] at hv; obtain ⟨_, _, _, rfl, _⟩ := hv; exact hb
  | iface t x => simp only [VR] at hv; obtain ⟨_, rfl, _⟩ := hv; exact hb
  | nilFunc => simp only [VR] at hv; subst hv; exact hb
  | nilIface => simp only [VR] at hv; subst hv; exact hb
  | _ => simp [isNilB] at hb

theorem nilKind_VR {d : TypeDesc} {v v' : Value} (hb : nilKind d v = true) (hv : VR μ v v') : nilKind d v' = true := by
  cases v with
  | pointer x => cases x <;> simp only [VR] at hv <;> first | (subst hv; exact hb) | (obtain ⟨_, _, _, rfl⟩ := hv; cases d <;> simp_all [nilKind])
  | slice x _ _ => cases x <;> simp only [VR] at hv <;> first | (subst hv; exact hb) | (obtain ⟨_, _, _, _, rfl, _⟩ := hv; cases d <;> simp_all [nilKind])
  | map x => cases x <;> simp only [VR] at hv <;> first | (subst hv; exact hb) | (obtain ⟨_, _, rfl⟩ := hv; cases d <;> simp_all [nilKind])
  | func f a c => obtain ⟨a⟩ := a; obtain ⟨c⟩ := c; simp only [VR] at hv; obtain ⟨_, _, _, rfl, _⟩ := hv; cases d <;> simp_all [nilKind]
  | iface t x => simp only [VR] at hv; obtain ⟨_, rfl, _⟩ := hv; cases d <;> simp_all [nilKind]
  | nilFunc => simp only [VR] at hv; subst hv; exact hb
  | nilIface => simp only [VR] at hv; subst hv; exact hb
  | _ => cases d <;> simp [nilKind] at hb

theorem nilConst_val {y : Operand} {c : Value} (hy : nilConst y = true) (he : ∀ k, y = .const k → c = k)   : isNilB c = some true := by
  unfold nilConst at hy
  split at hy
  · rw [he _ rfl]; rfl
  · rw [he _ rfl]; rfl
  · rw [he _ rfl]; rfl
  · rw [he _ rfl]; rfl
  · rw [he _ rfl]; rfl
  · cases hy

theorem guard_nil {op : BinOp} {t : TypeId} {x y : Operand} {u v : Value} (hx : nilConst y = true ∨ nilConst x = true) (hk : ∃ d, nilKind d u = true) (hk2 : ∃ d, nilKind d v = true) :
    (eqGuard op t x y u v).run P w = .ok () w := by
  have hc : (∃ c, x = .const c) ∨ (∃ c, y = .const c) := by
    rcases hx with h | h <;> unfold nilConst at h <;> split at h <;> first | (cases h; done) | exact .inr ⟨_, rfl⟩ | exact .inl ⟨_, rfl⟩
  obtain ⟨d, hk⟩ := hk
  obtain ⟨d2, hk2⟩ := hk2
  cases u <;> try (cases d <;> simp [nilKind] at hk; done)
  case nilIface =>
    cases v <;> try (cases d2 <;> simp [nilKind] at hk2; done)
    case nilIface =>
      rcases hc with ⟨c, rfl⟩ | ⟨c, rfl⟩
      · rw [eqGuard_nil_constL]; rfl
      · rw [eqGuard_nil_constR]; rfl
    all_goals (cases op <;> rfl)
  all_goals (cases op <;> rfl)

theorem run_equal_ptr {t e : TypeId} {n : Nat} (hd : P.underlying t = some (.pointer e)) (hs : szOf P e = some (n + 1)) (b i j : Nat) :
    (Op.equal t (.pointer (some ⟨b, i, none⟩)) (.pointer (some ⟨b, j, none⟩))).run P w = .ok (decide (i = j)) w := by
  have hdef : Op.equal t (.pointer (some ⟨b, i, none⟩)) (.pointer (some ⟨b, j, none⟩)) = Op.equalIn (9999 + 1) t (.pointer (some ⟨b, i, none⟩)) (.pointer (some ⟨b, j, none⟩)) := rfl
  rw [hdef]
  unfold Op.equalIn
  simp only [Sem.run_bind, run_underlying hd, Result.andThen_ok, run_sizeOf hs]
  rw [if_pos (by simp)]
  unfold sameAddr
  simp only [BEq.rfl, if_true]
  by_cases h : i = j
  · subst h
    simp
  · have : ((⟨b, i, none⟩ : Addr) == ⟨b, j, none⟩) = false := by
      rw [beq_eq_false_iff_ne]
      intro he
      cases he
      exact h rfl
    simp [this, h]

theorem eqB_ok {t : TypeId} {x y : Operand} {u v u' v' : Value} {b : Bool} (hb : eqB P t x y u v = some b) (hu : VR μ u u') (hv : VR μ v v') (hx : ∀ c, x = .const c → u = c) (hy : ∀ c, y = .const c → v = c) :
    (∀ op, (eqGuard op t x y u' v').run P w = .ok () w) ∧ (Op.equal t u' v').run P w = .ok b w := by
  unfold eqB at hb
  split at hb
  · rename_i p q
    simp only [VR] at hu hv
    subst hu hv
    split at hb
    · rename_i hd
      simp only [Option.some.injEq] at hb
      subst hb
      exact ⟨fun op => by rw [eqGuard_at_bool]; rfl, run_equalIn_bool' w 9999 t p q hd⟩
    · cases hb
  · rename_i a1 a2
    split at hb
    case h_2 => cases hb
    rename_i e hd hs1 hs2 hbl
    split at hb
    case h_2 => cases hb
    rename_i n hsz
    simp only [Option.some.injEq] at hb
    subst hb
    simp only [VR] at hu hv
    obtain ⟨l1, _, h1, rfl⟩ := hu
    obtain ⟨l2, _, h2, rfl⟩ := hv
    have := beq_iff.1 hbl
    rw [this, h2] at h1
    cases h1
    refine ⟨fun op => by cases op <;> rfl, ?_⟩
    rw [run_equal_ptr hd hsz]
    congr 1
    by_cases hq : a1.off = a2.off
    · rw [hq, beq_iff.2 rfl]
      simp
    · have h3 : Nat.beq a1.off a2.off = false := by
        cases hb : Nat.beq a1.off a2.off with
        | false => rfl
        | true => exact absurd (beq_iff.1 hb) hq
      rw [h3]
      simp
      omega
  · split at hb
    case h_2 => cases hb
    rename_i d hd
    split at hb
    case h_2 => cases hb
    rename_i hk1 hk2
    have k1 := nilKind_VR hk1 hu
    have k2 := nilKind_VR hk2 hv
    split at hb
    · rename_i hy1
      have n2 := isNilB_VR (nilConst_val hy1 hy) hv
      have n1 := isNilB_VR hb hu
      refine ⟨fun op => guard_nil (.inl hy1) ⟨_, k1⟩ ⟨_, k2⟩, ?_⟩
      obtain ⟨b0, b1, b2, e1, e2, rfl, hrun⟩ := equal_nil (w := w) hd k1 k2 (.inr n2)
      rw [n1] at e1; rw [n2] at e2
      simp only [Option.some.injEq] at e1 e2
      subst e1 e2
      simpa using hrun
    · split at hb
      · rename_i hx1
        have n1 := isNilB_VR (nilConst_val hx1 hx) hu
        have n2 := isNilB_VR hb hv
        refine ⟨fun op => guard_nil (.inr hx1) ⟨_, k1⟩ ⟨_, k2⟩, ?_⟩
        obtain ⟨b0, b1, b2, e1, e2, rfl, hrun⟩ := equal_nil (w := w) hd k1 k2 (.inl n1)
        rw [n1] at e1; rw [n2] at e2
        simp only [Option.some.injEq] at e1 e2
        subst e1 e2
        simpa using hrun
      · cases hb

theorem binOp_eq_run {t : TypeId} {u v : Value} {b : Bool} (hr : (Op.equal t u v).run P w = .ok b w) (hk : (∃ d, nilKind d u = true) ∨ (∃ p q, u = .bool p ∧ v = .bool q)) :
    (binOp .eql t u v).run P w = .ok (.bool b) w ∧ (binOp .neq t u v).run P w = .ok (.bool !b) w := by
  have e1 : binOp .eql t u v = (do pure (.bool (← Op.equal t u v))) := by
    rcases hk with ⟨d, hk⟩ | ⟨p, q, rfl, rfl⟩
    · cases u <;> first | rfl | (cases d <;> simp [nilKind] at hk)
    · rfl
  have e2 : binOp .neq t u v = (do pure (.bool (!(← Op.equal t u v)))) := by
    rcases hk with ⟨d, hk⟩ | ⟨p, q, rfl, rfl⟩
    · cases u <;> first | rfl | (cases d <;> simp [nilKind] at hk)
    · rfl
  rw [e1, e2]
  simp [hr]

theorem partB_self {t : TypeId} {c : Array Value} {o : Nat} {v : Value} (hv : partB P t c o = some v) : (part t c o).run P w = .ok v w := by
  unfold partB at hv
  split at hv
  · rename_i k hb hs
    split at hv
    · simp only [Option.some.injEq] at hv
      subst hv
      have he : c.extract o (o + k) = ⟨(c.toList.drop o).take k⟩ := by
        apply Array.ext'
        simp only [Array.toList_extract, List.extract_eq_take_drop]
        rw [show o + k - o = k from by omega]
      simp [part, run_isAgg hb, run_sizeOf hs, he]
    · cases hv
  · rename_i k hb hs
    have hv' : c[o]? = some v := by simpa using hv
    simp [part, run_isAgg hb, hv']
  · cases hv

theorem eqFsB_ok {eq : TypeId → Value → Value → Option Bool} {d : Nat} {xs ys : Array Value} (heq : ∀ t u v b, eq t u v = some b → (Op.equalIn d t u v).run P w = .ok b w) :
    ∀ (fs : List Field) (b : Bool), eqFsB P eq xs ys fs = some b → (Op.eqFields d xs ys fs).run P w = .ok b w
  | [], b, h => by simp only [eqFsB, Option.some.injEq] at h; subst h; rfl
  | f :: fs, b, h => by
    simp only [eqFsB] at h
    split at h
    · rename_i hn
      have hn' : ¬ (f.name ≠ "_") := fun h => h (of_decide_eq_true hn)
      simp only [Op.eqFields, if_neg hn']
      exact eqFsB_ok heq fs b h
    · rename_i hn
      have hn' : f.name ≠ "_" := of_decide_eq_false hn
      simp only [Op.eqFields, if_pos hn']
      split at h
      · rename_i p q hp hq
        split at h
        · rename_i he
          simp only [Sem.run_bind, partB_self hp, partB_self hq, heq _ _ _ _ he, Result.andThen_ok, Bool.not_true, Bool.false_eq_true, if_false]
          exact eqFsB_ok heq fs b h
        · rename_i he
          cases h
          simp only [Sem.run_bind, partB_self hp, partB_self hq, heq _ _ _ _ he, Result.andThen_ok, Bool.not_false, if_true, Sem.run_pure]
        · cases h
      · cases h

theorem eqElB_ok {eq : TypeId → Value → Value → Option Bool} {d : Nat} {e : TypeId} {s : Nat} {xs ys : Array Value} (heq : ∀ t u v b, eq t u v = some b → (Op.equalIn d t u v).run P w = .ok b w) :
    ∀ (m i : Nat) (b : Bool), eqElB P eq e s xs ys m i = some b → (Op.eqItems d e s xs ys (List.range' i m)).run P w = .ok b w
  | 0, i, b, h => by simp only [eqElB, Option.some.injEq] at h; subst h; rfl
  | m + 1, i, b, h => by
    simp only [eqElB] at h
    split at h
    · rename_i p q hp hq
      simp only [List.range'_succ, Op.eqItems]
      split at h
      · rename_i he
        simp only [Sem.run_bind, partB_self hp, partB_self hq, heq _ _ _ _ he, Result.andThen_ok, Bool.not_true, Bool.false_eq_true, if_false]
        exact eqElB_ok heq m (i + 1) b h
      · rename_i he
        cases h
        simp only [Sem.run_bind, partB_self hp, partB_self hq, heq _ _ _ _ he, Result.andThen_ok, Bool.not_false, if_true, Sem.run_pure]
      · cases h
    · cases h

theorem eqT_ok : ∀ (d D : Nat) (t : TypeId) (u v : Value) (b : Bool), d ≤ D → eqT P d t u v = some b → (Op.equalIn D t u v).run P w = .ok b w
  | 0, _, _, _, _, _, _, h => by simp [eqT] at h
  | d + 1, 0, _, _, _, _, hd, _ => by omega
  | d + 1, D + 1, t, u, v, b, hd, h => by
    simp only [eqT] at h
    split at h
    · rename_i p q hu
      cases h
      exact run_equalIn_bool' w D t p q hu
    · rename_i k0 k p k' q hu
      split at h
      · rename_i hk
        have := of_decide_eq_true hk
        subst this
        cases h
        exact run_equalIn_int w D t k k0 p q hu
      · cases h
    · rename_i p q hu
      cases h
      rw [run_equalIn_string w D t p q hu, bytesEq_eq, ByteArray.toList_eq, ByteArray.toList_eq]
    · rename_i fs xs ys hu
      split at h
      · cases h
      · rename_i hs
        have hf : P.fieldsOf t = fs := by simp [Program.fieldsOf, hu]
        rw [run_equalIn_struct w D t xs ys (by rw [hf]; exact hu) hs, hf]
        exact eqFsB_ok (fun t u v b he => eqT_ok d D t u v b (by omega) he) fs.toList b h
    · rename_i m e0 xs ys hu
      split at h
      case h_2 => cases h
      rename_i s0 hs
      simp only [szOf, Option.map_eq_some_iff] at hs
      obtain ⟨i0, hi, hs⟩ := hs
      rw [run_equalIn_array (P := P) w D xs ys hu hi, show P.cellsOf e0 = s0 from by simp [Program.cellsOf, hi, hs], List.range_eq_range']
      exact eqElB_ok (fun t u v b he => eqT_ok d D t u v b (by omega) he) m 0 b h
    · cases h

theorem aggB_ok {t : TypeId} {xs ys : Array Value} {b : Bool} (hb : aggB P t xs ys = some b) :
    pureV (.agg xs) = true ∧ pureV (.agg ys) = true ∧ (∀ op x y, (eqGuard op t x y (.agg xs) (.agg ys)).run P w = .ok () w) ∧ (binOp .eql t (.agg xs) (.agg ys)).run P w = .ok (.bool b) w ∧ (binOp .neq t (.agg xs) (.agg ys)).run P w = .ok (.bool !b) w := by
  unfold aggB at hb
  split at hb
  · rename_i h1 h2 h3
    have he := eqT_ok (P := P) (w := w) 16 10000 t _ _ _ (by decide) hb
    refine ⟨?_, ?_, fun op x y => run_eqGuard_agg w op t x y xs ys h3, ?_, ?_⟩
    · obtain ⟨l⟩ := xs; simpa [pureV] using h1
    · obtain ⟨l⟩ := ys; simpa [pureV] using h2
    · rw [run_eql_struct, he]; rfl
    · rw [run_neq_struct, he]; rfl
  · cases hb

theorem binB_ok {op : BinOp} {t : TypeId} {x y : Operand} {u v u' v' r : Value} (hr : binB P op t x y u v = some r) (hu : VR μ u u') (hv : VR μ v v') (hx : ∀ c, x = .const c → u = c) (hy : ∀ c, y = .const c → v = c) :
    (do eqGuard op t x y u' v'; binOp op t u' v').run P w = .ok r w ∧ pureV r = true := by
  have pureAr : ∀ (op : BinOp) (k : IntKind) (p q : Int), arithB op k p q = some r → pureV r = true := by
    intro op k p q hq
    cases op <;> simp only [arithB] at hq <;> first | (cases hq; rfl) | (split at hq <;> cases hq <;> rfl)
  unfold binB at hr
  split at hr
  · rename_i k p k' q
    simp only [VR] at hu hv
    subst hu hv
    simp only [Sem.run_bind, eqGuard_at_int, Sem.run_pure, Result.andThen_ok]
    split at hr
    · exact ⟨shiftB_ok t hr (.inl rfl), pureAr _ _ _ _ hr⟩
    · exact ⟨shiftB_ok t hr (.inr rfl), pureAr _ _ _ _ hr⟩
    · rename_i h1 h2
      split at hr
      · rename_i hk
        have := of_decide_eq_true hk
        subst this
        exact ⟨arithB_ok t hr ⟨h1, h2⟩, pureAr _ _ _ _ hr⟩
      · cases hr
  · rename_i k p k' q
    simp only [VR] at hu hv
    subst hu hv
    simp only [Sem.run_bind, eqGuard_at_float, Sem.run_pure, Result.andThen_ok]
    split at hr
    · rename_i hk
      have := of_decide_eq_true hk
      subst this
      refine ⟨floatB_ok t hr, ?_⟩
      cases op <;> simp only [floatB, Option.map_eq_some_iff] at hr <;> first | (cases hr; done) | (cases hr; rfl) | (obtain ⟨_, _, rfl⟩ := hr; rfl)
    · cases hr
  · rename_i p q
    simp only [VR] at hu hv
    subst hu hv
    simp only [Sem.run_bind, eqGuard_at_string, Sem.run_pure, Result.andThen_ok]
    refine ⟨stringB_ok t hr, ?_⟩
    cases op <;> simp only [stringB] at hr <;> first | (cases hr; done) | (cases hr; rfl) | (split at hr <;> first | (cases hr; done) | (cases hr; rfl))
  · rename_i xs ys
    split at hr
    · rw [Option.map_eq_some_iff] at hr
      obtain ⟨b, hb, rfl⟩ := hr
      obtain ⟨p1, p2, hg, he, _⟩ := aggB_ok (w := w) hb
      have e1 := (VR.pure p1).1 hu
      have e2 := (VR.pure p2).1 hv
      subst e1 e2
      simp only [Sem.run_bind, hg, Result.andThen_ok]
      exact ⟨he, rfl⟩
    · rw [Option.map_eq_some_iff] at hr
      obtain ⟨b, hb, rfl⟩ := hr
      obtain ⟨p1, p2, hg, _, he⟩ := aggB_ok (w := w) hb
      have e1 := (VR.pure p1).1 hu
      have e2 := (VR.pure p2).1 hv
      subst e1 e2
      simp only [Sem.run_bind, hg, Result.andThen_ok]
      exact ⟨he, rfl⟩
    · cases hr
  · have kinds : ∀ b, eqB P t x y u v = some b → (∃ d, nilKind d u' = true) ∨ (∃ p q, u' = .bool p ∧ v' = .bool q) := by
      intro b hb
      unfold eqB at hb
      split at hb
      · simp only [VR] at hu hv
        subst hu hv
        exact .inr ⟨_, _, rfl, rfl⟩
      · simp only [VR] at hu
        obtain ⟨l1, _, h1, rfl⟩ := hu
        rename_i a1 a2
        split at hb
        case h_2 => cases hb
        rename_i e _ _ _ _
        exact .inl ⟨.pointer e, rfl⟩
      · split at hb
        case h_2 => cases hb
        rename_i d _
        split at hb
        case h_2 => cases hb
        rename_i hk1 hk2
        exact .inl ⟨d, nilKind_VR hk1 hu⟩
    split at hr
    · rw [Option.map_eq_some_iff] at hr
      obtain ⟨b, hb, rfl⟩ := hr
      obtain ⟨hg, he⟩ := eqB_ok (w := w) hb hu hv hx hy
      simp only [Sem.run_bind, hg, Result.andThen_ok]
      exact ⟨(binOp_eq_run he (kinds b hb)).1, rfl⟩
    · rw [Option.map_eq_some_iff] at hr
      obtain ⟨b, hb, rfl⟩ := hr
      obtain ⟨hg, he⟩ := eqB_ok (w := w) hb hu hv hx hy
      simp only [Sem.run_bind, hg, Result.andThen_ok]
      exact ⟨(binOp_eq_run he (kinds b hb)).2, rfl⟩
    · cases hr

theorem unB_ok {op : UnOp} {u u' r : Value} (hr : unB op u = some r) (hu : VR μ u u') : (Op.unary op u').run P w = .ok r w ∧ pureV r = true := by
  unfold unB at hr
  split at hr
  · simp only [VR] at hu
    subst hu
    split at hr <;> cases hr
    · exact ⟨rfl, rfl⟩
    · exact ⟨rfl, rfl⟩
  · simp only [VR] at hu
    subst hu
    split at hr <;> cases hr
    exact ⟨rfl, rfl⟩
  · simp only [VR] at hu
    subst hu
    split at hr <;> cases hr
    exact ⟨rfl, rfl⟩
  · cases hr

theorem minMaxB_ok {mx : Bool} {u v u' v' r : Value} (hr : minMaxB mx u v = some r) (hu : VR μ u u') (hv : VR μ v v') :
    (match mx with | true => Builtin.max2 u' v' | false => Builtin.min2 u' v').run P w = .ok r w ∧ pureV r = true := by
  unfold minMaxB at hr
  split at hr
  · simp only [VR] at hu hv
    subst hu hv
    cases hr
    cases mx <;> exact ⟨rfl, rfl⟩
  · cases hr

theorem foldB_ok {mx : Bool} : ∀ (vs vs' : List Value) (u u' r : Value), foldB (minMaxB mx) u vs = some r → VR μ u u' → VRL μ vs vs' →
    ∃ r', (vs'.foldlM (match mx with | true => Builtin.max2 | false => Builtin.min2) u').run P w = .ok r' w ∧ VR μ r r'
  | [], vs', u, u', r, hr, hu, hvs => by
    simp only [VRL] at hvs
    subst hvs
    simp only [foldB, Option.some.injEq] at hr
    subst hr
    exact ⟨u', rfl, hu⟩
  | v :: vs, vs', u, u', r, hr, hu, hvs => by
    simp only [VRL] at hvs
    obtain ⟨v', us', rfl, hv, hl⟩ := hvs
    simp only [foldB] at hr
    split at hr
    · rename_i q hq
      obtain ⟨h1, h2⟩ := minMaxB_ok (P := P) (w := w) hq hu hv
      obtain ⟨r', h3, h4⟩ := foldB_ok vs us' q q r hr (VR.of_pure h2) hl
      refine ⟨r', ?_, h4⟩
      simp only [List.foldlM_cons, Sem.run_bind]
      cases mx
      · simp only at h1 h3 ⊢
        rw [h1]; simpa using h3
      · simp only at h1 h3 ⊢
        rw [h1]; simpa using h3
    · cases hr

end
end Go.Proofs.YtibffohcmegooaaGreatDoor.V

namespace Go.Proofs.YtibffohcmegooaaGreatDoor.V
set_option linter.all false
open Go

mutual
theorem sameV_eq : ∀ {a b : Value}, sameV a b = true → a = b
  | .bool a, v, h => by
    simp only [sameV] at h
    split at h
    · simpa using h
    · cases h
  | .int j a, v, h => by
    simp only [sameV] at h
    split at h
    · split at h
      · rename_i hk
        have := of_decide_eq_true hk
        subst this
        simpa using h
      · cases h
    · cases h
  | .float j a, v, h => by
    simp only [sameV] at h
    split at h
    · split at h
      · rename_i hk
        have := of_decide_eq_true hk
        subst this
        rw [beq_iff.1 h]
      · cases h
    · cases h
  | .string a, v, h => by
    simp only [sameV] at h
    split at h
    · rename_i c
      rw [bytesEq_eq] at h
      have h1 : a.data.toList = c.data.toList := eq_of_beq h
      obtain ⟨⟨a⟩⟩ := a
      obtain ⟨⟨c⟩⟩ := c
      simp only at h1
      rw [h1]
    · cases h
  | .nilIface, v, h => by
    simp only [sameV] at h
    split at h
    · rfl
    · cases h
  | .pointer none, v, h => by
    simp only [sameV] at h
    split at h
    · rfl
    · cases h
  | .agg ⟨x⟩, v, h => by
    simp only [sameV] at h
    split at h
    · rw [sameL_eq h]
    · cases h
  | .tuple ⟨x⟩, v, h => by
    simp only [sameV] at h
    split at h
    · rw [sameL_eq h]
    · cases h
  | .pointer (some _), _, h => by simp [sameV] at h
  | .complex _ _ _, _, h => by simp [sameV] at h
  | .slice _ _ _, _, h => by simp [sameV] at h
  | .map _, _, h => by simp [sameV] at h
  | .chan _, _, h => by simp [sameV] at h
  | .func _ _ _, _, h => by simp [sameV] at h
  | .nilFunc, _, h => by simp [sameV] at h
  | .iface _ _, _, h => by simp [sameV] at h
theorem sameL_eq : ∀ {a b : List Value}, sameL a b = true → a = b
  | [], l, h => by
    simp only [sameL] at h
    split at h
    · rfl
    · cases h
  | x :: a, l, h => by
    simp only [sameL] at h
    split at h
    · split at h
      · rename_i h1
        rw [sameV_eq h1, sameL_eq h]
      · cases h
    · cases h
end

mutual
theorem sameV_pure : ∀ {a : Value}, sameV a a = true → pureV a = true
  | .bool _, _ => rfl
  | .int _ _, _ => rfl
  | .float _ _, _ => rfl
  | .string _, _ => rfl
  | .nilIface, _ => rfl
  | .pointer none, _ => rfl
  | .agg ⟨x⟩, h => by simp only [sameV] at h; simp only [pureV]; exact sameL_pure h
  | .tuple ⟨x⟩, h => by simp only [sameV] at h; simp only [pureV]; exact sameL_pure h
  | .pointer (some _), h => by simp [sameV] at h
  | .complex _ _ _, _ => rfl
  | .slice _ _ _, h => by simp [sameV] at h
  | .map _, h => by simp [sameV] at h
  | .chan _, h => by simp [sameV] at h
  | .func _ _ _, h => by simp [sameV] at h
  | .nilFunc, _ => rfl
  | .iface _ _, h => by simp [sameV] at h
theorem sameL_pure : ∀ {a : List Value}, sameL a a = true → pureL a = true
  | [], _ => rfl
  | x :: a, h => by
    simp only [sameL] at h
    split at h
    · rename_i h1
      simp only [pureL, sameV_pure h1, sameL_pure h, Bool.and_self]
    · cases h
end

/-- Cells written one after the other. -/
def setL (w : World) (b o : Nat) : List Value → World
  | [] => w
  | v :: vs => setL (w.setCell ⟨b, o, none⟩ v) b (o + 1) vs

section
variable {P : Program} {Z : AH} {G n : Nat} {μ : Mu} {env : T (Option Value)} {a : Act} {h : AH} {w : World}

theorem setL_same : ∀ (vs : List Value) (w : World) (b o : Nat), (setL w b o vs).heap.size = w.heap.size ∧ (setL w b o vs).os = w.os ∧ (setL w b o vs).tape = w.tape ∧ (setL w b o vs).output = w.output ∧
    (∀ k, k ≠ b → (setL w b o vs).heap[k]? = w.heap[k]?) ∧ (∀ x, (setL w b o vs).frozen? x = w.frozen? x) ∧ (setL w b o vs).shape? b = w.shape? b
  | [], w, b, o => ⟨rfl, rfl, rfl, rfl, fun _ _ => rfl, fun _ => rfl, rfl⟩
  | v :: vs, w, b, o => by
    obtain ⟨h1, h2, h3, h4, h5, h6, h7⟩ := setL_same vs (w.setCell ⟨b, o, none⟩ v) b (o + 1)
    refine ⟨by rw [setL, h1]; simp, by rw [setL, h2]; rfl, by rw [setL, h3]; rfl, by rw [setL, h4]; rfl, ?_, ?_, ?_⟩
    · intro k hk
      rw [setL, h5 k hk]
      exact Go.RowKit.Below.heap_setCell _ _ _ _ hk
    · intro x
      rw [setL, h6]
      simp
    · rw [setL, h7]
      simp only [World.shape?, World.setCell, Array.getElem?_modify, if_true]
      cases hb : w.heap[b]? with
      | none => rfl
      | some o => cases o <;> simp

theorem setL_cell : ∀ (vs : List Value) (w : World) (b o : Nat), (∀ k, k < vs.length → (w.cell? ⟨b, o + k, none⟩).isSome = true) → ∀ q,
    (setL w b o vs).cell? ⟨b, q, none⟩ = if o ≤ q ∧ q < o + vs.length then vs[q - o]? else w.cell? ⟨b, q, none⟩
  | [], w, b, o, _, q => by
    rw [if_neg (by simp only [List.length_nil]; omega)]; rfl
  | v :: vs, w, b, o, hh, q => by
    have h0 := hh 0 (by simp)
    rw [Nat.add_zero] at h0
    obtain ⟨u, hu⟩ := Option.isSome_iff_exists.1 h0
    have hstep : ∀ k, k < vs.length → ((w.setCell ⟨b, o, none⟩ v).cell? ⟨b, o + 1 + k, none⟩).isSome = true := by
      intro k hk
      rw [World.cell?_setCell_other _ _ _ _ (by simp; omega)]
      have := hh (k + 1) (by simp; omega)
      rwa [show o + 1 + k = o + (k + 1) from by omega]
    rw [setL, setL_cell vs _ b (o + 1) hstep q]
    by_cases hq : o + 1 ≤ q ∧ q < o + 1 + vs.length
    · rw [if_pos hq, if_pos (by simp; omega)]
      rw [show q - o = (q - (o + 1)) + 1 from by omega]
      simp
    · rw [if_neg hq]
      by_cases he : q = o
      · subst he
        rw [if_pos (by simp), World.cell?_setCell_same _ _ _ hu]
        simp
      · rw [if_neg (by simp; omega), World.cell?_setCell_other _ _ _ _ (by simp; omega)]

theorem run_storeCells (b o : Nat) : ∀ (vs : List Value) (i : Nat) (w : World), vs.all (·.oneCell') = true → (∀ k, k < vs.length → (w.cell? ⟨b, o + i + k, none⟩).isSome = true) →
    (∀ k, k < vs.length → w.frozen? ⟨b, o + i + k, none⟩ = false) → (storeCells ⟨b, o, none⟩ vs i).run P w = .ok () (setL w b (o + i) vs)
  | [], i, w, _, _, _ => rfl
  | v :: vs, i, w, h1, h2, h3 => by
    simp only [List.all_cons, Bool.and_eq_true] at h1
    have c0 := h2 0 (by simp)
    have f0 := h3 0 (by simp)
    rw [Nat.add_zero] at c0 f0
    obtain ⟨u, hu⟩ := Option.isSome_iff_exists.1 c0
    simp only [storeCells, Addr.add_lit, Sem.run_bind, run_store P w _ v _ h1.1, hu, f0, Bool.false_eq_true, if_false, Result.andThen_ok]
    rw [run_storeCells b o vs (i + 1) (w.setCell ⟨b, o + i, none⟩ v) h1.2]
    · rfl
    · intro k hk
      rw [World.cell?_setCell_other _ _ _ _ (by simp; omega)]
      have := h2 (k + 1) (by simp; omega)
      rwa [show o + (i + 1) + k = o + i + (k + 1) from by omega]
    · intro k hk
      rw [World.frozen?_setCell]
      have := h3 (k + 1) (by simp; omega)
      rwa [show o + (i + 1) + k = o + i + (k + 1) from by omega]

theorem putL_size : ∀ (vs : List Value) (c : Array Value) (o : Nat), (putL c o vs).size = c.size
  | [], c, o => rfl
  | v :: vs, c, o => by rw [putL, putL_size]; simp

theorem putL_at : ∀ (vs : List Value) (c : Array Value) (o : Nat), o + vs.length ≤ c.size → ∀ q, (putL c o vs)[q]? = if o ≤ q ∧ q < o + vs.length then vs[q - o]? else c[q]?
  | [], c, o, _, q => by
    rw [if_neg (by simp only [List.length_nil]; omega)]; rfl
  | v :: vs, c, o, hle, q => by
    simp only [List.length_cons] at hle
    rw [putL, putL_at vs _ _ (by simp; omega) q]
    by_cases hq : o + 1 ≤ q ∧ q < o + 1 + vs.length
    · rw [if_pos hq, if_pos (by simp; omega)]
      rw [show q - o = (q - (o + 1)) + 1 from by omega]
      simp
    · rw [if_neg hq]
      by_cases he : q = o
      · subst he
        rw [if_pos (by simp)]
        have : q < c.size := by omega
        simp [this]
      · rw [if_neg (by simp; omega), Array.getElem?_setIfInBounds_ne (by omega)]

theorem ones_VR : ∀ {l l' : List Value}, VRL μ l l' → l.all oneB = true → l'.all (·.oneCell') = true
  | [], l', h, _ => by simp only [VRL] at h; subst h; rfl
  | v :: vs, l', h, ha => by
    simp only [VRL] at h
    obtain ⟨v', vs', rfl, hv, hl⟩ := h
    simp only [List.all_cons, Bool.and_eq_true] at ha ⊢
    exact ⟨by rw [← VR.one hv]; exact ha.1, ones_VR hl ha.2⟩

theorem some_lt {α : Type} {l : List α} {k : Nat} (h : k < l.length) : ∃ v, l[k]? = some v := ⟨l[k], List.getElem?_eq_getElem h⟩

/-- Cells of an abstract block of one's own are written. -/
theorem HR.store (x : HR Z G μ h w) {i : Nat} {c : Array Value} {g : Gw} (hm : h.may i = true) (hi : h.get i = some (.cells c g)) {L : Loc} (hL : μ i = some L) {o : Nat} {vs vs' : List Value}
    (hle : o + vs.length ≤ c.size) (hvs : VRL μ vs vs') (hone : vs.all oneB = true) :
    (storeCells ⟨L.b, L.o + o, none⟩ vs').run P w = .ok () (setL w L.b (L.o + o) vs') ∧
      HR Z G μ (h.put i (some (.cells (putL c o vs) g))) (setL w L.b (L.o + o) vs') ∧ FR h μ w (h.put i (some (.cells (putL c o vs) g))) μ (setL w L.b (L.o + o) vs') := by
  obtain ⟨l, hl, hb⟩ := x.blk i _ hi
  rw [hL] at hl; cases hl
  obtain ⟨he, hsh, hin, hc, hf⟩ := hb
  have himp : h.own i = true := AH.may_imp hm
  have hlen := hvs.length
  have hcell : ∀ k, k < vs'.length → (w.cell? ⟨L.b, L.o + o + k, none⟩).isSome = true := by
    intro k hk
    obtain ⟨v, hv⟩ := some_lt (l := c.toList) (k := o + k) (by simp; omega)
    obtain ⟨v', h1, _⟩ := hc (o + k) v (by simpa using hv)
    rw [Nat.add_assoc, h1]; rfl
  obtain ⟨s1, s2, s3, s4, s5, s6, s7⟩ := setL_same vs' w L.b (L.o + o)
  refine ⟨?_, ?_⟩
  · have := run_storeCells (P := P) L.b (L.o + o) vs' 0 w (ones_VR hvs hone) (by simpa using hcell) (fun k hk => hf himp _ (by omega))
    simpa using this
  · refine HR.put x hm hi hL s1 s5 s2 s3 s4 ?_
    intro bb hbb
    cases hbb
    refine ⟨he, by rw [s7]; exact hsh, by rw [putL_size]; exact hin, ?_, fun _ k hk => by rw [s6]; exact hf himp k hk⟩
    intro k v hv
    rw [putL_at _ _ _ hle] at hv
    rw [setL_cell vs' w L.b (L.o + o) hcell]
    by_cases hk : o ≤ k ∧ k < o + vs.length
    · rw [if_pos hk] at hv
      rw [if_pos (by omega)]
      obtain ⟨v', h1, h2⟩ := hvs.at hv
      exact ⟨v', by rw [show L.o + k - (L.o + o) = k - o from by omega]; exact h1, h2⟩
    · rw [if_neg hk] at hv
      rw [if_neg (by omega)]
      exact hc k v hv

theorem storeB_ok (x : HR Z G μ h w) {t : TypeId} {v v' p p' : Value} {h' : AH} (hs : storeB P h t v p = some h') (hv : VR μ v v') (hp : VR μ p p') :
    ∃ w', (Instr.storeAt t p' v').run P w = .ok () w' ∧ HR Z G μ h' w' ∧ FR h μ w h' μ w' := by
  unfold storeB at hs
  split at hs
  case h_2 => cases hs
  rename_i ad
  split at hs
  case h_2 => cases hs
  rename_i c g hsp hm hi
  split at hs
  case h_2 => cases hs
  rename_i k hsz
  split at hs
  case h_2 => cases hs
  rename_i h1 h2 h3
  simp only [Option.some.injEq] at hs
  subst hs
  simp only [VR] at hp
  obtain ⟨L, _, hL, rfl⟩ := hp
  have hcl := hv.cells
  have e1 : v.cells.size = k := beq_iff.1 h1
  have e2 := ble_iff.1 h2
  obtain ⟨r1, r2, r3⟩ := HR.store (P := P) x hm hi hL (o := ad.off) (by simpa [e1] using e2) hcl h3
  refine ⟨_, ?_, r2, r3⟩
  have e3 : v'.cells.size = k := by have := hcl.length; simp at this; omega
  simp only [Instr.storeAt, Instr.sureAddr, storeVar, Sem.run_bind, Sem.run_pure, Result.andThen_ok, run_sizeOf hsz, e3, ne_eq, not_true_eq_false, if_false]
  exact r1

theorem setCell_self (w : World) (b o : Nat) {v : Value} (h : w.cell? ⟨b, o, none⟩ = some v) : w.setCell ⟨b, o, none⟩ v = w := by
  have hh : w.heap.modify b (fun
      | .cells c elem frozen => .cells (if (none : Option Nat).isSome then c else c.setIfInBounds o v) elem frozen
      | o => o) = w.heap := by
    apply Array.ext
    · simp
    · intro i h1 h2
      rw [Array.getElem_modify]
      split
      · rename_i hi
        subst hi
        unfold World.cell? at h
        simp only [Option.isSome_none, Bool.false_eq_true, if_false] at h
        rw [Array.getElem?_eq_getElem h2] at h
        cases hc : w.heap[b] with
        | cells c el fr =>
          rw [hc] at h
          simp only at h ⊢
          obtain ⟨hlt, he⟩ := Array.getElem?_eq_some_iff.1 h
          have : c.setIfInBounds o v = c := by
            apply Array.ext
            · simp
            · intro j j1 j2
              rw [Array.getElem_setIfInBounds (by simpa using j2)]
              split
              · rename_i hj; subst hj; exact he.symm
              · rfl
          rw [if_neg (by simp), this]
        | _ => simp
      · rfl
  exact congrArg (fun hp => ({ w with heap := hp } : World)) hh

theorem setL_self : ∀ (vs : List Value) (w : World) (b o : Nat), (∀ k v, vs[k]? = some v → w.cell? ⟨b, o + k, none⟩ = some v) → setL w b o vs = w
  | [], _, _, _, _ => rfl
  | v :: vs, w, b, o, h => by
    rw [setL, setCell_self w b o (by simpa using h 0 v (by simp))]
    exact setL_self vs w b (o + 1) (fun k u hk => by rw [show o + 1 + k = o + (k + 1) from by omega]; exact h (k + 1) u (by simpa using hk))

theorem storeSame_ok (x : HR Z G μ h w) {t : TypeId} {v v' p p' : Value} (hs : storeSame P h t v p = true) (hv : VR μ v v') (hp : VR μ p p') :
    (Instr.storeAt t p' v').run P w = .ok () w := by
  unfold storeSame at hs
  split at hs
  case h_2 => cases hs
  rename_i ad
  split at hs
  case h_2 => cases hs
  rename_i c g hsp hown hi
  split at hs
  case h_2 => cases hs
  rename_i k hsz
  split at hs
  case h_2 => cases hs
  rename_i h1 h2 h3
  simp only [VR] at hp
  obtain ⟨L, _, hL, rfl⟩ := hp
  have e1 : v.cells.size = k := beq_iff.1 h1
  have e2 := ble_iff.1 h2
  have hsame := sameL_eq hs
  have hpure : pureL v.cells.toList = true := sameL_pure (by have := hs; rw [← hsame] at this; exact this)
  have hcl : v'.cells.toList = v.cells.toList := (VRL.pure hpure).1 hv.cells
  obtain ⟨l, hl, hb⟩ := x.blk _ _ hi
  rw [hL] at hl; cases hl
  obtain ⟨he, hsh, hin, hc, hf⟩ := hb
  have hcells : ∀ q u, v'.cells.toList[q]? = some u → w.cell? ⟨L.b, L.o + ad.off + q, none⟩ = some u := by
    intro q u hq
    rw [hcl, hsame, List.getElem?_take] at hq
    split at hq
    · rw [List.getElem?_drop] at hq
      obtain ⟨u', h5, h6⟩ := hc (ad.off + q) u (by simpa using hq)
      have hu : pureV u = true := by
        have hmem : u ∈ v.cells.toList := by
          rw [hsame]
          refine List.mem_of_getElem? (i := q) ?_
          rw [List.getElem?_take, if_pos (by assumption), List.getElem?_drop]
          exact hq
        have key : ∀ l : List Value, pureL l = true → u ∈ l → pureV u = true := by
          intro l
          induction l with
          | nil => intro _ h; cases h
          | cons y l ih =>
            intro hp hm
            simp only [pureL, Bool.and_eq_true] at hp
            cases hm with
            | head => exact hp.1
            | tail _ hm => exact ih hp.2 hm
        exact key _ hpure hmem
      have := (VR.pure hu).1 h6
      subst this
      rw [Nat.add_assoc]
      exact h5
    · cases hq
  have hone : v'.cells.toList.all (·.oneCell') = true := ones_VR hv.cells h3
  have hlen : v'.cells.toList.length = k := by rw [hcl]; simpa using e1
  have hst := run_storeCells (P := P) L.b (L.o + ad.off) v'.cells.toList 0 w hone (fun q hq => by
    obtain ⟨u, hu⟩ := some_lt hq
    have := hcells q u hu
    rw [Nat.add_zero, this]; rfl) (fun q hq => by
    rw [Nat.add_zero]
    exact hf hown _ (by omega))
  rw [Nat.add_zero, setL_self _ _ _ _ hcells] at hst
  have e3 : v'.cells.size = k := by simpa using hlen
  simp only [Instr.storeAt, Instr.sureAddr, storeVar, Sem.run_bind, Sem.run_pure, Result.andThen_ok, run_sizeOf hsz, e3, ne_eq, not_true_eq_false, if_false]
  exact hst

/-- A new row of cells. -/
theorem new_cells (x : HR Z G μ h w) {c c' rest : Array Value} {g : Gw} {kv : Nat → Value} {v : Value} {ho : Option AH} (el : TypeId) (hn : newB h (.cells c g) kv = some (v, ho)) (hc : VRL μ c.toList c'.toList) (hfit : g.fit el 0 := by trivial) :
    ∃ (ν : Mu) (h' : AH), ho = some h' ∧ v = kv h.next ∧ ν h.next = some ⟨w.heap.size, 0, (c' ++ rest).size, g.e⟩ ∧ HR Z G ν h' (w.alloc (.cells (c' ++ rest) el)) ∧ FR h μ w h' ν (w.alloc (.cells (c' ++ rest) el)) := by
  unfold newB at hn
  split at hn
  case h_2 => cases hn
  rename_i i h' hnew
  cases hn
  obtain ⟨rfl, ν, h1, h2, h3⟩ := HR.new x hnew (.cells (c' ++ rest) el) (c' ++ rest).size g.e (by
    intro ν hle
    refine ⟨rfl, ⟨el, by unfold World.shape? World.alloc; simp, hfit⟩, ?_, ?_, ?_⟩
    · have := hc.length
      simp at this ⊢
      omega
    · intro k u hu
      obtain ⟨u', hu', hr⟩ := hc.at (k := k) (v := u) (by simpa using hu)
      refine ⟨u', ?_, hr.mono hle⟩
      have hu'' : c'[k]? = some u' := by simpa using hu'
      have hlt : k < c'.size := (Array.getElem?_eq_some_iff.1 hu'').1
      rw [Nat.zero_add, World.cell?_alloc_new, Array.getElem?_append_left hlt]
      exact hu''
    · intro _ k hk
      simp)
  exact ⟨ν, h', rfl, rfl, h1, h2, h3⟩

theorem zeroOf_ok {t : TypeId} {z : Value} (hz : zeroOf P t = some z) : (zeroValue t).run P w = .ok z w ∧ pureV z = true ∧ ∃ i, P.info? t = some i ∧ i.zero = some z := by
  unfold zeroOf at hz
  split at hz
  case h_2 => cases hz
  rename_i i hi
  split at hz
  case h_2 => cases hz
  rename_i z' hz'
  split at hz
  case h_2 => cases hz
  rename_i hp
  cases hz
  exact ⟨by simp [zeroValue, typeInfo, hi, hz'], hp, i, hi, hz'⟩

theorem pure_cells {z : Value} (hz : pureV z = true) : pureL z.cells.toList = true := by
  cases z with
  | agg c => obtain ⟨l⟩ := c; simpa [pureV, Value.cells] using hz
  | _ => simpa [pureL, Value.cells] using hz

end
end Go.Proofs.YtibffohcmegooaaGreatDoor.V
