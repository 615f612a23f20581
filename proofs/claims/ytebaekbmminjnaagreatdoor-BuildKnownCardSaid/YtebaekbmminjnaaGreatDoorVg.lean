/- The small machine's tests, literals and small conversions agree with the model's. Conditions: none. -/
import Derived.Test.YtebaekbmminjnaaGreatDoorVf
import Derived.Laws.StructEq
import Derived.ChangeKeysEq
namespace Go.Proofs.YtebaekbmminjnaaGreatDoor.V
set_option linter.all false
open Go

section
variable {P : Program} {Z : AH} {G n : Nat} {μ : Mu} {env : T (Option Value)} {a : Act} {h : AH} {w : World}

/-- Two values of one kind, one of them nil. -/
theorem equal_nil {t : TypeId} {d : TypeDesc} (hd : P.underlying t = some d) {u v : Value} (h1 : nilKind d u = true) (h2 : nilKind d v = true) (hnil : isNilB u = some true ∨ isNilB v = some true) :
    ∃ b b1 b2, isNilB u = some b1 ∧ isNilB v = some b2 ∧ b = (b1 && b2) ∧ (Op.equal t u v).run P w = .ok b w := by
  unfold Op.equal Op.maxDepth Op.equalIn
  cases d <;> cases u <;> simp only [nilKind, Bool.false_eq_true] at h1 <;> cases v <;> simp only [nilKind, Bool.false_eq_true] at h2
  case pointer.pointer.pointer e x y =>
    cases x <;> cases y <;> simp [isNilB] at hnil ⊢ <;> simp [run_underlying hd]
  case slice.slice.slice e x _ _ y _ _ =>
    cases x <;> cases y <;> simp [isNilB] at hnil ⊢ <;> simp [run_underlying hd]
  case map.map.map e1 e2 x y =>
    cases x <;> cases y <;> simp [isNilB] at hnil ⊢ <;> simp [run_underlying hd]
  all_goals (simp [isNilB] at hnil ⊢ <;> simp [run_underlying hd])

theorem isNilB_VR {v v' : Value} {b : Bool} (hb : isNilB v = some b) (hv : VR μ v v') : isNilB v' = some b := by
  cases v with
  | pointer x => cases x <;> simp only [VR] at hv <;> first | (subst hv; exact hb) | (obtain ⟨_, _, _, rfl⟩ := hv; exact hb)
  | slice x _ _ => cases x <;> simp only [VR] at hv <;> first | (subst hv; exact hb) | (obtain ⟨_, _, _, _, rfl, _⟩ := hv; exact hb)
  | map x => cases x <;> simp only [VR] at hv <;> first | (subst hv; exact hb) | (obtain ⟨_, _, rfl⟩ := hv; exact hb)
  | func f a c => obtain ⟨a⟩ := a; obtain ⟨c⟩ := c; simp only [VR] at hv; obtain ⟨_, _, _, rfl, _⟩ := hv; exact hb
  | iface t x => simp only [VR] at hv; obtain ⟨_, rfl, _⟩ := hv; exact hb
  | nilFunc => simp only [VR] at hv; subst hv; exact hb
  | nilIface => simp only [VR] at hv; subst hv; exact hb
  | _ => simp [isNilB] at hb

theorem nilKind_VR {d : TypeDesc} {v v' : Value} (hb : nilKind d v = true) (hv : VR μ v v') : nilKind d v' = true := by
  cases v with
  | pointer x => cases x <;> simp only [VR] at hv <;> first | (subst hv; exact hb) | (obtain ⟨_, _, _, rfl⟩ := hv; cases d <;> simp_all [nilKind])
  | slice x _ _ => cases x <;> simp only [VR] at hv <;> first | (subst hv; exact hb) | (obtain ⟨_, _, _, _, rfl, _⟩ := hv; cases d <;> simp_all [nilKind])
  | map x => cases x <;> simp only [VR] at hv <;> first | (subst hv; exact hb) | (obtain ⟨_, _, rfl⟩ := hv; cases d <;> simp_all [nilKind])
  | func f a c => obtain ⟨a⟩ := a; obtain ⟨c⟩ := c; simp only [VR] at hv; obtain ⟨_, _, _, rfl, _⟩ := hv; cases d <;> simp_all [nilKind]
  | iface t x => simp only [VR] at hv; obtain ⟨_, rfl, _⟩ := hv; cases d <;> simp_all [nilKind]
  | nilFunc => simp only [VR] at hv; subst hv; exact hb
  | nilIface => simp only [VR] at hv; subst hv; exact hb
  | _ => cases d <;> simp [nilKind] at hb

theorem nilConst_val {y : Operand} {c : Value} (hy : nilConst y = true) (he : ∀ k, y = .const k → c = k)   : isNilB c = some true := by
  unfold nilConst at hy
  split at hy
  · rw [he _ rfl]; rfl
  · rw [he _ rfl]; rfl
  · rw [he _ rfl]; rfl
  · rw [he _ rfl]; rfl
  · rw [he _ rfl]; rfl
  · cases hy

theorem guard_nil {op : BinOp} {t : TypeId} {x y : Operand} {u v : Value} (hx : nilConst y = true ∨ nilConst x = true) (hk : ∃ d, nilKind d u = true) (hk2 : ∃ d, nilKind d v = true) :
    (eqGuard op t x y u v).run P w = .ok () w := by
  have hc : (∃ c, x = .const c) ∨ (∃ c, y = .const c) := by
    rcases hx with h | h <;> unfold nilConst at h <;> split at h <;> first | (cases h; done) | exact .inr ⟨_, rfl⟩ | exact .inl ⟨_, rfl⟩
  obtain ⟨d, hk⟩ := hk
  obtain ⟨d2, hk2⟩ := hk2
  cases u <;> try (cases d <;> simp [nilKind] at hk; done)
  case nilIface =>
    cases v <;> try (cases d2 <;> simp [nilKind] at hk2; done)
    case nilIface =>
      rcases hc with ⟨c, rfl⟩ | ⟨c, rfl⟩
      · rw [eqGuard_nil_constL]; rfl
      · rw [eqGuard_nil_constR]; rfl
    all_goals (cases op <;> rfl)
  all_goals (cases op <;> rfl)

theorem run_equal_ptr {t e : TypeId} {n : Nat} (hd : P.underlying t = some (.pointer e)) (hs : szOf P e = some (n + 1)) (b i j : Nat) :
    (Op.equal t (.pointer (some ⟨b, i, none⟩)) (.pointer (some ⟨b, j, none⟩))).run P w = .ok (decide (i = j)) w := by
  have hdef : Op.equal t (.pointer (some ⟨b, i, none⟩)) (.pointer (some ⟨b, j, none⟩)) = Op.equalIn (9999 + 1) t (.pointer (some ⟨b, i, none⟩)) (.pointer (some ⟨b, j, none⟩)) := rfl
  rw [hdef]
  unfold Op.equalIn
  simp only [Sem.run_bind, run_underlying hd, Result.andThen_ok, run_sizeOf hs]
  rw [if_pos (by simp)]
  unfold sameAddr
  simp only [BEq.rfl, if_true]
  by_cases h : i = j
  · subst h
    simp
  · have : ((⟨b, i, none⟩ : Addr) == ⟨b, j, none⟩) = false := by
      rw [beq_eq_false_iff_ne]
      intro he
      cases he
      exact h rfl
    simp [this, h]

theorem eqB_ok {t : TypeId} {x y : Operand} {u v u' v' : Value} {b : Bool} (hb : eqB P t x y u v = some b) (hu : VR μ u u') (hv : VR μ v v') (hx : ∀ c, x = .const c → u = c) (hy : ∀ c, y = .const c → v = c) :
    (∀ op, (eqGuard op t x y u' v').run P w = .ok () w) ∧ (Op.equal t u' v').run P w = .ok b w := by
  unfold eqB at hb
  split at hb
  · rename_i p q
    simp only [VR] at hu hv
    subst hu hv
    split at hb
    · rename_i hd
      simp only [Option.some.injEq] at hb
      subst hb
      exact ⟨fun op => by rw [eqGuard_at_bool]; rfl, run_equalIn_bool' w 9999 t p q hd⟩
    · cases hb
  · rename_i a1 a2
    split at hb
    case h_2 => cases hb
    rename_i e hd hs1 hs2 hbl
    split at hb
    case h_2 => cases hb
    rename_i n hsz
    simp only [Option.some.injEq] at hb
    subst hb
    simp only [VR] at hu hv
    obtain ⟨l1, _, h1, rfl⟩ := hu
    obtain ⟨l2, _, h2, rfl⟩ := hv
    have := beq_iff.1 hbl
    rw [this, h2] at h1
    cases h1
    refine ⟨fun op => by cases op <;> rfl, ?_⟩
    rw [run_equal_ptr hd hsz]
    congr 1
    by_cases hq : a1.off = a2.off
    · rw [hq, beq_iff.2 rfl]
      simp
    · have h3 : Nat.beq a1.off a2.off = false := by
        cases hb : Nat.beq a1.off a2.off with
        | false => rfl
        | true => exact absurd (beq_iff.1 hb) hq
      rw [h3]
      simp
      omega
  · split at hb
    case h_2 => cases hb
    rename_i d hd
    split at hb
    case h_2 => cases hb
    rename_i hk1 hk2
    have k1 := nilKind_VR hk1 hu
    have k2 := nilKind_VR hk2 hv
    split at hb
    · rename_i hy1
      have n2 := isNilB_VR (nilConst_val hy1 hy) hv
      have n1 := isNilB_VR hb hu
      refine ⟨fun op => guard_nil (.inl hy1) ⟨_, k1⟩ ⟨_, k2⟩, ?_⟩
      obtain ⟨b0, b1, b2, e1, e2, rfl, hrun⟩ := equal_nil (w := w) hd k1 k2 (.inr n2)
      rw [n1] at e1; rw [n2] at e2
      simp only [Option.some.injEq] at e1 e2
      subst e1 e2
      simpa using hrun
    · split at hb
      · rename_i hx1
        have n1 := isNilB_VR (nilConst_val hx1 hx) hu
        have n2 := isNilB_VR hb hv
        refine ⟨fun op => guard_nil (.inr hx1) ⟨_, k1⟩ ⟨_, k2⟩, ?_⟩
        obtain ⟨b0, b1, b2, e1, e2, rfl, hrun⟩ := equal_nil (w := w) hd k1 k2 (.inl n1)
        rw [n1] at e1; rw [n2] at e2
        simp only [Option.some.injEq] at e1 e2
        subst e1 e2
        simpa using hrun
      · cases hb

theorem binOp_eq_run {t : TypeId} {u v : Value} {b : Bool} (hr : (Op.equal t u v).run P w = .ok b w) (hk : (∃ d, nilKind d u = true) ∨ (∃ p q, u = .bool p ∧ v = .bool q)) :
    (binOp .eql t u v).run P w = .ok (.bool b) w ∧ (binOp .neq t u v).run P w = .ok (.bool !b) w := by
  have e1 : binOp .eql t u v = (do pure (.bool (← Op.equal t u v))) := by
    rcases hk with ⟨d, hk⟩ | ⟨p, q, rfl, rfl⟩
    · cases u <;> first | rfl | (cases d <;> simp [nilKind] at hk)
    · rfl
  have e2 : binOp .neq t u v = (do pure (.bool (!(← Op.equal t u v)))) := by
    rcases hk with ⟨d, hk⟩ | ⟨p, q, rfl, rfl⟩
    · cases u <;> first | rfl | (cases d <;> simp [nilKind] at hk)
    · rfl
  rw [e1, e2]
  simp [hr]

theorem partB_self {t : TypeId} {c : Array Value} {o : Nat} {v : Value} (hv : partB P t c o = some v) : (part t c o).run P w = .ok v w := by
  unfold partB at hv
  split at hv
  · rename_i k hb hs
    split at hv
    · simp only [Option.some.injEq] at hv
      subst hv
      have he : c.extract o (o + k) = ⟨(c.toList.drop o).take k⟩ := by
        apply Array.ext'
        simp only [Array.toList_extract, List.extract_eq_take_drop]
        rw [show o + k - o = k from by omega]
      simp [part, run_isAgg hb, run_sizeOf hs, he]
    · cases hv
  · rename_i k hb hs
    have hv' : c[o]? = some v := by simpa using hv
    simp [part, run_isAgg hb, hv']
  · cases hv

theorem eqFsB_ok {eq : TypeId → Value → Value → Option Bool} {d : Nat} {xs ys : Array Value} (heq : ∀ t u v b, eq t u v = some b → (Op.equalIn d t u v).run P w = .ok b w) :
    ∀ (fs : List Field) (b : Bool), eqFsB P eq xs ys fs = some b → (Op.eqFields d xs ys fs).run P w = .ok b w
  | [], b, h => by simp only [eqFsB, Option.some.injEq] at h; subst h; rfl
  | f :: fs, b, h => by
    simp only [eqFsB] at h
    split at h
    · rename_i hn
      have hn' : ¬ (f.name ≠ "_") := fun h => h (of_decide_eq_true hn)
      simp only [Op.eqFields, if_neg hn']
      exact eqFsB_ok heq fs b h
    · rename_i hn
      have hn' : f.name ≠ "_" := of_decide_eq_false hn
      simp only [Op.eqFields, if_pos hn']
      split at h
      · rename_i p q hp hq
        split at h
        · rename_i he
          simp only [Sem.run_bind, partB_self hp, partB_self hq, heq _ _ _ _ he, Result.andThen_ok, Bool.not_true, Bool.false_eq_true, if_false]
          exact eqFsB_ok heq fs b h
        · rename_i he
          cases h
          simp only [Sem.run_bind, partB_self hp, partB_self hq, heq _ _ _ _ he, Result.andThen_ok, Bool.not_false, if_true, Sem.run_pure]
        · cases h
      · cases h

theorem eqElB_ok {eq : TypeId → Value → Value → Option Bool} {d : Nat} {e : TypeId} {s : Nat} {xs ys : Array Value} (heq : ∀ t u v b, eq t u v = some b → (Op.equalIn d t u v).run P w = .ok b w) :
    ∀ (m i : Nat) (b : Bool), eqElB P eq e s xs ys m i = some b → (Op.eqItems d e s xs ys (List.range' i m)).run P w = .ok b w
  | 0, i, b, h => by simp only [eqElB, Option.some.injEq] at h; subst h; rfl
  | m + 1, i, b, h => by
    simp only [eqElB] at h
    split at h
    · rename_i p q hp hq
      simp only [List.range'_succ, Op.eqItems]
      split at h
      · rename_i he
        simp only [Sem.run_bind, partB_self hp, partB_self hq, heq _ _ _ _ he, Result.andThen_ok, Bool.not_true, Bool.false_eq_true, if_false]
        exact eqElB_ok heq m (i + 1) b h
      · rename_i he
        cases h
        simp only [Sem.run_bind, partB_self hp, partB_self hq, heq _ _ _ _ he, Result.andThen_ok, Bool.not_false, if_true, Sem.run_pure]
      · cases h
    · cases h

theorem eqT_ok : ∀ (d D : Nat) (t : TypeId) (u v : Value) (b : Bool), d ≤ D → eqT P d t u v = some b → (Op.equalIn D t u v).run P w = .ok b w
  | 0, _, _, _, _, _, _, h => by simp [eqT] at h
  | d + 1, 0, _, _, _, _, hd, _ => by omega
  | d + 1, D + 1, t, u, v, b, hd, h => by
    simp only [eqT] at h
    split at h
    · rename_i p q hu
      cases h
      exact run_equalIn_bool' w D t p q hu
    · rename_i k0 k p k' q hu
      split at h
      · rename_i hk
        have := of_decide_eq_true hk
        subst this
        cases h
        exact run_equalIn_int w D t k k0 p q hu
      · cases h
    · rename_i p q hu
      cases h
      rw [run_equalIn_string w D t p q hu, bytesEq_eq, ByteArray.toList_eq, ByteArray.toList_eq]
    · rename_i fs xs ys hu
      split at h
      · cases h
      · rename_i hs
        have hf : P.fieldsOf t = fs := by simp [Program.fieldsOf, hu]
        rw [run_equalIn_struct w D t xs ys (by rw [hf]; exact hu) hs, hf]
        exact eqFsB_ok (fun t u v b he => eqT_ok d D t u v b (by omega) he) fs.toList b h
    · rename_i m e0 xs ys hu
      split at h
      case h_2 => cases h
      rename_i s0 hs
      simp only [szOf, Option.map_eq_some_iff] at hs
      obtain ⟨i0, hi, hs⟩ := hs
      rw [run_equalIn_array (P := P) w D xs ys hu hi, show P.cellsOf e0 = s0 from by simp [Program.cellsOf, hi, hs], List.range_eq_range']
      exact eqElB_ok (fun t u v b he => eqT_ok d D t u v b (by omega) he) m 0 b h
    · cases h

theorem aggB_ok {t : TypeId} {xs ys : Array Value} {b : Bool} (hb : aggB P t xs ys = some b) :
    pureV (.agg xs) = true ∧ pureV (.agg ys) = true ∧ (∀ op x y, (eqGuard op t x y (.agg xs) (.agg ys)).run P w = .ok () w) ∧ (binOp .eql t (.agg xs) (.agg ys)).run P w = .ok (.bool b) w ∧ (binOp .neq t (.agg xs) (.agg ys)).run P w = .ok (.bool !b) w := by
  unfold aggB at hb
  split at hb
  · rename_i h1 h2 h3
    have he := eqT_ok (P := P) (w := w) 16 10000 t _ _ _ (by decide) hb
    refine ⟨?_, ?_, fun op x y => run_eqGuard_agg w op t x y xs ys h3, ?_, ?_⟩
    · obtain ⟨l⟩ := xs; simpa [pureV] using h1
    · obtain ⟨l⟩ := ys; simpa [pureV] using h2
    · rw [run_eql_struct, he]; rfl
    · rw [run_neq_struct, he]; rfl
  · cases hb

theorem binB_ok {op : BinOp} {t : TypeId} {x y : Operand} {u v u' v' r : Value} (hr : binB P op t x y u v = some r) (hu : VR μ u u') (hv : VR μ v v') (hx : ∀ c, x = .const c → u = c) (hy : ∀ c, y = .const c → v = c) :
    (do eqGuard op t x y u' v'; binOp op t u' v').run P w = .ok r w ∧ pureV r = true := by
  have pureAr : ∀ (op : BinOp) (k : IntKind) (p q : Int), arithB op k p q = some r → pureV r = true := by
    intro op k p q hq
    cases op <;> simp only [arithB] at hq <;> first | (cases hq; rfl) | (split at hq <;> cases hq <;> rfl)
  unfold binB at hr
  split at hr
  · rename_i k p k' q
    simp only [VR] at hu hv
    subst hu hv
    simp only [Sem.run_bind, eqGuard_at_int, Sem.run_pure, Result.andThen_ok]
    split at hr
    · exact ⟨shiftB_ok t hr (.inl rfl), pureAr _ _ _ _ hr⟩
    · exact ⟨shiftB_ok t hr (.inr rfl), pureAr _ _ _ _ hr⟩
    · rename_i h1 h2
      split at hr
      · rename_i hk
        have := of_decide_eq_true hk
        subst this
        exact ⟨arithB_ok t hr ⟨h1, h2⟩, pureAr _ _ _ _ hr⟩
      · cases hr
  · rename_i k p k' q
    simp only [VR] at hu hv
    subst hu hv
    simp only [Sem.run_bind, eqGuard_at_float, Sem.run_pure, Result.andThen_ok]
    split at hr
    · rename_i hk
      have := of_decide_eq_true hk
      subst this
      refine ⟨floatB_ok t hr, ?_⟩
      cases op <;> simp only [floatB, Option.map_eq_some_iff] at hr <;> first | (cases hr; done) | (cases hr; rfl) | (obtain ⟨_, _, rfl⟩ := hr; rfl)
    · cases hr
  · rename_i p q
    simp only [VR] at hu hv
    subst hu hv
    simp only [Sem.run_bind, eqGuard_at_string, Sem.run_pure, Result.andThen_ok]
    refine ⟨stringB_ok t hr, ?_⟩
    cases op <;> simp only [stringB] at hr <;> first | (cases hr; done) | (cases hr; rfl) | (split at hr <;> first | (cases hr; done) | (cases hr; rfl))
  · rename_i xs ys
    split at hr
    · rw [Option.map_eq_some_iff] at hr
      obtain ⟨b, hb, rfl⟩ := hr
      obtain ⟨p1, p2, hg, he, _⟩ := aggB_ok (w := w) hb
      have e1 := (VR.pure p1).1 hu
      have e2 := (VR.pure p2).1 hv
      subst e1 e2
      simp only [Sem.run_bind, hg, Result.andThen_ok]
      exact ⟨he, rfl⟩
    · rw [Option.map_eq_some_iff] at hr
      obtain ⟨b, hb, rfl⟩ := hr
      obtain ⟨p1, p2, hg, _, he⟩ := aggB_ok (w := w) hb
      have e1 := (VR.pure p1).1 hu
      have e2 := (VR.pure p2).1 hv
      subst e1 e2
      simp only [Sem.run_bind, hg, Result.andThen_ok]
      exact ⟨he, rfl⟩
    · cases hr
  · have kinds : ∀ b, eqB P t x y u v = some b → (∃ d, nilKind d u' = true) ∨ (∃ p q, u' = .bool p ∧ v' = .bool q) := by
      intro b hb
      unfold eqB at hb
      split at hb
      · simp only [VR] at hu hv
        subst hu hv
        exact .inr ⟨_, _, rfl, rfl⟩
      · simp only [VR] at hu
        obtain ⟨l1, _, h1, rfl⟩ := hu
        rename_i a1 a2
        split at hb
        case h_2 => cases hb
        rename_i e _ _ _ _
        exact .inl ⟨.pointer e, rfl⟩
      · split at hb
        case h_2 => cases hb
        rename_i d _
        split at hb
        case h_2 => cases hb
        rename_i hk1 hk2
        exact .inl ⟨d, nilKind_VR hk1 hu⟩
    split at hr
    · rw [Option.map_eq_some_iff] at hr
      obtain ⟨b, hb, rfl⟩ := hr
      obtain ⟨hg, he⟩ := eqB_ok (w := w) hb hu hv hx hy
      simp only [Sem.run_bind, hg, Result.andThen_ok]
      exact ⟨(binOp_eq_run he (kinds b hb)).1, rfl⟩
    · rw [Option.map_eq_some_iff] at hr
      obtain ⟨b, hb, rfl⟩ := hr
      obtain ⟨hg, he⟩ := eqB_ok (w := w) hb hu hv hx hy
      simp only [Sem.run_bind, hg, Result.andThen_ok]
      exact ⟨(binOp_eq_run he (kinds b hb)).2, rfl⟩
    · cases hr

theorem unB_ok {op : UnOp} {u u' r : Value} (hr : unB op u = some r) (hu : VR μ u u') : (Op.unary op u').run P w = .ok r w ∧ pureV r = true := by
  unfold unB at hr
  split at hr
  · simp only [VR] at hu
    subst hu
    split at hr <;> cases hr
    · exact ⟨rfl, rfl⟩
    · exact ⟨rfl, rfl⟩
  · simp only [VR] at hu
    subst hu
    split at hr <;> cases hr
    exact ⟨rfl, rfl⟩
  · simp only [VR] at hu
    subst hu
    split at hr <;> cases hr
    exact ⟨rfl, rfl⟩
  · cases hr

theorem minMaxB_ok {mx : Bool} {u v u' v' r : Value} (hr : minMaxB mx u v = some r) (hu : VR μ u u') (hv : VR μ v v') :
    (match mx with | true => Builtin.max2 u' v' | false => Builtin.min2 u' v').run P w = .ok r w ∧ pureV r = true := by
  unfold minMaxB at hr
  split at hr
  · simp only [VR] at hu hv
    subst hu hv
    cases hr
    cases mx <;> exact ⟨rfl, rfl⟩
  · cases hr

theorem foldB_ok {mx : Bool} : ∀ (vs vs' : List Value) (u u' r : Value), foldB (minMaxB mx) u vs = some r → VR μ u u' → VRL μ vs vs' →
    ∃ r', (vs'.foldlM (match mx with | true => Builtin.max2 | false => Builtin.min2) u').run P w = .ok r' w ∧ VR μ r r'
  | [], vs', u, u', r, hr, hu, hvs => by
    simp only [VRL] at hvs
    subst hvs
    simp only [foldB, Option.some.injEq] at hr
    subst hr
    exact ⟨u', rfl, hu⟩
  | v :: vs, vs', u, u', r, hr, hu, hvs => by
    simp only [VRL] at hvs
    obtain ⟨v', us', rfl, hv, hl⟩ := hvs
    simp only [foldB] at hr
    split at hr
    · rename_i q hq
      obtain ⟨h1, h2⟩ := minMaxB_ok (P := P) (w := w) hq hu hv
      obtain ⟨r', h3, h4⟩ := foldB_ok vs us' q q r hr (VR.of_pure h2) hl
      refine ⟨r', ?_, h4⟩
      simp only [List.foldlM_cons, Sem.run_bind]
      cases mx
      · simp only at h1 h3 ⊢
        rw [h1]; simpa using h3
      · simp only at h1 h3 ⊢
        rw [h1]; simpa using h3
    · cases hr

end
end Go.Proofs.YtebaekbmminjnaaGreatDoor.V
