/- The quick way through a statement whose order is open comes to what the careful way comes to. Conditions: none. -/
import Derived.Test.YtibffohcmegooaaGreatDoorVd3
namespace Go.Proofs.YtibffohcmegooaaGreatDoor.V
set_option linter.all false
open Go

section
variable {sq : Option Nat} {P : Program} {Z : AH} {G n : Nat} {ext : FuncId → Option Ext} {orc : Orc} {env env' : T (Option Value)} {h : AH}

/-- The operand reads alike. -/
theorem ev_congr {x : Operand} (hx : ∀ t, x = .tmp t → t < n → env.get t = env'.get t) : ev G n env x = ev G n env' x := by
  cases x with
  | tmp t =>
    simp only [ev]
    cases hb : Nat.blt t n with
    | false => rfl
    | true => exact hx t rfl (blt_iff.1 hb)
  | const v => rfl
  | global g => rfl
  | func f => rfl

theorem evsA_congr {e e' : Operand → Option Value} : ∀ {l : List Operand}, (∀ x ∈ l, e x = e' x) → evsA e l = evsA e' l
  | [], _ => rfl
  | x :: xs, hl => by
    rw [evsA_cons, evsA_cons, hl x (by simp), evsA_congr fun y hy => hl y (by simp [hy])]

theorem partsOk_congr : ∀ {l : List (Nat × Operand)}, (∀ x ∈ l, ev G n env x.2 = ev G n env' x.2) → partsOk G l n env = partsOk G l n env'
  | [], _ => rfl
  | (i, x) :: xs, hl => by
    simp only [partsOk]
    rw [hl (i, x) (by simp), partsOk_congr fun y hy => hl y (by simp [hy])]

theorem opA_congr {op : Op} (hl : ∀ x ∈ op.operands, ev G n env x = ev G n env' x) : opA op P G ext orc n env h = opA op P G ext orc n env' h := by
  cases op <;> simp only [Op.operands] at hl <;> try rfl
  case move x => simp only [opA, aMove]; rw [hl x (by simp)]
  case assign x => simp only [opA, aMove]; rw [hl x (by simp)]
  case pick c a b => simp only [opA, aPick]; rw [hl c (by simp), hl a (by simp), hl b (by simp)]
  case box t x => simp only [opA, aBox]; rw [hl x (by simp)]
  case build t ps => simp only [opA, aBuild]; rw [partsOk_congr (fun x hx => hl x.2 (by simpa using ⟨x.1, by simpa using hx⟩))]
  case buildSlice t len ps => simp only [opA, aBuildSlice]; rw [partsOk_congr (fun x hx => hl x.2 (by simpa using ⟨x.1, by simpa using hx⟩))]
  case load t x => simp only [opA, aLoad]; rw [hl x (by simp)]
  case store t x y => simp only [opA, aStore]; rw [hl x (by simp), hl y (by simp)]
  case nilCheck x => simp only [opA, aNilCheck]; rw [hl x (by simp)]
  case binOp op t x y yt => simp only [opA, aBinOp]; rw [hl x (by simp), hl y (by simp)]
  case unOp op t x => simp only [opA, aUnOp]; rw [hl x (by simp)]
  case convert s d x => simp only [opA, aConvert]; rw [hl x (by simp)]
  case makeInterface t x => simp only [opA, aIface]; rw [hl x (by simp)]
  case makeFunc fn a c =>
    simp only [opA, aFunc, evs]
    rw [evsA_congr (l := a.toList) (e := ev G n env) (e' := ev G n env') fun x hx => hl x (by simp [show x ∈ a from by simpa using hx]), evsA_congr (l := c.toList) (e := ev G n env) (e' := ev G n env') fun x hx => hl x (by simp [show x ∈ c from by simpa using hx])]
  case makeSlice t l c => simp only [opA, aMakeSlice]; rw [hl l (by simp), hl c (by simp)]
  case slice t x lo hi mx =>
    cases mx with
    | some m => rfl
    | none =>
      have hx := hl x (by simp)
      cases lo with
      | none => cases hi with
        | none => simp only [opA, aSlice]; rw [hx]
        | some r => simp only [opA, aSlice]; rw [hx, hl r (by simp)]
      | some l => cases hi with
        | none => simp only [opA, aSlice]; rw [hx, hl l (by simp)]
        | some r => simp only [opA, aSlice]; rw [hx, hl l (by simp), hl r (by simp)]
  case fieldAddr s x f => simp only [opA, aFieldAddr]; rw [hl x (by simp)]
  case field t x f => simp only [opA, aField]; rw [hl x (by simp)]
  case indexAddr t x i => simp only [opA, aIndexAddr]; rw [hl x (by simp), hl i (by simp)]
  case index t x i => simp only [opA, aIndex]; rw [hl x (by simp), hl i (by simp)]
  case range t x => simp only [opA, aRange]; rw [hl x (by simp)]
  case next x b => simp only [opA, aNext]; rw [hl x (by simp)]
  case extract x i => simp only [opA, aExtract]; rw [hl x (by simp)]
  case typeAssert x xt ta ok => simp only [opA, aTypeAssert]; rw [hl x (by simp)]
  case makeMap t r =>
    cases r with
    | none => rfl
    | some x => simp only [opA, aMakeMap]; rw [hl x (by simp)]
  case lookup t x i ok => simp only [opA, aLookup]; rw [hl x (by simp), hl i (by simp)]
  case mapUpdate t m k y => simp only [opA, aMapUpdate]; rw [hl m (by simp), hl k (by simp), hl y (by simp)]
  case insert t m k y => simp only [opA, aMapUpdate]; rw [hl m (by simp), hl k (by simp), hl y (by simp)]
  case mapEntry t m k => simp only [opA, aMapEntry]; rw [hl m (by simp), hl k (by simp)]
  case entryStore t m k y => simp only [opA, aEntryStore]; rw [hl m (by simp), hl k (by simp), hl y (by simp)]
  case call c =>
    obtain ⟨callee, ar, ts⟩ := c
    simp only [Call.operands] at hl
    have h1 : evs G n env ar.toList = evs G n env' ar.toList := evsA_congr fun x hx => hl x (by simp [show x ∈ ar from by simpa using hx])
    cases callee with
    | invoke r m => rfl
    | builtin b => simp only [opA, aCall, aBuiltin]; rw [h1]
    | value f => simp only [opA, aCall, aCallee]; rw [h1, hl f (by simp)]

theorem opB_congr {ops : Array Oper} {o : Oper} (hl : ∀ t, t ∈ o.looksAt ops → t < n → env.get t = env'.get t) : opB P G ext orc n o env h = opB P G ext orc n o env' h := by
  unfold opB
  refine opA_congr fun x hx => ev_congr fun t ht hn => hl t ?_ hn
  subst ht
  simp only [Oper.looksAt, List.mem_append, List.mem_filterMap]
  exact .inl ⟨_, by simpa using hx, rfl⟩

theorem wantedB_congr {ops : Array Oper} {o : Oper} (hl : ∀ t, t ∈ o.looksAt ops → t < n → env.get t = env'.get t) : wantedB n ops o env = wantedB n ops o env' := by
  unfold wantedB
  cases hg : o.guard with
  | none => rfl
  | some g =>
    obtain ⟨j, want⟩ := g
    simp only
    cases hd : (ops[j]?).bind (·.dst) with
    | none => rfl
    | some d =>
      simp only
      cases hb : Nat.blt d n with
      | false => rfl
      | true =>
        simp only
        rw [hl d (by simp [Oper.looksAt, hg, hd]) (blt_iff.1 hb)]

end

/-! The lists that the quick way keeps, out of the careful way's. -/
def codeR (r : Rec) : Nat := match r.wr with | true => 1 | false => match r.fw with | true => r.lq + 2 | false => 0
def effs : List Rec → Nat → List (Nat × Nat)
  | [], _ => []
  | r :: rs, j => match r.e with | true => (j, codeR r) :: effs rs (j + 1) | false => effs rs (j + 1)
def nfs : List Rec → Nat → List (Nat × Nat)
  | [], _ => []
  | r :: rs, j => match r.free with | true => nfs rs (j + 1) | false => (j, r.k) :: nfs rs (j + 1)
def ksOk : List Rec → Nat → Prop
  | [], _ => True
  | r :: rs, q => match r.e with | true => r.k = q ∧ ksOk rs (q + 1) | false => ksOk rs q

theorem effs_snoc (r : Rec) : ∀ (rs : List Rec) (j : Nat), effs (rs ++ [r]) j = effs rs j ++ (match r.e with | true => [(j + rs.length, codeR r)] | false => [])
  | [], j => by simp only [List.nil_append, effs, List.length_nil, Nat.add_zero]
  | q :: rs, j => by
    simp only [List.cons_append, effs, effs_snoc r rs, List.length_cons, show j + 1 + rs.length = j + (rs.length + 1) from by omega]
    cases q.e <;> rfl
theorem nfs_snoc (r : Rec) : ∀ (rs : List Rec) (j : Nat), nfs (rs ++ [r]) j = nfs rs j ++ (match r.free with | true => [] | false => [(j + rs.length, r.k)])
  | [], j => by simp only [List.nil_append, nfs, List.length_nil, Nat.add_zero]
  | q :: rs, j => by
    simp only [List.cons_append, nfs, nfs_snoc r rs, List.length_cons, show j + 1 + rs.length = j + (rs.length + 1) from by omega]
    cases q.free <;> rfl
theorem ksOk_snoc (r : Rec) : ∀ (rs : List Rec) (j q : Nat), ksOk (rs ++ [r]) q ↔ ksOk rs q ∧ (r.e = true → r.k = q + (effs rs j).length)
  | [], j, q => by simp only [List.nil_append, ksOk, effs, List.length_nil, Nat.add_zero]; cases r.e <;> simp
  | p :: rs, j, q => by
    simp only [List.cons_append, ksOk, effs]
    cases p.e with
    | false => exact ksOk_snoc r rs (j + 1) q
    | true => simp only [ksOk_snoc r rs (j + 1) (q + 1), List.length_cons, and_assoc, show q + 1 + (effs rs (j + 1)).length = q + ((effs rs (j + 1)).length + 1) from by omega]

theorem countE_eq (m : Nat) : ∀ (rs : List Rec) (j : Nat), countE rs j m = cntF m (effs rs j)
  | [], _ => rfl
  | r :: rs, j => by
    simp only [countE, effs, countE_eq m rs]
    cases r.e <;> cases hb : Nat.testBit m j <;> simp [cntF, hb]
theorem wr_eq (m k : Nat) : ∀ (rs : List Rec) (j : Nat), (∀ r ∈ rs, (r.wr = true ∨ r.fw = true → r.e = true) ∧ (r.wr = true → r.fw = false)) →
    (allE (·.wr) m rs j && allE (fun r => r.fw && !Nat.ble k r.lq) m rs j) = wrF m k (effs rs j)
  | [], _, _ => rfl
  | r :: rs, j, hw => by
    have ih := wr_eq m k rs (j + 1) fun q hq => hw q (by simp [hq])
    obtain ⟨h1, h2⟩ := hw r (by simp)
    simp only [allE, effs]
    cases hwr : r.wr with
    | true =>
      have he := h1 (.inl hwr)
      have hf := h2 hwr
      rw [he, hf]
      simp only [wrF, codeR, hwr, ← ih]
      cases Nat.testBit m j <;> cases allE (·.wr) m rs (j + 1) <;> simp
    | false =>
      cases hfw : r.fw with
      | true =>
        have he := h1 (.inr hfw)
        rw [he]
        simp only [wrF, codeR, hwr, hfw, ← ih]
        cases Nat.testBit m j <;> cases Nat.ble k r.lq <;> cases allE (·.wr) m rs (j + 1) <;> simp
      | false =>
        cases he : r.e with
        | true =>
          simp only [wrF, codeR, hwr, hfw, ← ih]
          simp
        | false =>
          simp only [← ih]
          simp
theorem nf_eq (m : Nat) : ∀ (rs : List Rec) (j : Nat), allE (fun r => !r.free) m rs j = nfF m (nfs rs j)
  | [], _ => rfl
  | r :: rs, j => by
    simp only [allE, nfs, nf_eq m rs (j + 1)]
    cases r.free <;> simp [nfF]
theorem nq_eq (m q : Nat) : ∀ (rs : List Rec) (j : Nat), allE (fun r => !r.free && !Nat.ble r.k q) m rs j = nqF m q (nfs rs j)
  | [], _ => rfl
  | r :: rs, j => by
    simp only [allE, nfs, nq_eq m q rs (j + 1)]
    cases r.free with
    | true => simp
    | false => cases hb : Nat.ble r.k q <;> simp only [nqF, hb] <;> cases Nat.testBit m j <;> simp

theorem pairs_eq {ops : Array Oper} {o : Oper} {m k : Nat} : ∀ (rs : List Rec) (ps : List Oper) (j q : Nat), rs.length ≤ ps.length → pairA ops o m (ps.take rs.length) j = true → chainF m k (effs rs j) q = true → ksOk rs q → pairsOk ops o m k rs ps j = true
  | [], [], _, _, _, _, _, _ => rfl
  | [], _ :: _, _, _, _, _, _, _ => rfl
  | _ :: _, [], _, _, hl, _, _, _ => by simp at hl
  | r :: rs, p :: ps, j, q, hl, hp, hc, hk => by
    simp only [List.length_cons, List.take_succ_cons, pairA, Bool.and_eq_true] at hp
    simp only [pairsOk, Bool.and_eq_true]
    simp only [effs] at hc
    simp only [ksOk] at hk
    cases he : r.e with
    | false =>
      rw [he] at hc hk
      exact ⟨⟨hp.1, by simp⟩, pairs_eq rs ps (j + 1) q (by simpa using hl) hp.2 hc hk⟩
    | true =>
      rw [he] at hc hk
      simp only [chainF, Bool.and_eq_true] at hc
      refine ⟨⟨hp.1, ?_⟩, pairs_eq rs ps (j + 1) (q + 1) (by simpa using hl) hp.2 hc.2 hk.2⟩
      rw [hk.1]
      simpa using hc.1

section
variable {sq : Option Nat} {P : Program} {Z : AH} {G n : Nat} {ext : FuncId → Option Ext} {orc : Orc} {ops : Array Oper} {ms : List Nat} {env0 : T (Option Value)}

theorem envB_alike (hn : n ≤ 4096) {m t : Nat} (ht : t < n) : ∀ (rs : List Rec) (j : Nat) (env env' : T (Option Value)), env.fits 12 → env'.fits 12 → env.get t = env'.get t →
    (∀ (q : Nat) (r : Rec), rs[q]? = some r → Nat.testBit m (j + q) = true ∨ r.dst ≠ some t) → (∀ (r : Rec) (d : Nat), r ∈ rs → r.dst = some d → d < n) →
    (envB n m rs j env).fits 12 ∧ (envB n m rs j env).get t = (putAll n rs env').get t
  | [], _, _, _, hf, _, he, _, _ => ⟨hf, he⟩
  | r :: rs, j, env, env', hf, hf', he, hm, hd => by
    simp only [envB, putAll]
    have hm' : ∀ (q : Nat) (p : Rec), rs[q]? = some p → Nat.testBit m (j + 1 + q) = true ∨ p.dst ≠ some t := fun q p hp => by
      have := hm (q + 1) p (by simpa using hp)
      rwa [show j + (q + 1) = j + 1 + q from by omega] at this
    have hd' : ∀ (p : Rec) (d : Nat), p ∈ rs → p.dst = some d → d < n := fun p d hp => hd p d (by simp [hp])
    have ht' := lt12 hn ht
    cases hr : r.dst with
    | none =>
      cases Nat.testBit m j with
      | true => exact envB_alike hn ht rs (j + 1) _ _ hf hf' he hm' hd'
      | false => exact envB_alike hn ht rs (j + 1) _ _ hf hf' he hm' hd'
    | some d =>
      have hdn := hd r d (by simp) hr
      have hd2 := lt12 hn hdn
      have hb : Nat.blt d n = true := blt_iff.2 hdn
      cases hbit : Nat.testBit m j with
      | true =>
        simp only [hb]
        refine envB_alike hn ht rs (j + 1) _ _ (T.fits_set 12 _ _ _ hf) (T.fits_set 12 _ _ _ hf') ?_ hm' hd'
        rw [T.get_set 12 _ _ _ _ hf hd2 ht', T.get_set 12 _ _ _ _ hf' hd2 ht', he]
      | false =>
        simp only [hideB, hb]
        have hne : t ≠ d := by
          intro hh
          subst hh
          rcases hm 0 r (by simp) with h1 | h1
          · rw [Nat.add_zero, hbit] at h1; cases h1
          · exact h1 hr
        refine envB_alike hn ht rs (j + 1) _ _ (T.fits_set 12 _ _ _ hf) (T.fits_set 12 _ _ _ hf') ?_ hm' hd'
        rw [T.get_set 12 _ _ _ _ hf hd2 ht', T.get_set 12 _ _ _ _ hf' hd2 ht', if_neg hne, if_neg hne, he]

theorem hideLater_alike (hn : n ≤ 4096) {i t : Nat} (ht : t < n) : ∀ (os : List Oper) (j : Nat) (env : T (Option Value)), env.fits 12 →
    (∀ (q : Nat) (o : Oper), os[q]? = some o → Nat.testBit (ms.getD (j + q) 0) i = true ∨ o.dst ≠ some t) → (hideLater n i ms os j env).get t = env.get t
  | [], _, _, _, _ => rfl
  | o :: os, j, env, hf, hm => by
    simp only [hideLater]
    have hm' : ∀ (q : Nat) (p : Oper), os[q]? = some p → Nat.testBit (ms.getD (j + 1 + q) 0) i = true ∨ p.dst ≠ some t := fun q p hp => by
      have := hm (q + 1) p (by simpa using hp)
      rwa [show j + (q + 1) = j + 1 + q from by omega] at this
    cases hbit : Nat.testBit (ms.getD j 0) i with
    | true => exact hideLater_alike hn ht os (j + 1) env hf hm'
    | false =>
      simp only
      cases hd : o.dst with
      | none => exact hideLater_alike hn ht os (j + 1) env hf hm'
      | some d =>
        simp only [hideB]
        cases hb : Nat.blt d n with
        | false => exact hideLater_alike hn ht os (j + 1) env hf hm'
        | true =>
          have hne : t ≠ d := by
            intro hh
            subst hh
            rcases hm 0 o (by simp) with h1 | h1
            · rw [Nat.add_zero, hbit] at h1; cases h1
            · exact h1 hd
          rw [hideLater_alike hn ht os (j + 1) _ (T.fits_set 12 _ _ _ hf) hm', T.get_set 12 _ _ _ _ hf (lt12 hn (blt_iff.1 hb)) (lt12 hn ht), if_neg hne]

theorem pairA_at {o : Oper} {m : Nat} : ∀ (ps : List Oper) (j : Nat), pairA ops o m ps j = true → ∀ (q : Nat) (p : Oper), ps[q]? = some p → Nat.testBit m (j + q) = true ∨ Oper.apart ops p o = true
  | [], _, _, q, p, hp => by simp at hp
  | x :: ps, j, h, q, p, hp => by
    simp only [pairA, Bool.and_eq_true, Bool.or_eq_true] at h
    cases q with
    | zero => simp at hp; subst hp; simpa using h.1
    | succ q =>
      rw [show j + (q + 1) = j + 1 + q from by omega]
      exact pairA_at ps (j + 1) h.2 q p (by simpa using hp)

/-- What the one look gives: of two operations the later is bound to the earlier, or they lie apart. -/
theorem statB_at : ∀ (os done : List Oper) (mr : List Nat), statB n ops os done mr = true → ∀ (q : Nat) (o : Oper), os[q]? = some o →
    ∃ m, mr[q]? = some m ∧ dstOk n o = true ∧ pairA ops o m (done ++ os.take q) 0 = true
  | [], _, _, _, q, o, ho => by simp at ho
  | _ :: _, _, [], h, _, _, _ => by simp [statB] at h
  | x :: os, done, m :: mr, h, q, o, ho => by
    simp only [statB, Bool.and_eq_true] at h
    cases q with
    | zero => simp at ho; subst ho; exact ⟨m, by simp, h.1.1, by simpa using h.1.2⟩
    | succ q =>
      obtain ⟨m', h1, h2, h3⟩ := statB_at os (done ++ [x]) mr h.2 q o (by simpa using ho)
      exact ⟨m', by simpa using h1, h2, by simpa using h3⟩

/-- The quick way's and the careful way's places. -/
structure Like (sq : Option Nat) (n : Nat) (ops : Array Oper) (env0 : T (Option Value)) (rs : List Rec) (x : Way) : Prop where
  env : x.env = putAll n rs env0
  es : x.es = effs rs 0
  nf : x.nf = nfs rs 0
  ks : ksOk rs 0
  len : x.hs.length = x.es.length + 1
  wr : ∀ r ∈ rs, (r.wr = true ∨ r.fw = true → r.e = true) ∧ (r.wr = true → r.fw = false)
  dst : ∀ (i : Nat) (r : Rec), rs[i]? = some r → ∃ o, ops[i]? = some o ∧ r.dst = o.dst
  al : ∀ (i : Nat) (r : Rec), rs[i]? = some r → r.al = true → ∃ o, ops[i]? = some o ∧ (i, o, r.k, r.v, putAll n (rs.take i) env0) ∈ x.al

theorem putAll_snoc (r : Rec) : ∀ (rs : List Rec) (env : T (Option Value)), putAll n (rs ++ [r]) env = (match r.dst with | some d => T.set 12 (putAll n rs env) d (some r.v) | none => putAll n rs env)
  | [], _ => rfl
  | q :: rs, env => by simp only [List.cons_append, putAll]; rw [putAll_snoc r rs]

theorem nextS_none {sd : List (Nat × Blk)} {i : Nat} {r : Rec} (h : r.sd = none) : nextS sq sd i r = sd := by
  unfold nextS; rw [h]; cases sq <;> rfl

theorem sideB_congr {env env' : T (Option Value)} {ops : Array Oper} {o : Oper} (hl : ∀ t, t ∈ o.looksAt ops → t < n → env.get t = env'.get t) : sideB P G n o env = sideB P G n o env' := by
  have hx : ∀ x ∈ o.op.operands, ev G n env x = ev G n env' x := fun x hx => ev_congr fun t ht hn => hl t (by
    subst ht
    simp only [Oper.looksAt, List.mem_append, List.mem_filterMap]
    exact .inl ⟨_, by simpa using hx, rfl⟩) hn
  unfold sideB
  cases hop : o.op <;> simp only [hop, Op.operands] at hx <;> try rfl
  case box t x => simp only; rw [hx x (by simp)]
  case buildSlice t len ps => simp only; rw [partsOk_congr (fun x hxm => hx x.2 (by simpa using ⟨x.1, by simpa using hxm⟩))]

theorem Like.snoc {rs : List Rec} {x : Way} (l : Like sq n ops env0 rs x) {o : Oper} (ho : ops[rs.length]? = some o) (r : Rec) (hd : r.dst = o.dst) {es : List (Nat × Nat)} {nf : List (Nat × Nat)} {hs : List AH}
    (he : es = x.es ++ (match r.e with | true => [(rs.length, codeR r)] | false => [])) (hnf : nf = x.nf ++ (match r.free with | true => [] | false => [(rs.length, r.k)]))
    (hk : r.e = true → r.k = x.es.length) (hlen : hs.length = es.length + 1) (hw : (r.wr = true ∨ r.fw = true → r.e = true) ∧ (r.wr = true → r.fw = false))
    {sd : List (Nat × Blk)}
    {al : List (Nat × Oper × Nat × Value × T (Option Value))} (hal : ∀ p ∈ x.al, p ∈ al) (hal2 : r.al = true → (rs.length, o, r.k, r.v, x.env) ∈ al) :
    Like sq n ops env0 (rs ++ [r]) ⟨putF o.dst r.v x.env, es, nf, hs, sd, al⟩ := by
  refine ⟨?_, ?_, ?_, ?_, hlen, ?_, ?_, ?_⟩
  · rw [putAll_snoc, ← l.env, hd]; rfl
  · simp only; rw [he, l.es, effs_snoc, Nat.zero_add]
  · simp only; rw [hnf, l.nf, nfs_snoc, Nat.zero_add]
  · rw [ksOk_snoc r rs 0 0]
    exact ⟨l.ks, fun h => by rw [hk h, l.es, Nat.zero_add]⟩
  · intro q hq
    rcases List.mem_append.1 hq with h | h
    · exact l.wr q h
    · simp at h; subst h; exact hw
  · intro i q hq
    rcases getElem?_snoc hq with h | ⟨rfl, rfl⟩
    · exact l.dst i q h
    · exact ⟨o, ho, hd⟩
  · intro i q hq ha
    rcases getElem?_snoc hq with h | ⟨rfl, rfl⟩
    · obtain ⟨oi, h1, h2⟩ := l.al i q h ha
      have hi : i < rs.length := (List.getElem?_eq_some_iff.1 h).1
      refine ⟨oi, h1, hal _ ?_⟩
      rw [List.take_append_of_le_length (by omega)]
      exact h2
    · refine ⟨o, ho, ?_⟩
      rw [List.take_append_of_le_length (by omega), List.take_of_length_le (by omega), ← l.env]
      exact hal2 ha

/-- What an operation looks at stands alike on both ways. -/
theorem look_alike (hn : n ≤ 4096) (hf0 : env0.fits 12) (hst : statB n ops ops.toList [] ms = true) {rs : List Rec} {o : Oper} {os : List Oper} (hdst0 : ∀ (i : Nat) (r : Rec), rs[i]? = some r → ∃ o, ops[i]? = some o ∧ r.dst = o.dst) (hos : ops.toList.drop rs.length = o :: os)
    {m : Nat} (hm : ms[rs.length]? = some m) : ∀ t, t ∈ o.looksAt ops → t < n → (hideLater n rs.length ms os (rs.length + 1) (envB n m rs 0 env0)).get t = (putAll n rs env0).get t := by
  have hoL : ops.toList[rs.length]? = some o := by
    have := congrArg (·[0]?) hos
    simpa [List.getElem?_drop] using this
  have hsz : rs.length < ops.toList.length := (List.getElem?_eq_some_iff.1 hoL).1
  have ho : ops[rs.length]? = some o := by simpa using hoL
  obtain ⟨m', hm1, hdst, hpa⟩ := statB_at _ _ _ hst _ _ hoL
  rw [hm] at hm1; cases hm1
  rw [List.nil_append] at hpa
  have hgetm : ms.getD rs.length 0 = m := by simp [List.getD_eq_getElem?_getD, hm]
  -- the slots
  have hdl : ∀ (r : Rec) (d : Nat), r ∈ rs → r.dst = some d → d < n := by
    intro r d hr hd
    obtain ⟨i, hi⟩ := List.mem_iff_getElem?.1 hr
    obtain ⟨oi, hoi, hdi⟩ := hdst0 i r hi
    obtain ⟨mi, _, hdi', _⟩ := statB_at _ _ _ hst i oi (by simpa using hoi)
    unfold dstOk at hdi'
    rw [← hdi, hd] at hdi'
    exact blt_iff.1 hdi'
  have hlook : ∀ t, t ∈ o.looksAt ops → t < n → (hideLater n rs.length ms os (rs.length + 1) (envB n m rs 0 env0)).get t = (putAll n rs env0).get t := by
    intro t ht htn
    have h1 : (envB n m rs 0 env0).fits 12 ∧ (envB n m rs 0 env0).get t = (putAll n rs env0).get t := by
      refine envB_alike hn htn rs 0 env0 env0 hf0 hf0 rfl ?_ hdl
      intro q r hr
      obtain ⟨oq, hoq, hdq⟩ := hdst0 q r hr
      have hq : q < rs.length := (List.getElem?_eq_some_iff.1 hr).1
      rcases pairA_at _ _ hpa q oq (by rw [List.getElem?_take, if_pos hq]; simpa using hoq) with hb | hb
      · exact .inl hb
      · refine .inr fun hd => ?_
        exact (Oper.apart_spec hb).1 t (by rw [← hdq]; exact hd) ht
    rw [hideLater_alike hn htn os _ _ h1.1, h1.2]
    intro q oq hoq
    have hoq' : ops.toList[rs.length + 1 + q]? = some oq := by
      have : (ops.toList.drop rs.length)[q + 1]? = some oq := by rw [hos]; simpa using hoq
      rw [List.getElem?_drop] at this
      rwa [show rs.length + 1 + q = rs.length + (q + 1) from by omega]
    obtain ⟨mq, hmq, _, hpq⟩ := statB_at _ _ _ hst _ _ hoq'
    rw [List.nil_append] at hpq
    have hgq : ms.getD (rs.length + 1 + q) 0 = mq := by simp [List.getD_eq_getElem?_getD, hmq]
    rw [hgq]
    rcases pairA_at _ _ hpq rs.length o (by rw [List.getElem?_take, if_pos (by omega)]; exact hoL) with hb | hb
    · rw [Nat.zero_add] at hb; exact .inl hb
    · exact .inr fun hd => (Oper.apart_spec hb).2.2 t hd ht
  exact hlook

theorem stepF_ok (hn : n ≤ 4096) (hf0 : env0.fits 12) (hst : statB n ops ops.toList [] ms = true) {rs : List Rec} {o : Oper} {os : List Oper} {x y : Way} (l : Like sq n ops env0 rs x) (hos : ops.toList.drop rs.length = o :: os)
    {m : Nat} (hm : ms[rs.length]? = some m) (h : stepF P G ext sq orc n ops m rs.length (cntF m x.es) o x = some y) :
    ∃ r, stepD P G ext sq orc n ops ms env0 rs.length o os rs x.hs = some (r, y.hs) ∧ Like sq n ops env0 (rs ++ [r]) y ∧ y.sd = nextS sq x.sd rs.length r := by
  have hoL : ops.toList[rs.length]? = some o := by
    have := congrArg (·[0]?) hos
    simpa [List.getElem?_drop] using this
  have hsz : rs.length < ops.toList.length := (List.getElem?_eq_some_iff.1 hoL).1
  have ho : ops[rs.length]? = some o := by simpa using hoL
  obtain ⟨m', hm1, hdst, hpa⟩ := statB_at _ _ _ hst _ _ hoL
  rw [hm] at hm1; cases hm1
  rw [List.nil_append] at hpa
  have hgetm : ms.getD rs.length 0 = m := by simp [List.getD_eq_getElem?_getD, hm]
  have hlook : ∀ t, t ∈ o.looksAt ops → t < n → (hideLater n rs.length ms os (rs.length + 1) (envB n m rs 0 env0)).get t = x.env.get t := by
    rw [l.env]
    exact look_alike hn hf0 hst l.dst hos hm
  have hop : ∀ h : AH, opB P G ext orc n o (hideLater n rs.length ms os (rs.length + 1) (envB n m rs 0 env0)) h = opB P G ext orc n o x.env h := fun h => opB_congr hlook
  have hwn : wantedB n ops o (hideLater n rs.length ms os (rs.length + 1) (envB n m rs 0 env0)) = wantedB n ops o x.env := wantedB_congr hlook
  have hcnt : countE rs 0 m = cntF m x.es := by rw [countE_eq, l.es]
  unfold stepF at h
  split at h
  case h_2 => cases h
  rename_i hh hch hk
  have hpairs : pairsOk ops o m (cntF m x.es) rs ops.toList 0 = true := pairs_eq rs ops.toList 0 0 (by omega) hpa (by rw [← l.es]; exact hch) l.ks
  unfold stepD
  dsimp only
  rw [hgetm, hcnt, hdst, hpairs, hk]
  simp only [Bool.and_self]
  rw [hwn]
  cases hw : wantedB n ops o x.env with
  | none => rw [hw] at h; cases h
  | some b =>
    rw [hw] at h
    cases b with
    | false =>
      simp only [Option.some.injEq] at h
      subst h
      exact ⟨_, rfl, l.snoc ho ⟨o.dst, undef, cntF m x.es, false, false, true, false, 0, none, false⟩ rfl (by simp) (by simp) (by simp) l.len (by simp) (fun _ h => h) (fun h => by cases h), (nextS_none rfl).symm⟩
    | true =>
      simp only at h ⊢
      have hside : sideF P G n o (hideLater n rs.length ms os (rs.length + 1) (envB n m rs 0 env0)) sq = sideF P G n o x.env sq := by
        cases sq with
        | none => rfl
        | some s => simp only [sideF]; rw [sideB_congr hlook]
      rw [hside]
      cases hsf : sideF P G n o x.env sq with
      | some p =>
        rw [hsf] at h
        obtain ⟨b, kv, s⟩ := p
        simp only [Option.some.injEq] at h
        subst h
        exact ⟨_, rfl, l.snoc ho ⟨o.dst, kv (s + rs.length), cntF m x.es, false, false, true, false, 0, some b, false⟩ rfl (by simp) (by simp) (by simp) l.len (by simp) (fun _ h => h) (fun h => by cases h), by
          obtain ⟨h1, _⟩ := sideF_ok hsf
          rw [h1]; rfl⟩
      | none =>
      rw [hsf] at h
      simp only at h ⊢
      cases hlf : loadF sq o.op with
      | true =>
        rw [hlf] at h
        simp only at h ⊢
        rw [hop]
        cases hol : opB P G ext orc n o x.env hh.locked with
        | none => rw [hol] at h; cases h
        | some p =>
          rw [hol] at h
          obtain ⟨v, hv⟩ := p
          cases hv with
          | some h' => cases h
          | none =>
            simp only [Option.some.injEq] at h
            subst h
            exact ⟨_, rfl, l.snoc ho ⟨o.dst, v, cntF m x.es, false, false, true, false, 0, none, true⟩ rfl (by simp) (by simp) (by simp) l.len (by simp) (fun _ h => by simp [h]) (fun _ => by simp), (nextS_none rfl).symm⟩
      | false =>
      rw [hlf] at h
      simp only at h ⊢
      have hfree : freeF P G ext orc n o (hideLater n rs.length ms os (rs.length + 1) (envB n m rs 0 env0)) hh = freeF P G ext orc n o x.env hh := by
        unfold freeF
        cases freeOp o.op with
        | true => simp only; exact hop _
        | false => rfl
      rw [hfree]
      have hfq : freshQ G n o (hideLater n rs.length ms os (rs.length + 1) (envB n m rs 0 env0)) x.hs = freshQ G n o x.env x.hs := by
        unfold freshQ
        cases ho : o.op <;> simp only
        rename_i t y z
        have : ev G n (hideLater n rs.length ms os (rs.length + 1) (envB n m rs 0 env0)) y = ev G n x.env y := ev_congr fun t0 ht0 hlt => hlook t0 (by
          unfold Oper.looksAt
          simp [ho, Op.operands, ht0]) hlt
        rw [this]
      have rest : (match wrF m (cntF m x.es) x.es with | true => growF P G ext orc n m rs.length (cntF m x.es) o x hh | false => none) = some y →
          ∃ r, (match allE (·.wr) m rs 0 && allE (fun r => r.fw && !Nat.ble (cntF m x.es) r.lq) m rs 0 with
            | true => match opB P G ext orc n o (hideLater n rs.length ms os (rs.length + 1) (envB n m rs 0 env0)) hh.locked with
              | some (v, none) => some ((⟨o.dst, v, cntF m x.es, false, false, false, false, 0, none, false⟩ : Rec), x.hs)
              | some (v, some h') => match Nat.beq (cntF m x.es + 1) x.hs.length with
                | true => some (⟨o.dst, v, cntF m x.es, true, false, false, false, 0, none, false⟩, x.hs ++ [{ h' with lock := hh.lock }])
                | false => none
              | none => match freshQ G n o (hideLater n rs.length ms os (rs.length + 1) (envB n m rs 0 env0)) x.hs with
                | some q => match x.hs[q]?, Nat.beq (cntF m x.es + 1) x.hs.length && (Nat.ble q (cntF m x.es) && allE (fun r => !r.free && !Nat.ble r.k q) m rs 0) with
                  | some h0, true => match Nat.ble hh.lock h0.next, opB P G ext orc n o (hideLater n rs.length ms os (rs.length + 1) (envB n m rs 0 env0)) (hh.from h0.next) with
                    | true, some (v, some h') => some (⟨o.dst, v, cntF m x.es, true, false, false, true, q, none, false⟩, x.hs ++ [{ h' with lock := hh.lock }])
                    | _, _ => none
                  | _, _ => none
                | none => match Nat.beq (cntF m x.es + 1) x.hs.length && allE (fun r => !r.free) m rs 0 with
                  | true => match opB P G ext orc n o (hideLater n rs.length ms os (rs.length + 1) (envB n m rs 0 env0)) hh with
                    | some (v, ho) => some (⟨o.dst, v, cntF m x.es, true, true, false, false, 0, none, false⟩, x.hs ++ [ho.getD hh])
                    | none => none
                  | false => none
            | false => none) = some (r, y.hs) ∧ Like sq n ops env0 (rs ++ [r]) y ∧ y.sd = nextS sq x.sd rs.length r := by
        intro h
        rw [wr_eq m (cntF m x.es) rs 0 l.wr, ← l.es]
        cases hwr : wrF m (cntF m x.es) x.es with
        | false => rw [hwr] at h; cases h
        | true =>
          rw [hwr] at h
          simp only at h ⊢
          rw [hop, hop, hfq, nf_eq, ← l.nf]
          simp only [hop, nq_eq, ← l.nf]
          unfold growF at h
          cases hg : opB P G ext orc n o x.env hh.locked with
          | some p =>
            rw [hg] at h
            obtain ⟨v, hv⟩ := p
            cases hv with
            | none =>
              simp only [Option.some.injEq] at h
              subst h
              exact ⟨_, rfl, l.snoc ho ⟨o.dst, v, cntF m x.es, false, false, false, false, 0, none, false⟩ rfl (by simp) (by simp) (by simp) l.len (by simp) (fun _ h => h) (fun h => by cases h), (nextS_none rfl).symm⟩
            | some h' =>
              simp only at h ⊢
              cases hb : Nat.beq (cntF m x.es + 1) x.hs.length with
              | false => rw [hb] at h; cases h
              | true =>
                rw [hb] at h
                simp only [Option.some.injEq] at h
                subst h
                have hb' : cntF m x.es + 1 = x.hs.length := beq_iff.1 hb
                exact ⟨_, rfl, l.snoc ho ⟨o.dst, v, cntF m x.es, true, false, false, false, 0, none, false⟩ rfl rfl rfl (fun _ => by have := l.len; simp only; omega) (by simp [l.len]) (by simp) (fun _ h => h) (fun h => by cases h), (nextS_none rfl).symm⟩
          | none =>
            rw [hg] at h
            simp only at h ⊢
            unfold writeF at h
            cases hq : freshQ G n o x.env x.hs with
            | some q =>
              rw [hq] at h
              simp only at h ⊢
              cases hx0 : x.hs[q]? with
              | none => rw [hx0] at h; cases h
              | some h0 =>
                rw [hx0] at h
                (try simp only at h ⊢)
                cases hb : Nat.beq (cntF m x.es + 1) x.hs.length && (Nat.ble q (cntF m x.es) && nqF m q x.nf) with
                | false => rw [hb] at h; cases h
                | true =>
                  rw [hb] at h
                  simp only at h ⊢
                  split at h
                  case h_2 => cases h
                  rename_i v h' hlk hd
                  simp only [Option.some.injEq] at h
                  subst h
                  have hb' : cntF m x.es + 1 = x.hs.length := beq_iff.1 (Bool.and_eq_true _ _ ▸ hb).1
                  rw [hlk, hd]
                  exact ⟨_, rfl, l.snoc ho ⟨o.dst, v, cntF m x.es, true, false, false, true, q, none, false⟩ rfl rfl rfl (fun _ => by have := l.len; simp only; omega) (by simp [l.len]) (by simp) (fun _ h => h) (fun h => by cases h), (nextS_none rfl).symm⟩
            | none =>
              rw [hq] at h
              simp only at h ⊢
              cases hb : Nat.beq (cntF m x.es + 1) x.hs.length && nfF m x.nf with
              | false => rw [hb] at h; cases h
              | true =>
                rw [hb] at h
                simp only at h ⊢
                cases hd : opB P G ext orc n o x.env hh with
                | none => rw [hd] at h; cases h
                | some p =>
                  rw [hd] at h
                  obtain ⟨v, hv⟩ := p
                  simp only [Option.some.injEq] at h
                  subst h
                  have hb' : cntF m x.es + 1 = x.hs.length := beq_iff.1 (Bool.and_eq_true _ _ ▸ hb).1
                  exact ⟨_, rfl, l.snoc ho ⟨o.dst, v, cntF m x.es, true, true, false, false, 0, none, false⟩ rfl rfl rfl (fun _ => by have := l.len; simp only; omega) (by simp [l.len]) (by simp) (fun _ h => h) (fun h => by cases h), (nextS_none rfl).symm⟩
      cases hfr : freeF P G ext orc n o x.env hh with
      | none =>
        rw [hfr] at h
        exact rest h
      | some p =>
        rw [hfr] at h
        obtain ⟨v, hv⟩ := p
        cases hv with
        | none =>
          simp only [Option.some.injEq] at h
          subst h
          exact ⟨_, rfl, l.snoc ho ⟨o.dst, v, cntF m x.es, false, false, true, false, 0, none, false⟩ rfl (by simp) (by simp) (by simp) l.len (by simp) (fun _ h => h) (fun h => by cases h), (nextS_none rfl).symm⟩
        | some h' => exact rest h

theorem seenF_ok (hn : n ≤ 4096) (hf0 : env0.fits 12) (hst : statB n ops ops.toList [] ms = true) {rs : List Rec} {o : Oper} {os : List Oper} {x y : Way} (l : Like sq n ops env0 rs x) (hos : ops.toList.drop rs.length = o :: os)
    {m : Nat} (hm : ms[rs.length]? = some m) (h : seenF P G ext sq orc n ops m rs.length (cntF m x.es) o x = some y) :
    ∃ r, seenD P G ext sq orc n ops ms env0 rs.length o os rs x.hs x.sd = some (r, y.hs) ∧ Like sq n ops env0 (rs ++ [r]) y ∧ y.sd = x.sd := by
  have hoL : ops.toList[rs.length]? = some o := by
    have := congrArg (·[0]?) hos
    simpa [List.getElem?_drop] using this
  have hsz : rs.length < ops.toList.length := (List.getElem?_eq_some_iff.1 hoL).1
  have ho : ops[rs.length]? = some o := by simpa using hoL
  obtain ⟨m', hm1, hdst, hpa⟩ := statB_at _ _ _ hst _ _ hoL
  rw [hm] at hm1; cases hm1
  rw [List.nil_append] at hpa
  have hgetm : ms.getD rs.length 0 = m := by simp [List.getD_eq_getElem?_getD, hm]
  have hlook : ∀ t, t ∈ o.looksAt ops → t < n → (hideLater n rs.length ms os (rs.length + 1) (envB n m rs 0 env0)).get t = x.env.get t := by
    rw [l.env]
    exact look_alike hn hf0 hst l.dst hos hm
  have hop : ∀ h : AH, opB P G ext orc n o (hideLater n rs.length ms os (rs.length + 1) (envB n m rs 0 env0)) h = opB P G ext orc n o x.env h := fun h => opB_congr hlook
  have hwn : wantedB n ops o (hideLater n rs.length ms os (rs.length + 1) (envB n m rs 0 env0)) = wantedB n ops o x.env := wantedB_congr hlook
  have hcnt : countE rs 0 m = cntF m x.es := by rw [countE_eq, l.es]
  unfold seenF at h
  split at h
  case h_1 => cases h
  split at h
  case h_2 => cases h
  rename_i hh hch hk
  split at h
  case h_2 => cases h
  rename_i hw hwr hb
  split at h
  case h_2 => cases h
  rename_i v ho' hopv
  simp only [Option.some.injEq] at h
  subst h
  have hpairs : pairsOk ops o m (cntF m x.es) rs ops.toList 0 = true := pairs_eq rs ops.toList 0 0 (by omega) hpa (by rw [← l.es]; exact hch) l.ks
  have hb' : cntF m x.es + 1 = x.hs.length := beq_iff.1 hb
  refine ⟨⟨o.dst, v, cntF m x.es, true, false, false, false, 0, none, false⟩, ?_, l.snoc ho ⟨o.dst, v, cntF m x.es, true, false, false, false, 0, none, false⟩ rfl rfl rfl (fun _ => by have := l.len; simp only; omega) (by simp [l.len]) (by simp) (fun _ h => h) (fun h => by cases h), rfl⟩
  unfold seenD
  dsimp only
  rw [hgetm, hcnt, hdst, hpairs, hk]
  simp only [Bool.and_self]
  rw [hwn, wr_eq m (cntF m x.es) rs 0 l.wr, ← l.es, hw, hwr, hb]
  simp only [hop, hopv]

theorem enterF_ok (hn : n ≤ 4096) (hf0 : env0.fits 12) (hst : statB n ops ops.toList [] ms = true) {rs : List Rec} {o : Oper} {os : List Oper} {x y : Way} (l : Like sq n ops env0 rs x) (hos : ops.toList.drop rs.length = o :: os)
    {m : Nat} (hm : ms[rs.length]? = some m) (h : enterF P G ext sq orc n ops m rs.length (cntF m x.es) o x = some y) :
    ∃ r, enterD P G ext sq orc n ops ms env0 rs.length o os rs x.hs x.sd = some (r, y.hs) ∧ Like sq n ops env0 (rs ++ [r]) y ∧ y.sd = restS m sq x.sd := by
  have hoL : ops.toList[rs.length]? = some o := by
    have := congrArg (·[0]?) hos
    simpa [List.getElem?_drop] using this
  have hsz : rs.length < ops.toList.length := (List.getElem?_eq_some_iff.1 hoL).1
  have ho : ops[rs.length]? = some o := by simpa using hoL
  obtain ⟨m', hm1, hdst, hpa⟩ := statB_at _ _ _ hst _ _ hoL
  rw [hm] at hm1; cases hm1
  rw [List.nil_append] at hpa
  have hgetm : ms.getD rs.length 0 = m := by simp [List.getD_eq_getElem?_getD, hm]
  have hlook : ∀ t, t ∈ o.looksAt ops → t < n → (hideLater n rs.length ms os (rs.length + 1) (envB n m rs 0 env0)).get t = x.env.get t := by
    rw [l.env]
    exact look_alike hn hf0 hst l.dst hos hm
  have hop : ∀ h : AH, opB P G ext orc n o (hideLater n rs.length ms os (rs.length + 1) (envB n m rs 0 env0)) h = opB P G ext orc n o x.env h := fun h => opB_congr hlook
  have hwn : wantedB n ops o (hideLater n rs.length ms os (rs.length + 1) (envB n m rs 0 env0)) = wantedB n ops o x.env := wantedB_congr hlook
  have hcnt : countE rs 0 m = cntF m x.es := by rw [countE_eq, l.es]
  unfold enterF at h
  split at h
  case h_1 => cases h
  split at h
  case h_2 => cases h
  rename_i hh hch hk
  split at h
  case h_2 => cases h
  rename_i hw hwr hb
  split at h
  case h_2 => cases h
  rename_i v ho' hopv
  simp only [Option.some.injEq] at h
  subst h
  have hpairs : pairsOk ops o m (cntF m x.es) rs ops.toList 0 = true := pairs_eq rs ops.toList 0 0 (by omega) hpa (by rw [← l.es]; exact hch) l.ks
  have hb' : cntF m x.es + 1 = x.hs.length := beq_iff.1 (Bool.and_eq_true _ _ ▸ hb).1
  refine ⟨⟨o.dst, v, cntF m x.es, true, true, false, false, 1, none, false⟩, ?_, l.snoc ho ⟨o.dst, v, cntF m x.es, true, true, false, false, 1, none, false⟩ rfl rfl rfl (fun _ => by have := l.len; simp only; omega) (by simp [l.len]) (by simp) (fun _ h => h) (fun h => by cases h), rfl⟩
  unfold enterD
  dsimp only
  rw [hgetm, hcnt, hdst, hpairs, hk]
  simp only [Bool.and_self]
  rw [hwn, wr_eq m (cntF m x.es) rs 0 l.wr, ← l.es, hw, hwr]
  rw [nf_eq, ← l.nf, hb]
  simp only [hop, hopv]

theorem goF_ok (hn : n ≤ 4096) (hf0 : env0.fits 12) (hst : statB n ops ops.toList [] ms = true) : ∀ (os : List Oper) (mr : List Nat) (rs : List Rec) (x y : Way), Like sq n ops env0 rs x → ops.toList.drop rs.length = os → ms.drop rs.length = mr →
    goF P G ext sq orc n ops os mr rs.length x = some y → ∃ RS, DrawGo P G ext sq orc n ops ms env0 rs.length os rs x.hs x.sd RS y.hs y.sd ∧ Like sq n ops env0 RS y
  | [], _, rs, x, y, l, _, _, h => by
    simp only [goF, Option.some.injEq] at h
    subst h
    exact ⟨rs, ⟨rfl, rfl, rfl⟩, l⟩
  | o :: os, [], rs, x, y, l, _, _, h => by simp [goF] at h
  | o :: os, m :: mr, rs, x, y, l, hd, hm, h => by
    have hm1 : ms[rs.length]? = some m := by
      have := congrArg (·[0]?) hm
      simpa [List.getElem?_drop] using this
    have hgm : ms.getD rs.length 0 = m := by simp [List.getD_eq_getElem?_getD, hm1]
    have both : ∃ z r, ((stepD P G ext sq orc n ops ms env0 rs.length o os rs x.hs = some (r, z.hs) ∧ z.sd = nextS sq x.sd rs.length r) ∨ (seenD P G ext sq orc n ops ms env0 rs.length o os rs x.hs x.sd = some (r, z.hs) ∧ z.sd = x.sd) ∨
        (enterD P G ext sq orc n ops ms env0 rs.length o os rs x.hs x.sd = some (r, z.hs) ∧ z.sd = restS (ms.getD rs.length 0) sq x.sd)) ∧ Like sq n ops env0 (rs ++ [r]) z ∧ goF P G ext sq orc n ops os mr (rs.length + 1) z = some y := by
      simp only [goF] at h
      split at h
      · rename_i z hz
        obtain ⟨r, h1, h2, h3⟩ := stepF_ok hn hf0 hst l hd hm1 hz
        exact ⟨z, r, .inl ⟨h1, h3⟩, h2, h⟩
      · split at h
        · rename_i z hz
          obtain ⟨r, h1, h2, h3⟩ := seenF_ok hn hf0 hst l hd hm1 hz
          exact ⟨z, r, .inr (.inl ⟨h1, h3⟩), h2, h⟩
        · split at h
          case h_2 => cases h
          rename_i z hz
          obtain ⟨r, h1, h2, h3⟩ := enterF_ok hn hf0 hst l hd hm1 hz
          exact ⟨z, r, .inr (.inr ⟨h1, by rw [hgm]; exact h3⟩), h2, h⟩
    obtain ⟨z, r, h1, h2, h⟩ := both
    have e1 : ops.toList.drop (rs ++ [r]).length = os := by
      have := congrArg (List.drop 1) hd
      simpa [List.drop_drop, Nat.add_comm] using this
    have e2 : ms.drop (rs ++ [r]).length = mr := by
      have := congrArg (List.drop 1) hm
      simpa [List.drop_drop, Nat.add_comm] using this
    obtain ⟨RS, h3, h4⟩ := goF_ok hn hf0 hst os mr (rs ++ [r]) z y h2 e1 e2 (by simpa using h)
    refine ⟨RS, ⟨r, z.hs, z.sd, h1, ?_⟩, h4⟩
    simpa using h3

theorem limF_eq {i top : Nat} : ∀ (rs : List Rec) (j q : Nat), ksOk rs q → limF ms i top (effs rs j) q = limR ms i top rs j
  | [], _, _, _ => rfl
  | r :: rs, j, q, h => by
    simp only [ksOk] at h
    simp only [effs, limR]
    cases he : r.e with
    | false =>
      rw [he] at h
      simp only at h ⊢
      exact limF_eq rs (j + 1) q h
    | true =>
      rw [he] at h
      simp only [limF]
      cases hb : Nat.testBit (ms.getD j 0) i with
      | true => exact h.1.symm
      | false => exact limF_eq rs (j + 1) (q + 1) h.2

theorem alikeAt_congr {o : Oper} {env env' : T (Option Value)} {nx lim : Nat} {v : Value} (he : ∀ h : AH, opB P G ext orc n o env h = opB P G ext orc n o env' h) : ∀ (hs : List AH) (q : Nat), alikeAt P G ext orc n o env nx v lim hs q = alikeAt P G ext orc n o env' nx v lim hs q
  | [], _ => rfl
  | H :: hs, q => by simp only [alikeAt]; rw [he, alikeAt_congr he hs]

theorem alF_at {es : List (Nat × Nat)} {hs : List AH} : ∀ {l : List (Nat × Oper × Nat × Value × T (Option Value))}, alF P G ext orc n ms es hs l = true → ∀ (i : Nat) (o : Oper) (k : Nat) (v : Value) (env : T (Option Value)), (i, o, k, v, env) ∈ l →
    alikeAt P G ext orc n o env (nextAt hs k) v (limF ms i hs.length es 0) (hs.drop k) k = true
  | [], _, _, _, _, _, _, hm => by simp at hm
  | (i0, o0, k0, v0, env0) :: l, h, i, o, k, v, env, hm => by
    simp only [alF, Bool.and_eq_true] at h
    rcases List.mem_cons.1 hm with he | hm
    · cases he; exact h.1
    · exact alF_at h.2 i o k v env hm

theorem alD_mk {RS : List Rec} {HS : List AH} : ∀ (os : List Oper) (rs : List Rec) (i0 : Nat), (∀ (q : Nat) (o : Oper) (r : Rec), os[q]? = some o → rs[q]? = some r → r.al = true →
    alikeAt P G ext orc n o (hideLater n (i0 + q) ms (os.drop (q + 1)) (i0 + q + 1) (envB n (ms.getD (i0 + q) 0) (RS.take (i0 + q)) 0 env0)) (nextAt HS r.k) r.v (limR ms (i0 + q) HS.length RS 0) (HS.drop r.k) r.k = true) → alD P G ext orc n ms env0 RS HS i0 os rs = true
  | [], _, _, _ => by simp [alD]
  | _ :: _, [], _, _ => by simp [alD]
  | o0 :: os, r0 :: rs, i0, h => by
    simp only [alD, Bool.and_eq_true]
    refine ⟨?_, alD_mk os rs (i0 + 1) fun q o r ho hr ha => ?_⟩
    · cases ha : r0.al with
      | false => rfl
      | true => exact h 0 o0 r0 rfl rfl ha
    · have := h (q + 1) o r (by simpa using ho) (by simpa using hr) ha
      rw [show i0 + (q + 1) = i0 + 1 + q from by omega] at this
      simpa using this

theorem drawS_eq (hn : n ≤ 4096) (hf0 : env0.fits 12) {h : AH} {env' : T (Option Value)} {h' : AH} (hb : drawS P G ext sq orc n ops env0 h = some (env', h')) : DrawB P G ext sq orc n ops env0 h (env', h') := by
  unfold drawS at hb
  split at hb
  case h_2 => cases hb
  rename_i ms h1 hms hsk
  split at hb
  case h_2 => cases hb
  rename_i hst
  split at hb
  case h_2 => cases hb
  rename_i y hgo
  split at hb
  case h_2 => cases hb
  rename_i hl hlast halF
  simp only [Option.some.injEq, Prod.mk.injEq] at hb
  obtain ⟨rfl, rfl⟩ := hb
  obtain ⟨RS, h3, h2⟩ := goF_ok (P := P) (G := G) (ext := ext) (orc := orc) (ms := ms) hn hf0 hst ops.toList ms [] ⟨env0, [], [], [h1], [], []⟩ y ⟨rfl, rfl, rfl, trivial, rfl, by simp, by simp, by simp⟩ rfl rfl hgo
  simp only [List.length_nil] at h3
  have hal : alD P G ext orc n ms env0 RS y.hs 0 ops.toList RS = true := by
    refine alD_mk _ _ _ fun q o r ho hr ha => ?_
    obtain ⟨o', ho', hm'⟩ := h2.al q r hr ha
    have : o' = o := by
      have ho2 : ops[q]? = some o := by simpa using ho
      rw [ho2] at ho'; cases ho'; rfl
    subst this
    have h5 := alF_at halF _ _ _ _ _ hm'
    rw [h2.es, limF_eq RS 0 0 h2.ks] at h5
    rw [Nat.zero_add]
    have hq : q < RS.length := (List.getElem?_eq_some_iff.1 hr).1
    have hlen : (RS.take q).length = q := by simp; omega
    obtain ⟨mq, hmq, _, _⟩ := statB_at _ _ _ hst _ _ ho
    have hdrop : ops.toList.drop (RS.take q).length = o' :: ops.toList.drop (q + 1) := by
      rw [hlen]
      exact (List.drop_eq_getElem_cons (List.getElem?_eq_some_iff.1 ho).1).trans (by rw [(List.getElem?_eq_some_iff.1 ho).2])
    have hlk := look_alike hn hf0 hst (rs := RS.take q) (fun i r hr => h2.dst i r (by
      rw [List.getElem?_take] at hr
      split at hr
      · exact hr
      · cases hr)) hdrop (by rw [hlen]; exact hmq)
    rw [hlen] at hlk
    have hgq : ms.getD q 0 = mq := by simp [List.getD_eq_getElem?_getD, hmq]
    rw [hgq, alikeAt_congr (fun h => opB_congr hlk)]
    exact h5
  refine ⟨ms, h1, RS, y.hs, y.sd, hl, hms, hsk, h3, hlast, hal, ?_⟩
  rw [← h2.env]

theorem drawF_ok (ro : Option Nat) (horc : OrcOK P Z G orc) (hext : ExtOK P ext) (hname : NoNum P) (hmix : P.follows .mixedOrders = true) {ops : Array Oper} {id : Nat} {Q : Exit → Act → World → Prop} {env : T (Option Value)} {h : AH} {env' : T (Option Value)} {h' : AH}
    (hb : drawF P G ext orc n ops env h = some (env', h')) {μ : Mu} {a : Act} {w : World} (hr : HR Z G μ h w) (he : EnvOK μ n env a)
    (hq : ∀ μ' a' w', HR Z G μ' h' w' → EnvOK μ' n env' a' → FR h μ w h' μ' w' → a'.defers = a.defers → Q .normal a' w') : (Code.region id ops true).wpIn (Fr ro) 0 P Q a w :=
  by
    unfold drawF at hb
    cases hd : drawS P G ext none orc n ops env h with
    | some r =>
      rw [hd] at hb
      cases hb
      exact drawB_ok ro horc hext hname hmix (drawS_eq he.le he.fits hd) hr he hq
    | none =>
      rw [hd] at hb
      simp only at hb
      cases hd2 : drawS P G ext (some 16777216) orc n ops env h with
      | some r =>
        rw [hd2] at hb
        cases hb
        exact drawB_ok ro horc hext hname hmix (drawS_eq he.le he.fits hd2) hr he hq
      | none =>
        rw [hd2] at hb
        exact drawB_ok ro horc hext hname hmix (drawS_eq he.le he.fits hb) hr he hq

end
end Go.Proofs.YtibffohcmegooaaGreatDoor.V
