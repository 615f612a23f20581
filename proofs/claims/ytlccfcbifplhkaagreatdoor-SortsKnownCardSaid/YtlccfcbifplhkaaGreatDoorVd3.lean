/- A statement whose order is open comes to one end, in whatever order Go carries it out. Conditions: none. -/
import Derived.Test.YtlccfcbifplhkaaGreatDoorVd2
import Derived.Test.YtlccfcbifplhkaaGreatDoorVm
namespace Go.Proofs.YtlccfcbifplhkaaGreatDoor.V
open Go

section
variable {P : Program} {ops : Array Oper} {Q : Exit → Act → World → Prop}

/-- How many are not yet listed. -/
def left (l : Array Bool) : Nat := l.toList.countP (fun b => !b)

theorem left_set {l : Array Bool} {i : Nat} (hi : i < l.size) (h : l.getD i true = false) : left (l.setIfInBounds i true) + 1 = left l := by
  unfold left
  have h1 : l.toList[i]'(by simpa using hi) = false := by
    simpa [Array.getD_eq_getD_getElem?, hi] using h
  rw [Array.toList_setIfInBounds]
  have hs : i < l.toList.length := by simpa using hi
  rw [List.countP_set hs]
  simp only [h1, Bool.not_false, if_true, Bool.not_true, Bool.false_eq_true, if_false]
  have : 0 < l.toList.countP (fun b => !b) := List.countP_pos_iff.2 ⟨false, h1 ▸ List.getElem_mem hs, rfl⟩
  omega

theorem ready_iff {l : Array Bool} {i : Nat} : i ∈ Region.ready .any ops l ↔ i < ops.size ∧ l.getD i true = false ∧ ∃ o, ops[i]? = some o ∧ ∀ e ∈ o.after.toList, Region.binds .any e = true → l.getD e.on false = true := by
  unfold Region.ready
  simp only [List.mem_filter, List.mem_range, Bool.and_eq_true, Bool.not_eq_true']
  constructor
  · rintro ⟨h1, h2, h3⟩
    obtain ⟨o, ho⟩ := some_of_lt h1
    refine ⟨h1, h2, o, ho, ?_⟩
    rw [ho] at h3
    simp only [Option.map_some, Option.getD_some] at h3
    rw [Array.all_eq_true_iff_forall_mem] at h3
    intro e he hb
    have := h3 e (by simpa using he)
    rw [hb] at this
    simpa using this
  · rintro ⟨h1, h2, o, ho, h3⟩
    refine ⟨h1, h2, ?_⟩
    rw [ho]
    simp only [Option.map_some, Option.getD_some]
    rw [Array.all_eq_true_iff_forall_mem]
    intro e he
    cases hb : Region.binds .any e with
    | false => rfl
    | true => simpa using h3 e (by simpa using he) hb

theorem wpAny_inv {ms : List Nat} (x : Ord ops ms) {Inv : Array Bool → Act → World → Prop}
    (hstep : ∀ l a w, l.size = ops.size → Inv l a w → ∀ i ∈ Region.ready .any ops l, wpOp P ops Q i (Inv (l.setIfInBounds i true)) a w)
    (hend : ∀ l a w, l.size = ops.size → Inv l a w → (∀ i, i < ops.size → l.getD i false = true) → Q .normal a w) :
    ∀ (fuel : Nat) (l : Array Bool) (a : Act) (w : World), l.size = ops.size → left l ≤ fuel → Inv l a w → wpAny P .any ops Q fuel l a w := by
  have all : ∀ l : Array Bool, l.size = ops.size → Region.ready .any ops l = [] → ∀ i, i < ops.size → l.getD i false = true := by
    intro l hl hr i
    induction i using Nat.strongRecOn with
    | ind i ih =>
      intro hi
      have hlt : i < l.size := by omega
      cases hb : l.getD i false with
      | true => rfl
      | false =>
        exfalso
        obtain ⟨o, ho⟩ := some_of_lt hi
        have : i ∈ Region.ready .any ops l := by
          rw [ready_iff]
          refine ⟨hi, ?_, o, ho, fun e he hbd => ih e.on (x.edge i o e ho he hbd).1 (by have := (x.edge i o e ho he hbd).1; omega)⟩
          simpa [Array.getD_eq_getD_getElem?, hlt] using hb
        rw [hr] at this
        cases this
  intro fuel
  induction fuel with
  | zero =>
    intro l a w hl hf hi
    have hnil : Region.ready .any ops l = [] := by
      cases hr : Region.ready .any ops l with
      | nil => rfl
      | cons i is =>
        exfalso
        have hm : i ∈ Region.ready .any ops l := by rw [hr]; exact List.mem_cons_self
        rw [ready_iff] at hm
        have := left_set (l := l) (i := i) (by omega) hm.2.1
        omega
    exact ⟨hnil, hend l a w hl hi (all l hl hnil)⟩
  | succ fuel ih =>
    intro l a w hl hf hi
    refine ⟨fun hnil => hend l a w hl hi (all l hl hnil), ?_⟩
    intro i hm
    have hm' := ready_iff.1 hm
    refine wpOp_mono (fun a' w' hi' => ih _ a' w' (by simpa using hl) ?_ hi') (hstep l a w hl hi i hm)
    have := left_set (l := l) (i := i) (by omega) hm'.2.1
    omega

end

section
variable {P : Program} {Z : AH} {G n : Nat} {ext : FuncId → Option Ext} {orc : Orc} {ops : Array Oper} {ms : List Nat} {env0 : T (Option Value)} {RS : List Rec} {HS : List AH} {h0 : AH}

/-- Old blocks, the streams: as they were. -/
structure Same (w w' : World) : Prop where
  os : w'.os = w.os
  tape : w'.tape = w.tape
  output : w'.output = w.output
  size : w.heap.size ≤ w'.heap.size
  blk : ∀ b, b < w.heap.size → w'.heap[b]? = w.heap[b]?

theorem HR.same {μ : Mu} {h : AH} {w w' : World} (x : HR Z G μ h w) (s : Same w w') : HR Z G μ h w' := x.congr fun i l hi hl => by
  cases hg : h.get i with
  | none => exact absurd hg hi
  | some b =>
    obtain ⟨l', hl', hbr⟩ := x.blk i b hg
    rw [hl] at hl'; cases hl'
    exact s.blk _ hbr.lt

theorem FR.same (h : AH) (μ : Mu) {w w' : World} (s : Same w w') : FR h μ w h μ w' :=
  ⟨Mu.le_refl _, s.os, s.tape, s.output, s.size, rfl, rfl, Nat.le_refl _, fun _ _ => rfl, fun _ _ h => h, fun _ h _ => h, fun b hb _ => s.blk b hb⟩

theorem FR.toSame {h h' : AH} {μ ν : Mu} {w w' : World} (f : FR h.locked μ w h' ν w') : Same w w' := ⟨f.os, f.tape, f.output, f.size, FR.locked_blk f⟩

/-- What is known of numbers without looking at memory. -/
structure H0 (G : Nat) (μ : Mu) (h : AH) : Prop where
  nxt : h.next ≤ 65536
  imp : h.imp ≤ h.next
  fresh : ∀ i, h.next ≤ i → i < 65536 → μ i = none
  glob : ∀ g, g < G → ∃ l, μ g = some l ∧ l.b = g ∧ l.o = 0

theorem HR.toH0 {μ : Mu} {h : AH} {w : World} (x : HR Z G μ h w) : H0 G μ h := ⟨x.nxt, x.imp, x.fresh, x.glob⟩

theorem AH.get_bare (h : AH) (i : Nat) : h.bare.get i = none := by
  unfold AH.get AH.bare
  split
  · split <;> rfl
  · rfl

theorem H0.bare {μ : Mu} {h : AH} (x : H0 G μ h) (w : World) : HR Z G μ h.bare w :=
  ⟨T.fits_leaf _ _, x.nxt, x.imp, x.fresh, x.glob, fun i b hi => (by rw [AH.get_bare] at hi; cases hi), fun i j _ _ _ _ hi => absurd (AH.get_bare h i) hi, fun hf => by cases hf⟩

def sBool (l : Array Bool) (i : Nat) : Bool := l.getD i false

def step1 (r : Rec) : Nat := r.k + (match r.e with | true => 1 | false => 0)

/-- What holds when the operations of l have been carried out. -/
structure Inv (Z : AH) (G n : Nat) (ops : Array Oper) (env0 : T (Option Value)) (RS : List Rec) (HS : List AH) (h0 : AH) (μ0 : Mu) (w0 : World) (ds : List Deferred) (l : Array Bool) (a : Act) (w : World) (j : Nat) (μs : Nat → Mu) : Prop where
  closed : ∀ (i : Nat) (o : Oper) (e : Edge), sBool l i = true → ops[i]? = some o → e ∈ o.after.toList → Region.binds .any e = true → sBool l e.on = true
  defers : a.defers = ds
  size : a.tmps.size = n
  top : j < HS.length
  cnt : ∀ (i : Nat) (r : Rec), RS[i]? = some r → r.e = true → (sBool l i = true ↔ r.k < j)
  zero : μs 0 = μ0
  mono : ∀ q q', q ≤ q' → q' ≤ j → (μs q).le (μs q')
  h0s : ∀ q H, q ≤ j → HS[q]? = some H → H0 G (μs q) H
  tmps : ∀ t, t < n → (∃ (i : Nat) (r : Rec), sBool l i = true ∧ RS[i]? = some r ∧ r.dst = some t ∧ (∀ (i' : Nat) (r' : Rec), i < i' → sBool l i' = true → RS[i']? = some r' → r'.dst ≠ some t) ∧ VR (μs (step1 r)) r.v (a.tmps.getD t undef)) ∨
    ((∀ (i : Nat) (r : Rec), sBool l i = true → RS[i]? = some r → r.dst ≠ some t) ∧ ∀ v, env0.get t = some v → VR (μs 0) v (a.tmps.getD t undef))
  mem : ∀ q H, q ≤ j → HS[q]? = some H → (∀ (i : Nat) (r : Rec), sBool l i = true → RS[i]? = some r → r.wr = true → r.k < q) → HR Z G (μs q) H w
  fr : ∀ H, HS[j]? = some H → FR h0 μ0 w0 H (μs j) w

variable {μ0 : Mu} {w0 : World} {ds : List Deferred} {l : Array Bool} {a : Act} {w : World} {j : Nat} {μs : Nat → Mu}

theorem k_le (v : Inv Z G n ops env0 RS HS h0 μ0 w0 ds l a w j μs) {i : Nat} {r : Rec} {o : Oper} (f : Fact P G n ext orc ops ms env0 RS HS i o r)
    (hup : ∀ q, Bef ms i q → sBool l q = true) : r.k ≤ j := by
  rcases Nat.eq_zero_or_pos r.k with h | h
  · omega
  · obtain ⟨i0, q, h1, h2, h3, h4⟩ := f.more (r.k - 1) (by omega)
    have hb : Bef ms i i0 := (f.chain i0 q h1 h2 h3).2 (by omega)
    have := (v.cnt i0 q h2 h3).1 (hup i0 hb)
    omega

theorem step_le (x : Ord ops ms) (S : Sound P G n ext orc ops ms env0 h0 ops.size RS HS) (v : Inv Z G n ops env0 RS HS h0 μ0 w0 ds l a w j μs) {i : Nat} {r : Rec} (hs : sBool l i = true) (hr : RS[i]? = some r) : step1 r ≤ j := by
  obtain ⟨o, ho, f⟩ := S.fact i r hr
  have hi : i < ops.size := (Array.getElem?_eq_some_iff.1 ho).1
  have hk := k_le v f (fun q hq => x.closed v.closed i q hi hs hq)
  unfold step1
  cases he : r.e with
  | false => simpa using hk
  | true => have := (v.cnt i r hr he).1 hs; simp; omega

/-- Of two ordered operations the earlier one's memory is there. -/
theorem step_le_k (x : Ord ops ms) (S : Sound P G n ext orc ops ms env0 h0 ops.size RS HS) {i i1 : Nat} {r q : Rec} {o : Oper} (hi : i < ops.size) (f : Fact P G n ext orc ops ms env0 RS HS i o r) (hq : RS[i1]? = some q) (hb : Bef ms i i1) : step1 q ≤ r.k := by
  have hlt := x.lt i i1 hi hb
  unfold step1
  cases he : q.e with
  | true => have := (f.chain i1 q hlt hq he).1 hb; simp; omega
  | false =>
    simp only [Nat.add_zero]
    rcases Nat.eq_zero_or_pos q.k with h | h
    · omega
    · obtain ⟨o1, ho1, f1⟩ := S.fact i1 q hq
      obtain ⟨i2, p, h1, h2, h3, h4⟩ := f1.more (q.k - 1) (by omega)
      have hb2 : Bef ms i1 i2 := (f1.chain i2 p h1 h2 h3).2 (by omega)
      have := (f.chain i2 p (by omega) h2 h3).1 (x.trans i i1 i2 hi hb hb2)
      omega

theorem env_of (x : Ord ops ms) (S : Sound P G n ext orc ops ms env0 h0 ops.size RS HS) (v : Inv Z G n ops env0 RS HS h0 μ0 w0 ds l a w j μs) (hn : n ≤ 4096) (hf0 : env0.fits 12) {i : Nat} {r : Rec} {o : Oper} (hi : i < ops.size)
    (f : Fact P G n ext orc ops ms env0 RS HS i o r) (hno : sBool l i = false) (hup : ∀ q, Bef ms i q → sBool l q = true) : EnvOK (μs r.k) n (envAt n ops ms env0 RS i) a := by
  have hkj := k_le v f hup
  obtain ⟨e1, e2⟩ := envB_get hn (m := ms.getD i 0) (RS.take i) 0 env0 hf0
  obtain ⟨g1, g2⟩ := hideLater_get hn (i := i) (ms := ms) (ops.toList.drop (i + 1)) (i + 1) (envB n (ms.getD i 0) (RS.take i) 0 env0) e1
  refine ⟨v.size, hn, g1, ?_⟩
  intro t u ht hg
  obtain ⟨p1, p2⟩ := g2 t u ht hg
  -- a later writer of t stands behind i
  have hlate : ∀ (i' : Nat) (r' : Rec), i < i' → RS[i']? = some r' → r'.dst = some t → sBool l i' = true → False := by
    intro i' r' hlt hr' hd hs
    obtain ⟨o', ho', f'⟩ := S.fact i' r' hr'
    have hb : Bef ms (i + 1 + (i' - (i + 1))) i := p2 (i' - (i + 1)) o' (by
      rw [List.getElem?_drop, show i + 1 + (i' - (i + 1)) = i' from by omega]
      simpa using ho') (by rw [← f'.dst]; exact hd)
    rw [show i + 1 + (i' - (i + 1)) = i' from by omega] at hb
    have := x.closed v.closed i' i (Array.getElem?_eq_some_iff.1 ho').1 hs hb
    rw [hno] at this
    cases this
  rcases e2 t u ht p1 with ⟨i1, q, hlast, hbit, rfl⟩ | ⟨hnone, hu⟩
  · have hi1 : i1 < i ∧ RS[i1]? = some q := by
      have := hlast.1
      rw [List.getElem?_take] at this
      split at this
      · exact ⟨by assumption, this⟩
      · cases this
    have hb : Bef ms i i1 := by simpa [Bef] using hbit
    have hs1 := hup i1 hb
    have hle := step_le_k x S hi f hi1.2 hb
    rcases v.tmps t ht with ⟨i2, r2, t1, t2, t3, t4, t5⟩ | ⟨t1, _⟩
    · have : i2 = i1 := by
        rcases Nat.lt_trichotomy i2 i1 with h | h | h
        · exact absurd hlast.2.1 (t4 i1 q h hs1 hi1.2)
        · exact h
        · exfalso
          rcases Nat.lt_trichotomy i2 i with h' | h' | h'
          · exact hlast.2.2 i2 r2 h (by rw [List.getElem?_take, if_pos h']; exact t2) t3
          · rw [h', hno] at t1; cases t1
          · exact hlate i2 r2 h' t2 t3 t1
      subst this
      rw [hi1.2] at t2
      cases t2
      exact t5.mono (v.mono _ _ hle hkj)
    · exact absurd hlast.2.1 (t1 i1 q hs1 hi1.2)
  · rcases v.tmps t ht with ⟨i2, r2, t1, t2, t3, t4, t5⟩ | ⟨_, t2⟩
    · exfalso
      rcases Nat.lt_trichotomy i2 i with h' | h' | h'
      · exact hnone i2 r2 (by rw [List.getElem?_take, if_pos h']; exact t2) t3
      · rw [h', hno] at t1; cases t1
      · exact hlate i2 r2 h' t2 t3 t1
    · exact (t2 u hu).mono (v.mono _ _ (Nat.zero_le _) hkj)

theorem sBool_set {i i' : Nat} (hi : i < l.size) : sBool (l.setIfInBounds i true) i' = (if i' = i then true else sBool l i') := by
  unfold sBool
  by_cases h : i' = i
  · subst h; simp [Array.getD_eq_getD_getElem?, hi]
  · simp [Array.getD_eq_getD_getElem?, Array.getElem?_setIfInBounds_ne (fun e => h e.symm), h]

theorem getD_put {dst : Option Tmp} {u : Value} {t : Nat} (ht : t < a.tmps.size) : (a.put dst u).tmps.getD t undef = if dst = some t then u else a.tmps.getD t undef := by
  cases dst with
  | none => simp [Act.put]
  | some d =>
    by_cases h : d = t
    · subst h; simp [Act.put, Array.getD_eq_getD_getElem?, ht]
    · simp [Act.put, Array.getD_eq_getD_getElem?, Array.getElem?_setIfInBounds_ne h, h]

/-- The slots behind an operation. -/
theorem tmps_put (x : Ord ops ms) (S : Sound P G n ext orc ops ms env0 h0 ops.size RS HS) (v : Inv Z G n ops env0 RS HS h0 μ0 w0 ds l a w j μs) {i : Nat} {r : Rec} {o : Oper} (hl : i < l.size) (ho : ops[i]? = some o) (hr : RS[i]? = some r)
    (hno : sBool l i = false) (hdst : r.dst = o.dst) {μs' : Nat → Mu} (hμ : ∀ q, q ≤ j → μs' q = μs q) {u : Value} (hu : VR (μs' (step1 r)) r.v u) :
    ∀ t, t < n → (∃ (i1 : Nat) (r1 : Rec), sBool (l.setIfInBounds i true) i1 = true ∧ RS[i1]? = some r1 ∧ r1.dst = some t ∧ (∀ (i' : Nat) (r' : Rec), i1 < i' → sBool (l.setIfInBounds i true) i' = true → RS[i']? = some r' → r'.dst ≠ some t) ∧ VR (μs' (step1 r1)) r1.v ((a.put o.dst u).tmps.getD t undef)) ∨
      ((∀ (i1 : Nat) (r1 : Rec), sBool (l.setIfInBounds i true) i1 = true → RS[i1]? = some r1 → r1.dst ≠ some t) ∧ ∀ v, env0.get t = some v → VR (μs' 0) v ((a.put o.dst u).tmps.getD t undef)) := by
  intro t ht
  have hta : t < a.tmps.size := by rw [v.size]; exact ht
  have hi : i < ops.size := (Array.getElem?_eq_some_iff.1 ho).1
  by_cases hd : r.dst = some t
  · refine .inl ⟨i, r, by rw [sBool_set hl]; simp, hr, hd, ?_, ?_⟩
    · intro i' r' hlt hs hr' hd'
      rw [sBool_set hl, if_neg (by omega)] at hs
      obtain ⟨o', ho', f'⟩ := S.fact i' r' hr'
      rcases f'.apart i o hlt ho with hb | hap
      · have := x.closed v.closed i' i (Array.getElem?_eq_some_iff.1 ho').1 hs hb
        rw [hno] at this
        cases this
      · exact (Oper.apart_spec hap).2.1 t (by rw [← hdst]; exact hd) (by rw [← f'.dst]; exact hd')
    · rw [getD_put hta, if_pos (by rw [← hdst]; exact hd)]
      exact hu
  · have hdo : ¬ o.dst = some t := by rw [← hdst]; exact hd
    rcases v.tmps t ht with ⟨i2, r2, t1, t2, t3, t4, t5⟩ | ⟨t1, t2⟩
    · refine .inl ⟨i2, r2, ?_, t2, t3, ?_, ?_⟩
      · rw [sBool_set hl]; split
        · rfl
        · exact t1
      · intro i' r' hlt hs hr' hd'
        rw [sBool_set hl] at hs
        split at hs
        · rename_i he
          subst he
          rw [hr] at hr'; cases hr'
          exact hd hd'
        · exact t4 i' r' hlt hs hr' hd'
      · rw [getD_put hta, if_neg hdo, hμ _ (step_le x S v t1 t2)]
        exact t5
    · refine .inr ⟨?_, ?_⟩
      · intro i1 r1 hs hr1 hd1
        rw [sBool_set hl] at hs
        split at hs
        · rename_i he
          subst he
          rw [hr] at hr1; cases hr1
          exact hd hd1
        · exact t1 i1 r1 hs hr1 hd1
      · intro v' hv'
        rw [getD_put hta, if_neg hdo, hμ 0 (Nat.zero_le _)]
        exact t2 v' hv'

theorem closed_set (v : Inv Z G n ops env0 RS HS h0 μ0 w0 ds l a w j μs) {i : Nat} {o : Oper} (hl : i < l.size) (ho : ops[i]? = some o) (hall : ∀ e ∈ o.after.toList, Region.binds .any e = true → l.getD e.on false = true) :
    ∀ (i1 : Nat) (o1 : Oper) (e : Edge), sBool (l.setIfInBounds i true) i1 = true → ops[i1]? = some o1 → e ∈ o1.after.toList → Region.binds .any e = true → sBool (l.setIfInBounds i true) e.on = true := by
  intro i1 o1 e hs ho1 he hb
  rw [sBool_set hl] at hs ⊢
  split
  · rfl
  · split at hs
    · rename_i h1
      subst h1
      rw [ho] at ho1; cases ho1
      exact hall e he hb
    · exact v.closed i1 o1 e hs ho1 he hb

/-- An operation that turns no memory. -/
theorem inv_keep (x : Ord ops ms) (S : Sound P G n ext orc ops ms env0 h0 ops.size RS HS) (v : Inv Z G n ops env0 RS HS h0 μ0 w0 ds l a w j μs) {i : Nat} {r : Rec} {o : Oper} (hl : i < l.size) (ho : ops[i]? = some o) (hr : RS[i]? = some r)
    (hno : sBool l i = false) (hall : ∀ e ∈ o.after.toList, Region.binds .any e = true → l.getD e.on false = true) (hdst : r.dst = o.dst) (he : r.e = false) {u : Value} (hu : VR (μs r.k) r.v u) {w' : World} (s : Same w w') :
    Inv Z G n ops env0 RS HS h0 μ0 w0 ds (l.setIfInBounds i true) (a.put o.dst u) w' j μs := by
  refine ⟨closed_set v hl ho hall, ?_, ?_, v.top, ?_, v.zero, v.mono, v.h0s, tmps_put x S v hl ho hr hno hdst (fun _ _ => rfl) ?_, ?_, fun H hH => (v.fr H hH).trans (FR.same _ _ s)⟩
  · rw [← v.defers]; cases o.dst <;> rfl
  · rw [← v.size]; cases o.dst <;> simp [Act.put]
  · intro i1 r1 hr1 he1
    rw [sBool_set hl]
    have : i1 ≠ i := fun h => by subst h; rw [hr] at hr1; cases hr1; rw [he] at he1; cases he1
    rw [if_neg this]
    exact v.cnt i1 r1 hr1 he1
  · unfold step1; rw [he]; simpa using hu
  · intro q H hq hH hw
    refine (v.mem q H hq hH fun i1 r1 hs hr1 hwr1 => hw i1 r1 ?_ hr1 hwr1).same s
    rw [sBool_set hl]; split
    · rfl
    · exact hs

/-- An operation that turns memory. -/
theorem inv_turn (x : Ord ops ms) (S : Sound P G n ext orc ops ms env0 h0 ops.size RS HS) (v : Inv Z G n ops env0 RS HS h0 μ0 w0 ds l a w j μs) {i : Nat} {r : Rec} {o : Oper} (hl : i < l.size) (ho : ops[i]? = some o) (hr : RS[i]? = some r)
    (f : Fact P G n ext orc ops ms env0 RS HS i o r) (hno : sBool l i = false) (hall : ∀ e ∈ o.after.toList, Region.binds .any e = true → l.getD e.on false = true) (he : r.e = true) (hkj : r.k = j) {H H' : AH} (hH : HS[j]? = some H) (hH' : HS[j + 1]? = some H') {ν : Mu}
    {u : Value} (hu : VR ν r.v u) {w' : World} (hHR : HR Z G ν H' w') (hfr : FR H (μs j) w H' ν w') (hcase : Same w w' ∨ r.wr = true) :
    Inv Z G n ops env0 RS HS h0 μ0 w0 ds (l.setIfInBounds i true) (a.put o.dst u) w' (j + 1) (fun q => if q = j + 1 then ν else μs q) := by
  have hμ : ∀ q, q ≤ j → (fun q => if q = j + 1 then ν else μs q) q = μs q := fun q hq => if_neg (by omega)
  have hstep : step1 r = j + 1 := by unfold step1; rw [he, hkj]
  refine ⟨closed_set v hl ho hall, ?_, ?_, (List.getElem?_eq_some_iff.1 hH').1, ?_, ?_, ?_, ?_, tmps_put x S v hl ho hr hno f.dst hμ ?_, ?_, ?_⟩
  · rw [← v.defers]; cases o.dst <;> rfl
  · rw [← v.size]; cases o.dst <;> simp [Act.put]
  · intro i1 r1 hr1 he1
    rw [sBool_set hl]
    by_cases hii : i1 = i
    · subst hii
      rw [hr] at hr1; cases hr1
      simp; omega
    · rw [if_neg hii, v.cnt i1 r1 hr1 he1]
      have hne : r1.k ≠ j := by
        intro hk
        rcases Nat.lt_or_gt_of_ne hii with h | h
        · have := f.incr he i1 r1 h hr1 he1
          omega
        · obtain ⟨o1, ho1, f1⟩ := S.fact i1 r1 hr1
          have := f1.incr he1 i r h hr he
          omega
      omega
  · rw [if_neg (by omega)]
    exact v.zero
  · intro q q' hq hq'
    by_cases h1 : q' = j + 1
    · rw [if_pos h1]
      by_cases h2 : q = j + 1
      · rw [if_pos h2]; exact Mu.le_refl _
      · rw [if_neg h2]
        exact Mu.le_trans (v.mono q j (by omega) (Nat.le_refl _)) hfr.le
    · rw [if_neg h1, if_neg (by omega)]
      exact v.mono q q' hq (by omega)
  · intro q Hq hq hHq
    by_cases h1 : q = j + 1
    · rw [if_pos h1]
      subst h1
      rw [hH'] at hHq; cases hHq
      exact hHR.toH0
    · rw [if_neg h1]
      exact v.h0s q Hq (by omega) hHq
  · rw [hstep]
    simpa using hu
  · intro q Hq hq hHq hw
    by_cases h1 : q = j + 1
    · rw [if_pos h1]
      subst h1
      rw [hH'] at hHq; cases hHq
      exact hHR
    · rw [if_neg h1]
      rcases hcase with s | hwr
      · refine (v.mem q Hq (by omega) hHq fun i1 r1 hs hr1 hwr1 => hw i1 r1 ?_ hr1 hwr1).same s
        rw [sBool_set hl]; split
        · rfl
        · exact hs
      · exfalso
        have := hw i r (by rw [sBool_set hl]; simp) hr hwr
        omega
  · intro Hq hHq
    rw [hH'] at hHq; cases hHq
    simp only [if_true]
    exact (v.fr H hH).trans hfr

theorem drawB_ok (horc : OrcOK P Z G orc) (hext : ExtOK P ext) (hname : NoNum P) (hmix : P.follows .mixedOrders = true) {ops : Array Oper} {id : Nat} {Q : Exit → Act → World → Prop} {env : T (Option Value)} {h : AH} {env' : T (Option Value)} {h' : AH}
    (hb : drawB P G ext orc n ops env h = some (env', h')) {μ : Mu} {a : Act} {w : World} (hr : HR Z G μ h w) (he : EnvOK μ n env a)
    (hq : ∀ μ' a' w', HR Z G μ' h' w' → EnvOK μ' n env' a' → FR h μ w h' μ' w' → a'.defers = a.defers → Q .normal a' w') : (Code.region id ops true).wp P Q a w := by
  unfold drawB at hb
  split at hb
  case h_2 => cases hb
  rename_i ms hms
  split at hb
  case h_2 => cases hb
  rename_i RS HS hgo
  split at hb
  case h_2 => cases hb
  rename_i hl hlast
  simp only [Option.some.injEq, Prod.mk.injEq] at hb
  obtain ⟨rfl, rfl⟩ := hb
  have x := Ord.of hms
  have S : Sound P G n ext orc ops ms env h ops.size RS HS := by
    have := drawGo_ok ops.toList 0 [] [h] RS HS rfl (sound_start h) hgo
    simpa using this
  refine wp_region_any hmix ?_
  have hN : (Array.replicate ops.size false).size = ops.size := by simp
  have hS0 : ∀ i, sBool (Array.replicate ops.size false) i = false := by
    intro i
    unfold sBool
    by_cases hi : i < ops.size
    · simp [Array.getD_eq_getD_getElem?, hi]
    · simp [Array.getD_eq_getD_getElem?, hi]
  refine wpAny_inv x (Inv := fun l a' w' => ∃ j μs, Inv Z G n ops env RS HS h μ w.drew a.defers l a' w' j μs) ?_ ?_ ops.size _ a _ hN ?_ ⟨0, fun _ => μ, ?_⟩
  · -- a step
    rintro l a1 w1 hl1 ⟨j, μs, v⟩ i hi
    obtain ⟨hi1, hi2, o, ho, hall⟩ := ready_iff.1 hi
    have hil : i < l.size := by omega
    have hno : sBool l i = false := by
      unfold sBool
      simpa [Array.getD_eq_getD_getElem?, hil] using hi2
    obtain ⟨r, hrr⟩ : ∃ r, RS[i]? = some r := ⟨RS[i]'(by rw [S.len]; exact hi1), List.getElem?_eq_getElem _⟩
    obtain ⟨o', ho', f⟩ := S.fact i r hrr
    rw [ho] at ho'; cases ho'
    have hup : ∀ q, Bef ms i q → sBool l q = true := by
      intro q hq'
      obtain ⟨e, he', hb', hj⟩ := x.dir i q o ho hq'
      have h1 := hall e he' hb'
      rcases hj with rfl | hj
      · exact h1
      · exact x.closed v.closed e.on q (by have := (x.edge i o e ho he' hb').1; omega) h1 hj
    have hkj := k_le v f hup
    have henv := env_of x S v he.le he.fits hi1 f hno hup
    unfold wpOp
    rw [ho]
    simp only
    -- memory at the operation's own place
    have hmem : r.free = false → ∀ H, HS[r.k]? = some H → HR Z G (μs r.k) H w1 := by
      intro hfr H hH
      refine v.mem r.k H hkj hH ?_
      intro i1 r1 hs1 hr1 hw1
      obtain ⟨o1, ho1, f1⟩ := S.fact i1 r1 hr1
      have he1 : r1.e = true := by
        cases f1.kind with
        | off _ _ _ hw => rw [hw1] at hw; cases hw
        | free _ _ _ _ _ hw => rw [hw1] at hw; cases hw
        | keep _ _ _ _ _ hw => rw [hw1] at hw; cases hw
        | grow _ _ _ _ _ _ h => exact h
        | write _ _ _ _ _ _ h => exact h
      rcases Nat.lt_trichotomy i1 i with hlt | heq | hgt
      · exact (f.chain i1 r1 hlt hr1 he1).1 (f.wrote hfr i1 r1 hlt hr1 hw1)
      · rw [heq, hno] at hs1; cases hs1
      · exfalso
        have hb' := f1.looked hw1 i r hgt hrr hfr
        have := x.closed v.closed i1 i (Array.getElem?_eq_some_iff.1 ho1).1 hs1 hb'
        rw [hno] at this
        cases this
    have same_mu : ∀ {H H2 : AH} {ν : Mu} {w2 : World}, H0 G (μs r.k) H → (∀ i, H.next ≤ i → i < 65536 → ν i = none) → (∀ i, (i < H.next ∨ 65536 ≤ i) → ν i = μs r.k i) → ν = μs r.k := by
      intro H H2 ν w2 hh hf ho
      funext q
      by_cases hq' : q < H.next ∨ 65536 ≤ q
      · exact ho q hq'
      · rw [hf q (by omega) (by omega), hh.fresh q (by omega) (by omega)]
    have jk : r.e = true → r.k = j := by
      intro he1
      have : ¬ r.k < j := fun hlt => by
        have := (v.cnt i r hrr he1).2 hlt
        rw [hno] at this
        cases this
      omega
    cases f.kind with
    | off hw hv he1 hwr hfr =>
      rw [wanted_ok hw henv, if_neg (by simp)]
      exact ⟨j, μs, inv_keep x S v hil ho hrr hno hall f.dst he1 (by rw [hv]; exact VR.of_pure rfl) ⟨rfl, rfl, rfl, Nat.le_refl _, fun _ _ => rfl⟩⟩
    | free hw H hH hop he1 hwr hfr =>
      rw [wanted_ok hw henv, if_pos rfl]
      have hh0 := v.h0s r.k H hkj hH
      refine .inl (opB_ok (hh0.bare w1) henv horc hext hname hop ?_)
      rintro u w2 ⟨ν, hu, hr2, hf2⟩
      have : ν = μs r.k := same_mu (H := H) (H2 := H) (w2 := w2) hh0 hr2.fresh hf2.old
      subst this
      exact ⟨j, μs, inv_keep x S v hil ho hrr hno hall f.dst he1 hu (FR.toSame (h := { H with t := .leaf none, old := fun _ => none, fl := false }) hf2)⟩
    | keep hw H hH hop he1 hwr hfr =>
      rw [wanted_ok hw henv, if_pos rfl]
      refine .inl (opB_ok (hmem hfr H hH).locked henv horc hext hname hop ?_)
      rintro u w2 ⟨ν, hu, hr2, hf2⟩
      have : ν = μs r.k := same_mu (H := H) (H2 := H) (w2 := w2) (v.h0s r.k H hkj hH) hr2.fresh hf2.old
      subst this
      exact ⟨j, μs, inv_keep x S v hil ho hrr hno hall f.dst he1 hu (FR.toSame hf2)⟩
    | grow hw H h1 hH hop hH' he1 hwr hfr =>
      rw [wanted_ok hw henv, if_pos rfl]
      have hk := jk he1
      refine .inl (opB_ok (hmem hfr H hH).locked henv horc hext hname hop ?_)
      rintro u w2 ⟨ν, hu, hr2, hf2⟩
      rw [hk] at hH hH' hf2
      exact ⟨j + 1, _, inv_turn x S v hil ho hrr f hno hall he1 hk hH hH' hu (hr2.relock _) (FR.unlock (hk ▸ hmem hfr H (hk ▸ hH)) hf2) (.inl (FR.toSame hf2))⟩
    | write hw H ho' hH hop hH' he1 hwr hfr =>
      rw [wanted_ok hw henv, if_pos rfl]
      have hk := jk he1
      refine .inl (opB_ok (hmem hfr H hH) henv horc hext hname hop ?_)
      rintro u w2 ⟨ν, hu, hr2, hf2⟩
      rw [hk] at hH hH' hf2
      exact ⟨j + 1, _, inv_turn x S v hil ho hrr f hno hall he1 hk hH hH' hu hr2 hf2 (.inr hwr)⟩
  · -- the end
    rintro l a1 w1 hl1 ⟨j, μs, v⟩ hall
    have hjl : j + 1 = HS.length := by
      have := v.top
      rcases Nat.lt_or_ge (j + 1) HS.length with hlt | hge
      · exfalso
        obtain ⟨i, r, h1, h2, h3⟩ := S.all j hlt
        obtain ⟨o, ho, _⟩ := S.fact i r h1
        have := (v.cnt i r h1 h2).1 (hall i (Array.getElem?_eq_some_iff.1 ho).1)
        omega
      · omega
    have hHj : HS[j]? = some hl := by
      rw [List.getLast?_eq_getElem?] at hlast
      rw [← hlast]
      congr 1
      omega
    have hHR : HR Z G (μs j) hl w1 := by
      refine v.mem j hl (Nat.le_refl _) hHj ?_
      intro i r hs hr1 hw1
      obtain ⟨o, ho, f⟩ := S.fact i r hr1
      have he1 : r.e = true := by
        cases f.kind with
        | off _ _ _ hw => rw [hw1] at hw; cases hw
        | free _ _ _ _ _ hw => rw [hw1] at hw; cases hw
        | keep _ _ _ _ _ hw => rw [hw1] at hw; cases hw
        | grow _ _ _ _ _ _ h => exact h
        | write _ _ _ _ _ _ h => exact h
      exact (v.cnt i r hr1 he1).1 hs
    have hlist : ∀ (i : Nat) (r : Rec), RS[i]? = some r → sBool l i = true := by
      intro i r hr1
      obtain ⟨o, ho, _⟩ := S.fact i r hr1
      exact hall i (Array.getElem?_eq_some_iff.1 ho).1
    obtain ⟨p1, p2⟩ := putAll_get he.le RS env he.fits (fun i r d hr1 hd => by
      obtain ⟨o, _, f⟩ := S.fact i r hr1
      exact f.lt d hd)
    refine hq (μs j) a1 w1 hHR ⟨v.size, he.le, p1, ?_⟩ ((FR.drew h μ w).trans (v.fr hl hHj)) v.defers
    intro t u ht hg
    rcases p2 t u ht hg with ⟨i1, q, hla, rfl⟩ | ⟨hnone, hu⟩
    · rcases v.tmps t ht with ⟨i2, r2, t1, t2, t3, t4, t5⟩ | ⟨t1, _⟩
      · have : i2 = i1 := by
          rcases Nat.lt_trichotomy i2 i1 with hh | hh | hh
          · exact absurd hla.2.1 (t4 i1 q hh (hlist i1 q hla.1) hla.1)
          · exact hh
          · exact absurd t3 (hla.2.2 i2 r2 hh t2)
        subst this
        rw [hla.1] at t2
        cases t2
        exact t5.mono (v.mono _ _ (step_le x S v t1 hla.1) (Nat.le_refl _))
      · exact absurd hla.2.1 (t1 i1 q (hlist i1 q hla.1) hla.1)
    · rcases v.tmps t ht with ⟨i2, r2, t1, t2, t3, _, _⟩ | ⟨_, t2⟩
      · exact absurd t3 (hnone i2 r2 t2)
      · exact (t2 u hu).mono (v.mono _ _ (Nat.zero_le _) (Nat.le_refl _))
  · -- the count
    unfold left
    exact Nat.le_trans List.countP_le_length (by simp)
  · -- the start
    have hr' := hr.drew
    refine ⟨?_, rfl, he.size, S.pos, ?_, rfl, fun _ _ _ _ => Mu.le_refl _, ?_, ?_, ?_, ?_⟩
    · intro i o e hs
      rw [hS0] at hs; cases hs
    · intro i r _ _
      rw [hS0]
      simp
    · intro q H hq0 hH
      have : q = 0 := by omega
      subst this
      rw [S.head] at hH; cases hH
      exact hr.toH0
    · intro t ht
      refine .inr ⟨fun i r hs => (by rw [hS0] at hs; cases hs), fun u hu => he.at_ t u ht hu⟩
    · intro q H hq0 hH _
      have : q = 0 := by omega
      subst this
      rw [S.head] at hH; cases hH
      exact hr'
    · intro H hH
      rw [S.head] at hH; cases hH
      exact FR.refl _ _ _

end
end Go.Proofs.YtlccfcbifplhkaaGreatDoor.V
