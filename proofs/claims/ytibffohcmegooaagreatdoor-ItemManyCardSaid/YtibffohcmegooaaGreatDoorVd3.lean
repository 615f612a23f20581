/- A statement whose order is open comes to one end, in whatever order Go carries it out. Conditions: none. -/
import Derived.Test.YtibffohcmegooaaGreatDoorVd2
import Derived.Test.YtibffohcmegooaaGreatDoorVd0
namespace Go.Proofs.YtibffohcmegooaaGreatDoor.V
set_option linter.all false
open Go

section
variable {P : Program} {ops : Array Oper} {Q : Exit → Act → World → Prop}

/-- How many are not yet listed. -/
def left (l : Array Bool) : Nat := l.toList.countP (fun b => !b)

theorem left_set {l : Array Bool} {i : Nat} (hi : i < l.size) (h : l.getD i true = false) : left (l.setIfInBounds i true) + 1 = left l := by
  unfold left
  have h1 : l.toList[i]'(by simpa using hi) = false := by
    simpa [Array.getD_eq_getD_getElem?, hi] using h
  rw [Array.toList_setIfInBounds]
  have hs : i < l.toList.length := by simpa using hi
  rw [List.countP_set hs]
  simp only [h1, Bool.not_false, if_true, Bool.not_true, Bool.false_eq_true, if_false]
  have : 0 < l.toList.countP (fun b => !b) := List.countP_pos_iff.2 ⟨false, h1 ▸ List.getElem_mem hs, rfl⟩
  omega

theorem ready_iff {l : Array Bool} {i : Nat} : i ∈ Region.ready .any ops l ↔ i < ops.size ∧ l.getD i true = false ∧ ∃ o, ops[i]? = some o ∧ ∀ e ∈ o.after.toList, Region.binds .any e = true → l.getD e.on false = true := by
  unfold Region.ready
  simp only [List.mem_filter, List.mem_range, Bool.and_eq_true, Bool.not_eq_true']
  constructor
  · rintro ⟨h1, h2, h3⟩
    obtain ⟨o, ho⟩ := some_of_lt h1
    refine ⟨h1, h2, o, ho, ?_⟩
    rw [ho] at h3
    simp only [Option.map_some, Option.getD_some] at h3
    rw [Array.all_eq_true_iff_forall_mem] at h3
    intro e he hb
    have := h3 e (by simpa using he)
    rw [hb] at this
    simpa using this
  · rintro ⟨h1, h2, o, ho, h3⟩
    refine ⟨h1, h2, ?_⟩
    rw [ho]
    simp only [Option.map_some, Option.getD_some]
    rw [Array.all_eq_true_iff_forall_mem]
    intro e he
    cases hb : Region.binds .any e with
    | false => rfl
    | true => simpa using h3 e (by simpa using he) hb

theorem wpAny_inv (ro : Option Nat) {ms : List Nat} (x : Ord ops ms) {Inv : Array Bool → Act → World → Prop}
    (hstep : ∀ l a w, l.size = ops.size → Inv l a w → ∀ i ∈ Region.ready .any ops l, wpOpIn (Fr ro) 0 P ops Q i (Inv (l.setIfInBounds i true)) a w)
    (hend : ∀ l a w, l.size = ops.size → Inv l a w → (∀ i, i < ops.size → l.getD i false = true) → Q .normal a w) :
    ∀ (fuel : Nat) (l : Array Bool) (a : Act) (w : World), l.size = ops.size → left l ≤ fuel → Inv l a w → wpAnyIn (Fr ro) 0 P .any ops Q fuel l a w := by
  have all : ∀ l : Array Bool, l.size = ops.size → Region.ready .any ops l = [] → ∀ i, i < ops.size → l.getD i false = true := by
    intro l hl hr i
    induction i using Nat.strongRecOn with
    | ind i ih =>
      intro hi
      have hlt : i < l.size := by omega
      cases hb : l.getD i false with
      | true => rfl
      | false =>
        exfalso
        obtain ⟨o, ho⟩ := some_of_lt hi
        have : i ∈ Region.ready .any ops l := by
          rw [ready_iff]
          refine ⟨hi, ?_, o, ho, fun e he hbd => ih e.on (x.edge i o e ho he hbd).1 (by have := (x.edge i o e ho he hbd).1; omega)⟩
          simpa [Array.getD_eq_getD_getElem?, hlt] using hb
        rw [hr] at this
        cases this
  intro fuel
  induction fuel with
  | zero =>
    intro l a w hl hf hi
    have hnil : Region.ready .any ops l = [] := by
      cases hr : Region.ready .any ops l with
      | nil => rfl
      | cons i is =>
        exfalso
        have hm : i ∈ Region.ready .any ops l := by rw [hr]; exact List.mem_cons_self
        rw [ready_iff] at hm
        have := left_set (l := l) (i := i) (by omega) hm.2.1
        omega
    exact ⟨hnil, hend l a w hl hi (all l hl hnil)⟩
  | succ fuel ih =>
    intro l a w hl hf hi
    refine ⟨fun hnil => hend l a w hl hi (all l hl hnil), ?_⟩
    intro i hm
    have hm' := ready_iff.1 hm
    refine wpOpIn_mono (fun a' w' hi' => ih _ a' w' (by simpa using hl) ?_ hi') (hstep l a w hl hi i hm)
    have := left_set (l := l) (i := i) (by omega) hm'.2.1
    omega

end

section
variable {P : Program} {Z : AH} {G n : Nat} {ext : FuncId → Option Ext} {orc : Orc} {ops : Array Oper} {ms : List Nat} {env0 : T (Option Value)} {RS : List Rec} {HS : List AH} {h0 h1 : AH} {sq : Option Nat}

/-- Old blocks, the streams: as they were. -/
structure Same (w w' : World) : Prop where
  os : w'.os = w.os
  tape : w'.tape = w.tape
  output : w'.output = w.output
  size : w.heap.size ≤ w'.heap.size
  blk : ∀ b, b < w.heap.size → w'.heap[b]? = w.heap[b]?

theorem HR.same {μ : Mu} {h : AH} {w w' : World} (x : HR Z G μ h w) (s : Same w w') : HR Z G μ h w' := x.congr fun i l hi hl => by
  cases hg : h.get i with
  | none => exact absurd hg hi
  | some b =>
    obtain ⟨l', hl', hbr⟩ := x.blk i b hg
    rw [hl] at hl'; cases hl'
    exact s.blk _ hbr.lt

theorem FR.same (h : AH) (μ : Mu) {w w' : World} (s : Same w w') : FR h μ w h μ w' :=
  ⟨Mu.le_refl _, s.os, s.tape, s.output, s.size, rfl, rfl, Nat.le_refl _, fun _ _ => rfl, fun _ _ h => h, fun _ h _ => h, fun b hb _ => s.blk b hb, fun _ _ _ => rfl⟩

theorem FR.toSame {h h' : AH} {μ ν : Mu} {w w' : World} (f : FR h.locked μ w h' ν w') : Same w w' := ⟨f.os, f.tape, f.output, f.size, FR.locked_blk f⟩

/-- What is known of numbers without looking at memory. -/
structure H0 (G : Nat) (μ : Mu) (h : AH) : Prop where
  nxt : h.next ≤ 16777216
  imp : h.imp ≤ h.next
  fresh : ∀ i, h.next ≤ i → i < 16777216 → μ i = none
  glob : ∀ g, g < G → ∃ l, μ g = some l ∧ l.b = g ∧ l.o = 0

theorem HR.toH0 {μ : Mu} {h : AH} {w : World} (x : HR Z G μ h w) : H0 G μ h := ⟨x.nxt, x.imp, x.fresh, x.glob⟩

theorem AH.get_bare (h : AH) (i : Nat) : h.bare.get i = none := by
  unfold AH.get AH.bare
  split
  · split <;> rfl
  · rfl

theorem H0.bare {μ : Mu} {h : AH} (x : H0 G μ h) (w : World) : HR Z G μ h.bare w :=
  ⟨T.fits_leaf _ _, x.nxt, x.imp, x.fresh, x.glob, fun i b hi => (by rw [AH.get_bare] at hi; cases hi), fun i j _ _ _ _ hi => absurd (AH.get_bare h i) hi, fun hf => by cases hf⟩

def sBool (l : Array Bool) (i : Nat) : Bool := l.getD i false

def step1 (r : Rec) : Nat := r.k + (match r.e with | true => 1 | false => 0)

/-- What is known of the memory at the time q is not yet turned. -/
def Valid (RS : List Rec) (l : Array Bool) (q : Nat) : Prop := ∀ (i : Nat) (r : Rec), sBool l i = true → RS[i]? = some r → (r.wr = true → r.k < q) ∧ (r.fw = true → r.k < q ∨ q ≤ r.lq)

/-- What holds when the operations of l have been carried out. -/
structure Inv (Z : AH) (G n : Nat) (ops : Array Oper) (env0 : T (Option Value)) (RS : List Rec) (HS : List AH) (h0 : AH) (μ0 : Mu) (w0 : World) (ds : List Deferred) (l : Array Bool) (a : Act) (w : World) (j : Nat) (μs : Nat → Mu) : Prop where
  closed : ∀ (i : Nat) (o : Oper) (e : Edge), sBool l i = true → ops[i]? = some o → e ∈ o.after.toList → Region.binds .any e = true → sBool l e.on = true
  defers : a.defers = ds
  size : a.tmps.size = n
  top : j < HS.length
  cnt : ∀ (i : Nat) (r : Rec), RS[i]? = some r → r.e = true → (sBool l i = true ↔ r.k < j)
  zero : True
  mono : ∀ q q', q ≤ q' → q' ≤ j → (μs q).le (μs q')
  h0s : ∀ q H, q ≤ j → HS[q]? = some H → H0 G (μs q) H
  tmps : ∀ t, t < n → (∃ (i : Nat) (r : Rec), sBool l i = true ∧ RS[i]? = some r ∧ r.dst = some t ∧ (∀ (i' : Nat) (r' : Rec), i < i' → sBool l i' = true → RS[i']? = some r' → r'.dst ≠ some t) ∧ VR (μs (step1 r)) r.v (a.tmps.getD t undef)) ∨
    ((∀ (i : Nat) (r : Rec), sBool l i = true → RS[i]? = some r → r.dst ≠ some t) ∧ ∀ v, env0.get t = some v → VR (μs 0) v (a.tmps.getD t undef))
  mem : ∀ q H, q ≤ j → HS[q]? = some H → Valid RS l q → HR Z G (μs q) H w
  nexts : ∀ q q' H H', q ≤ q' → q' ≤ j → HS[q]? = some H → HS[q']? = some H' → H.next ≤ H'.next
  keep : ∀ q H Hj, q ≤ j → HS[q]? = some H → HS[j]? = some Hj → Valid RS l q → ∀ i, (i < H.next ∨ 16777216 ≤ i) → Hj.get i = H.get i
  oldm : ∀ q H, q ≤ j → HS[q]? = some H → ∀ i, (i < H.next ∨ 16777216 ≤ i) → μs j i = μs q i
  fr : ∀ H, HS[j]? = some H → FR h0 μ0 w0 H (μs j) w

variable {μ0 : Mu} {w0 : World} {ds : List Deferred} {l : Array Bool} {a : Act} {w : World} {j : Nat} {μs : Nat → Mu}

theorem k_le (v : Inv Z G n ops env0 RS HS h0 μ0 w0 ds l a w j μs) {i : Nat} {r : Rec} {o : Oper} (f : Fact P G n ext orc sq ops ms env0 RS HS i o r)
    (hup : ∀ q, Bef ms i q → sBool l q = true) : r.k ≤ j := by
  rcases Nat.eq_zero_or_pos r.k with h | h
  · omega
  · obtain ⟨i0, q, h1, h2, h3, h4⟩ := f.more (r.k - 1) (by omega)
    have hb : Bef ms i i0 := (f.chain i0 q h1 h2 h3).2 (by omega)
    have := (v.cnt i0 q h2 h3).1 (hup i0 hb)
    omega

theorem step_le (x : Ord ops ms) (S : Sound P G n ext orc sq ops ms env0 h1 ops.size RS HS) (v : Inv Z G n ops env0 RS HS h0 μ0 w0 ds l a w j μs) {i : Nat} {r : Rec} (hs : sBool l i = true) (hr : RS[i]? = some r) : step1 r ≤ j := by
  obtain ⟨o, ho, f⟩ := S.fact i r hr
  have hi : i < ops.size := (Array.getElem?_eq_some_iff.1 ho).1
  have hk := k_le v f (fun q hq => x.closed v.closed i q hi hs hq)
  unfold step1
  cases he : r.e with
  | false => simpa using hk
  | true => have := (v.cnt i r hr he).1 hs; simp; omega

/-- Of two ordered operations the earlier one's memory is there. -/
theorem step_le_k (x : Ord ops ms) (S : Sound P G n ext orc sq ops ms env0 h1 ops.size RS HS) {i i1 : Nat} {r q : Rec} {o : Oper} (hi : i < ops.size) (f : Fact P G n ext orc sq ops ms env0 RS HS i o r) (hq : RS[i1]? = some q) (hb : Bef ms i i1) : step1 q ≤ r.k := by
  have hlt := x.lt i i1 hi hb
  unfold step1
  cases he : q.e with
  | true => have := (f.chain i1 q hlt hq he).1 hb; simp; omega
  | false =>
    simp only [Nat.add_zero]
    rcases Nat.eq_zero_or_pos q.k with h | h
    · omega
    · obtain ⟨o1, ho1, f1⟩ := S.fact i1 q hq
      obtain ⟨i2, p, h1, h2, h3, h4⟩ := f1.more (q.k - 1) (by omega)
      have hb2 : Bef ms i1 i2 := (f1.chain i2 p h1 h2 h3).2 (by omega)
      have := (f.chain i2 p (by omega) h2 h3).1 (x.trans i i1 i2 hi hb hb2)
      omega

theorem env_of (x : Ord ops ms) (S : Sound P G n ext orc sq ops ms env0 h1 ops.size RS HS) (v : Inv Z G n ops env0 RS HS h0 μ0 w0 ds l a w j μs) (hn : n ≤ 4096) (hf0 : env0.fits 12) {i : Nat} {r : Rec} {o : Oper} (hi : i < ops.size)
    (f : Fact P G n ext orc sq ops ms env0 RS HS i o r) (hno : sBool l i = false) (hup : ∀ q, Bef ms i q → sBool l q = true) : EnvOK (μs r.k) n (envAt n ops ms env0 RS i) a := by
  have hkj := k_le v f hup
  obtain ⟨e1, e2⟩ := envB_get hn (m := ms.getD i 0) (RS.take i) 0 env0 hf0
  obtain ⟨g1, g2⟩ := hideLater_get hn (i := i) (ms := ms) (ops.toList.drop (i + 1)) (i + 1) (envB n (ms.getD i 0) (RS.take i) 0 env0) e1
  refine ⟨v.size, hn, g1, ?_⟩
  intro t u ht hg
  obtain ⟨p1, p2⟩ := g2 t u ht hg
  -- a later writer of t stands behind i
  have hlate : ∀ (i' : Nat) (r' : Rec), i < i' → RS[i']? = some r' → r'.dst = some t → sBool l i' = true → False := by
    intro i' r' hlt hr' hd hs
    obtain ⟨o', ho', f'⟩ := S.fact i' r' hr'
    have hb : Bef ms (i + 1 + (i' - (i + 1))) i := p2 (i' - (i + 1)) o' (by
      rw [List.getElem?_drop, show i + 1 + (i' - (i + 1)) = i' from by omega]
      simpa using ho') (by rw [← f'.dst]; exact hd)
    rw [show i + 1 + (i' - (i + 1)) = i' from by omega] at hb
    have := x.closed v.closed i' i (Array.getElem?_eq_some_iff.1 ho').1 hs hb
    rw [hno] at this
    cases this
  rcases e2 t u ht p1 with ⟨i1, q, hlast, hbit, rfl⟩ | ⟨hnone, hu⟩
  · have hi1 : i1 < i ∧ RS[i1]? = some q := by
      have := hlast.1
      rw [List.getElem?_take] at this
      split at this
      · exact ⟨by assumption, this⟩
      · cases this
    have hb : Bef ms i i1 := by simpa [Bef] using hbit
    have hs1 := hup i1 hb
    have hle := step_le_k x S hi f hi1.2 hb
    rcases v.tmps t ht with ⟨i2, r2, t1, t2, t3, t4, t5⟩ | ⟨t1, _⟩
    · have : i2 = i1 := by
        rcases Nat.lt_trichotomy i2 i1 with h | h | h
        · exact absurd hlast.2.1 (t4 i1 q h hs1 hi1.2)
        · exact h
        · exfalso
          rcases Nat.lt_trichotomy i2 i with h' | h' | h'
          · exact hlast.2.2 i2 r2 h (by rw [List.getElem?_take, if_pos h']; exact t2) t3
          · rw [h', hno] at t1; cases t1
          · exact hlate i2 r2 h' t2 t3 t1
      subst this
      rw [hi1.2] at t2
      cases t2
      exact t5.mono (v.mono _ _ hle hkj)
    · exact absurd hlast.2.1 (t1 i1 q hs1 hi1.2)
  · rcases v.tmps t ht with ⟨i2, r2, t1, t2, t3, t4, t5⟩ | ⟨_, t2⟩
    · exfalso
      rcases Nat.lt_trichotomy i2 i with h' | h' | h'
      · exact hnone i2 r2 (by rw [List.getElem?_take, if_pos h']; exact t2) t3
      · rw [h', hno] at t1; cases t1
      · exact hlate i2 r2 h' t2 t3 t1
    · exact (t2 u hu).mono (v.mono _ _ (Nat.zero_le _) hkj)

theorem sBool_set {i i' : Nat} (hi : i < l.size) : sBool (l.setIfInBounds i true) i' = (if i' = i then true else sBool l i') := by
  unfold sBool
  by_cases h : i' = i
  · subst h; simp [Array.getD_eq_getD_getElem?, hi]
  · simp [Array.getD_eq_getD_getElem?, Array.getElem?_setIfInBounds_ne (fun e => h e.symm), h]

theorem getD_put {dst : Option Tmp} {u : Value} {t : Nat} (ht : t < a.tmps.size) : (a.put dst u).tmps.getD t undef = if dst = some t then u else a.tmps.getD t undef := by
  cases dst with
  | none => simp [Act.put]
  | some d =>
    by_cases h : d = t
    · subst h; simp [Act.put, Array.getD_eq_getD_getElem?, ht]
    · simp [Act.put, Array.getD_eq_getD_getElem?, Array.getElem?_setIfInBounds_ne h, h]

/-- The slots behind an operation. -/
theorem tmps_put (x : Ord ops ms) (S : Sound P G n ext orc sq ops ms env0 h1 ops.size RS HS) (v : Inv Z G n ops env0 RS HS h0 μ0 w0 ds l a w j μs) {i : Nat} {r : Rec} {o : Oper} (hl : i < l.size) (ho : ops[i]? = some o) (hr : RS[i]? = some r)
    (hno : sBool l i = false) (hdst : r.dst = o.dst) {μs' : Nat → Mu} (hμ : ∀ q, q ≤ j → μs' q = μs q) {u : Value} (hu : VR (μs' (step1 r)) r.v u) :
    ∀ t, t < n → (∃ (i1 : Nat) (r1 : Rec), sBool (l.setIfInBounds i true) i1 = true ∧ RS[i1]? = some r1 ∧ r1.dst = some t ∧ (∀ (i' : Nat) (r' : Rec), i1 < i' → sBool (l.setIfInBounds i true) i' = true → RS[i']? = some r' → r'.dst ≠ some t) ∧ VR (μs' (step1 r1)) r1.v ((a.put o.dst u).tmps.getD t undef)) ∨
      ((∀ (i1 : Nat) (r1 : Rec), sBool (l.setIfInBounds i true) i1 = true → RS[i1]? = some r1 → r1.dst ≠ some t) ∧ ∀ v, env0.get t = some v → VR (μs' 0) v ((a.put o.dst u).tmps.getD t undef)) := by
  intro t ht
  have hta : t < a.tmps.size := by rw [v.size]; exact ht
  have hi : i < ops.size := (Array.getElem?_eq_some_iff.1 ho).1
  by_cases hd : r.dst = some t
  · refine .inl ⟨i, r, by rw [sBool_set hl]; simp, hr, hd, ?_, ?_⟩
    · intro i' r' hlt hs hr' hd'
      rw [sBool_set hl, if_neg (by omega)] at hs
      obtain ⟨o', ho', f'⟩ := S.fact i' r' hr'
      rcases f'.apart i o hlt ho with hb | hap
      · have := x.closed v.closed i' i (Array.getElem?_eq_some_iff.1 ho').1 hs hb
        rw [hno] at this
        cases this
      · exact (Oper.apart_spec hap).2.1 t (by rw [← hdst]; exact hd) (by rw [← f'.dst]; exact hd')
    · rw [getD_put hta, if_pos (by rw [← hdst]; exact hd)]
      exact hu
  · have hdo : ¬ o.dst = some t := by rw [← hdst]; exact hd
    rcases v.tmps t ht with ⟨i2, r2, t1, t2, t3, t4, t5⟩ | ⟨t1, t2⟩
    · refine .inl ⟨i2, r2, ?_, t2, t3, ?_, ?_⟩
      · rw [sBool_set hl]; split
        · rfl
        · exact t1
      · intro i' r' hlt hs hr' hd'
        rw [sBool_set hl] at hs
        split at hs
        · rename_i he
          subst he
          rw [hr] at hr'; cases hr'
          exact hd hd'
        · exact t4 i' r' hlt hs hr' hd'
      · rw [getD_put hta, if_neg hdo, hμ _ (step_le x S v t1 t2)]
        exact t5
    · refine .inr ⟨?_, ?_⟩
      · intro i1 r1 hs hr1 hd1
        rw [sBool_set hl] at hs
        split at hs
        · rename_i he
          subst he
          rw [hr] at hr1; cases hr1
          exact hd hd1
        · exact t1 i1 r1 hs hr1 hd1
      · intro v' hv'
        rw [getD_put hta, if_neg hdo, hμ 0 (Nat.zero_le _)]
        exact t2 v' hv'

theorem closed_set (v : Inv Z G n ops env0 RS HS h0 μ0 w0 ds l a w j μs) {i : Nat} {o : Oper} (hl : i < l.size) (ho : ops[i]? = some o) (hall : ∀ e ∈ o.after.toList, Region.binds .any e = true → l.getD e.on false = true) :
    ∀ (i1 : Nat) (o1 : Oper) (e : Edge), sBool (l.setIfInBounds i true) i1 = true → ops[i1]? = some o1 → e ∈ o1.after.toList → Region.binds .any e = true → sBool (l.setIfInBounds i true) e.on = true := by
  intro i1 o1 e hs ho1 he hb
  rw [sBool_set hl] at hs ⊢
  split
  · rfl
  · split at hs
    · rename_i h1
      subst h1
      rw [ho] at ho1; cases ho1
      exact hall e he hb
    · exact v.closed i1 o1 e hs ho1 he hb

theorem Valid.back {q i : Nat} (hl : i < l.size) (h : Valid RS (l.setIfInBounds i true) q) : Valid RS l q := by
  intro i1 r1 hs hr1
  refine h i1 r1 ?_ hr1
  rw [sBool_set hl]; split
  · rfl
  · exact hs

/-- An operation that turns no memory. -/
theorem inv_keep (x : Ord ops ms) (S : Sound P G n ext orc sq ops ms env0 h1 ops.size RS HS) (v : Inv Z G n ops env0 RS HS h0 μ0 w0 ds l a w j μs) {i : Nat} {r : Rec} {o : Oper} (hl : i < l.size) (ho : ops[i]? = some o) (hr : RS[i]? = some r)
    (hno : sBool l i = false) (hall : ∀ e ∈ o.after.toList, Region.binds .any e = true → l.getD e.on false = true) (hdst : r.dst = o.dst) (he : r.e = false) {u : Value} (hu : VR (μs r.k) r.v u) {w' : World} (s : Same w w') :
    Inv Z G n ops env0 RS HS h0 μ0 w0 ds (l.setIfInBounds i true) (a.put o.dst u) w' j μs := by
  refine ⟨closed_set v hl ho hall, ?_, ?_, v.top, ?_, v.zero, v.mono, v.h0s, tmps_put x S v hl ho hr hno hdst (fun _ _ => rfl) ?_, ?_, v.nexts, ?_, v.oldm, fun H hH => (v.fr H hH).trans (FR.same _ _ s)⟩
  · rw [← v.defers]; cases o.dst <;> rfl
  · rw [← v.size]; cases o.dst <;> simp [Act.put]
  · intro i1 r1 hr1 he1
    rw [sBool_set hl]
    have : i1 ≠ i := fun h => by subst h; rw [hr] at hr1; cases hr1; rw [he] at he1; cases he1
    rw [if_neg this]
    exact v.cnt i1 r1 hr1 he1
  · unfold step1; rw [he]; simpa using hu
  · intro q H hq hH hw
    exact (v.mem q H hq hH (hw.back hl)).same s
  · intro q H Hj hq hH hHj hw
    exact v.keep q H Hj hq hH hHj (hw.back hl)

/-- An operation that turns memory. -/
theorem inv_turn (x : Ord ops ms) (S : Sound P G n ext orc sq ops ms env0 h1 ops.size RS HS) (v : Inv Z G n ops env0 RS HS h0 μ0 w0 ds l a w j μs) {i : Nat} {r : Rec} {o : Oper} (hl : i < l.size) (ho : ops[i]? = some o) (hr : RS[i]? = some r)
    (f : Fact P G n ext orc sq ops ms env0 RS HS i o r) (hno : sBool l i = false) (hall : ∀ e ∈ o.after.toList, Region.binds .any e = true → l.getD e.on false = true) (he : r.e = true) (hkj : r.k = j) {H H' : AH} (hH : HS[j]? = some H) (hH' : HS[j + 1]? = some H') {ν : Mu}
    {u : Value} (hu : VR ν r.v u) {w' : World} (hHR : HR Z G ν H' w') (hle : (μs j).le ν) (hnx : H.next ≤ H'.next) (hold : ∀ i, (i < H.next ∨ 16777216 ≤ i) → ν i = μs j i) (hfr0 : FR h0 μ0 w0 H' ν w') (hcase : (Same w w' ∧ r.fw = false) ∨ r.wr = true ∨ (r.fw = true ∧ r.lq ≤ j ∧ ∃ H0, HS[r.lq]? = some H0 ∧ HR Z G (μs j) H w ∧ FR (H.from H0.next) (μs j) w { H' with lock := H0.next } ν w'))
    (hkeep : r.wr = false → r.fw = false → ∀ i, (i < H.next ∨ 16777216 ≤ i) → H'.get i = H.get i) :
    Inv Z G n ops env0 RS HS h0 μ0 w0 ds (l.setIfInBounds i true) (a.put o.dst u) w' (j + 1) (fun q => if q = j + 1 then ν else μs q) := by
  have hμ : ∀ q, q ≤ j → (fun q => if q = j + 1 then ν else μs q) q = μs q := fun q hq => if_neg (by omega)
  have hstep : step1 r = j + 1 := by unfold step1; rw [he, hkj]
  refine ⟨closed_set v hl ho hall, ?_, ?_, (List.getElem?_eq_some_iff.1 hH').1, ?_, ?_, ?_, ?_, tmps_put x S v hl ho hr hno f.dst hμ ?_, ?_, ?_, ?_, ?_, ?_⟩
  · rw [← v.defers]; cases o.dst <;> rfl
  · rw [← v.size]; cases o.dst <;> simp [Act.put]
  · intro i1 r1 hr1 he1
    rw [sBool_set hl]
    by_cases hii : i1 = i
    · subst hii
      rw [hr] at hr1; cases hr1
      simp; omega
    · rw [if_neg hii, v.cnt i1 r1 hr1 he1]
      have hne : r1.k ≠ j := by
        intro hk
        rcases Nat.lt_or_gt_of_ne hii with h | h
        · have := f.incr he i1 r1 h hr1 he1
          omega
        · obtain ⟨o1, ho1, f1⟩ := S.fact i1 r1 hr1
          have := f1.incr he1 i r h hr he
          omega
      omega
  · trivial
  · intro q q' hq hq'
    by_cases h1 : q' = j + 1
    · rw [if_pos h1]
      by_cases h2 : q = j + 1
      · rw [if_pos h2]; exact Mu.le_refl _
      · rw [if_neg h2]
        exact Mu.le_trans (v.mono q j (by omega) (Nat.le_refl _)) hle
    · rw [if_neg h1, if_neg (by omega)]
      exact v.mono q q' hq (by omega)
  · intro q Hq hq hHq
    by_cases h1 : q = j + 1
    · rw [if_pos h1]
      subst h1
      rw [hH'] at hHq; cases hHq
      exact hHR.toH0
    · rw [if_neg h1]
      exact v.h0s q Hq (by omega) hHq
  · rw [hstep]
    simpa using hu
  · intro q Hq hq hHq hw
    by_cases h1 : q = j + 1
    · rw [if_pos h1]
      subst h1
      rw [hH'] at hHq; cases hHq
      exact hHR
    · rw [if_neg h1]
      have hb := hw.back hl
      have hi := hw i r (by rw [sBool_set hl]; simp) hr
      rcases hcase with ⟨s, _⟩ | hwr | ⟨hfw, hlj, H0, hH0, hHw, hF⟩
      · exact (v.mem q Hq (by omega) hHq hb).same s
      · exfalso
        have := hi.1 hwr
        omega
      · have hql : q ≤ r.lq := by
          rcases hi.2 hfw with h | h
          · omega
          · exact h
        refine (v.mem q Hq (by omega) hHq hb).congr ?_
        intro i0 l0 hg hl0
        have hnx2 := v.nexts q r.lq Hq H0 hql hlj hHq hH0
        have hq2 : q ≤ j := by omega
        have hin := AH.get_in hg
        have hkp := v.keep q Hq H hq2 hHq hH hb i0 hin
        have hmu : μs j i0 = some l0 := v.mono q j hq2 (Nat.le_refl _) _ _ hl0
        have hlt : l0.b < w.heap.size := by
          cases hgg : Hq.get i0 with
          | none => exact absurd hgg hg
          | some bb =>
            obtain ⟨l1, hl1, hbr⟩ := (v.mem q Hq hq2 hHq hb).blk i0 bb hgg
            rw [hl0] at hl1; cases hl1
            exact hbr.lt
        refine hF.blk l0.b hlt ?_
        rintro ⟨i2, l2, hm2, hg2, hl2, hb2⟩
        have hown := AH.may_imp hm2
        have hlk : H0.next ≤ i2 := by
          unfold AH.may AH.from at hm2
          simp only [Bool.and_eq_true] at hm2
          exact ble_iff.1 hm2.1
        have hi64 := (AH.own_iff.1 hown).2
        have hne : i2 ≠ i0 := by
          intro he
          subst he
          rcases hin with h | h <;> omega
        exact hHw.inj i2 i0 l2 l0 hown hne hg2 (by rw [hkp]; exact hg) hl2 hmu hb2
  · intro q q' Hq Hq' h1 h2 hHq hHq'
    by_cases h3 : q' = j + 1
    · subst h3
      rw [hH'] at hHq'; cases hHq'
      by_cases h4 : q = j + 1
      · subst h4
        rw [hH'] at hHq; cases hHq
        exact Nat.le_refl _
      · exact Nat.le_trans (v.nexts q j Hq H (by omega) (Nat.le_refl _) hHq hH) hnx
    · exact v.nexts q q' Hq Hq' h1 (by omega) hHq hHq'
  · intro q Hq Hj hq hHq hHj hw i0 hi0
    rw [hH'] at hHj; cases hHj
    by_cases h1 : q = j + 1
    · subst h1
      rw [hH'] at hHq; cases hHq
      rfl
    · have hb := hw.back hl
      have hi := hw i r (by rw [sBool_set hl]; simp) hr
      have hq2 : q ≤ j := by omega
      have hkp := v.keep q Hq H hq2 hHq hH hb i0 hi0
      have hin : i0 < H.next ∨ 16777216 ≤ i0 := hi0.imp (fun h => Nat.lt_of_lt_of_le h (v.nexts q j Hq H hq2 (Nat.le_refl _) hHq hH)) id
      cases hwr : r.wr with
      | true => have := hi.1 hwr; omega
      | false =>
        cases hfw : r.fw with
        | false => rw [hkeep hwr hfw i0 hin]; exact hkp
        | true =>
          rcases hcase with ⟨_, hno2⟩ | hwr2 | ⟨_, hlj, H0, hH0, _, hF⟩
          · rw [hfw] at hno2; cases hno2
          · rw [hwr] at hwr2; cases hwr2
          · have hql : q ≤ r.lq := by
              rcases hi.2 hfw with h | h
              · omega
              · exact h
            have hnx2 := v.nexts q r.lq Hq H0 hql hlj hHq hH0
            have := hF.keep i0 hin (by
              unfold AH.may AH.from AH.own
              rcases hi0 with h | h
              · have : Nat.ble H0.next i0 = false := by
                  cases hn : Nat.ble H0.next i0 with
                  | false => rfl
                  | true => have := ble_iff.1 hn; omega
                simp only [this, Bool.false_and]
              · simp only [blt_no (show ¬ i0 < 16777216 by omega), Bool.and_false])
            exact this.trans hkp
  · intro q Hq hq hHq i0 hi0
    rw [if_pos rfl]
    by_cases h1 : q = j + 1
    · rw [if_pos h1]
    · rw [if_neg h1]
      exact (hold i0 (hi0.imp (fun h => Nat.lt_of_lt_of_le h (v.nexts q j Hq H (by omega) (Nat.le_refl _) hHq hH)) id)).trans (v.oldm q Hq (by omega) hHq i0 hi0)
  · intro Hq hHq
    rw [hH'] at hHq; cases hHq
    simp only [if_true]
    exact hfr0


/-- Another number for a new block that the statement does not look at. -/
def upd (μ : Mu) (s : Nat) (c : Loc) : Mu := fun i => if i = s then some c else μ i
theorem upd_le {μ : Mu} {s : Nat} {c : Loc} (h : μ s = none) : μ.le (upd μ s c) := by
  intro i l hl
  unfold upd
  rw [if_neg (fun he => by rw [he, h] at hl; cases hl)]
  exact hl
theorem upd_self {μ : Mu} {s : Nat} {c : Loc} : upd μ s c s = some c := by unfold upd; rw [if_pos rfl]
theorem upd_ne {μ : Mu} {s i : Nat} {c : Loc} (h : i ≠ s) : upd μ s c i = μ i := by unfold upd; rw [if_neg h]

theorem H0.upd {μ : Mu} {h : AH} {s : Nat} {c : Loc} (x : H0 G μ h) (hs : s < h.next) (hn : μ s = none) : H0 G (upd μ s c) h :=
  ⟨x.nxt, x.imp, fun i hi hi2 => by rw [upd_ne (by omega)]; exact x.fresh i hi hi2, fun g hg => by
    obtain ⟨l, h1, h2⟩ := x.glob g hg
    exact ⟨l, upd_le hn _ _ h1, h2⟩⟩

theorem HR.upd {μ : Mu} {h : AH} {w : World} {s : Nat} {c : Loc} (x : HR Z G μ h w) (hs : s < h.next) (hn : μ s = none) : HR Z G (upd μ s c) h w := by
  have hg : ∀ i, h.get i ≠ none → i ≠ s := by
    intro i hi he
    subst he
    cases hb : h.get i with
    | none => exact hi hb
    | some b =>
      obtain ⟨l, hl, _⟩ := x.blk i b hb
      rw [hn] at hl; cases hl
  refine ⟨x.fits, x.nxt, x.imp, ?_, ?_, ?_, ?_, x.std⟩
  · intro i hi hi2
    rw [upd_ne (by omega)]
    exact x.fresh i hi hi2
  · intro g hgl
    obtain ⟨l, h1, h2⟩ := x.glob g hgl
    exact ⟨l, upd_le hn _ _ h1, h2⟩
  · intro i b hi
    obtain ⟨l, h1, h2⟩ := x.blk i b hi
    exact ⟨l, upd_le hn _ _ h1, h2.mono (upd_le hn)⟩
  · intro i j li lj h1 h2 h3 h4 h5 h6
    rw [upd_ne (hg i h3)] at h5
    rw [upd_ne (hg j h4)] at h6
    exact x.inj i j li lj h1 h2 h3 h4 h5 h6

theorem FR.upd {h h' : AH} {μ μ' : Mu} {w w' : World} {s : Nat} {c : Loc} (f : FR h μ w h' μ' w') (hs : h.next ≤ s) (hs2 : s < 16777216) (hn : μ' s = none) (x : HR Z G μ' h' w') : FR h μ w h' (upd μ' s c) w' := by
  refine ⟨Mu.le_trans f.le (upd_le hn), f.os, f.tape, f.output, f.size, f.lock, f.imp, f.next, fun i hi => by rw [upd_ne (by omega)]; exact f.old i hi, f.sub, ?_, f.blk, f.keep⟩
  rintro b ⟨i, l, h1, h2, h3, h4⟩ hlt
  have : i ≠ s := by
    intro he
    subst he
    cases hb : h'.get i with
    | none => exact h2 hb
    | some b =>
      obtain ⟨l, hl, _⟩ := x.blk i b hb
      rw [hn] at hl; cases hl
  rw [upd_ne this] at h3
  exact f.wr b ⟨i, l, h1, h2, h3, h4⟩ hlt

/-- The newest memory is always there. -/
theorem Inv.top_ok (S : Sound P G n ext orc sq ops ms env0 h1 ops.size RS HS) (v : Inv Z G n ops env0 RS HS h0 μ0 w0 ds l a w j μs) : Valid RS l j := by
  intro i r hs hr1
  obtain ⟨o, ho, f⟩ := S.fact i r hr1
  have he1 : r.wr = true ∨ r.fw = true → r.e = true := by
    intro hw1
    cases f.kind with
    | off _ _ _ hw _ hf => rw [hw, hf] at hw1; rcases hw1 with h | h <;> cases h
    | side _ _ _ _ _ _ _ _ _ hw _ hf => rw [hw, hf] at hw1; rcases hw1 with h | h <;> cases h
    | alike _ _ _ _ _ _ hw _ hf => rw [hw, hf] at hw1; rcases hw1 with h | h <;> cases h
    | free _ _ _ _ _ hw _ hf => rw [hw, hf] at hw1; rcases hw1 with h | h <;> cases h
    | keep _ _ _ _ _ hw _ hf => rw [hw, hf] at hw1; rcases hw1 with h | h <;> cases h
    | grow _ _ _ _ _ _ h => exact h
    | seen _ _ _ _ _ _ _ _ h => exact h
    | enter _ _ _ _ _ _ _ _ h => exact h
    | write _ _ _ _ _ _ h => exact h
    | fresh _ _ _ _ _ _ _ _ _ _ h => exact h
  exact ⟨fun h => (v.cnt i r hr1 (he1 (.inl h))).1 hs, fun h => .inl ((v.cnt i r hr1 (he1 (.inr h))).1 hs)⟩

theorem Inv.hr (S : Sound P G n ext orc sq ops ms env0 h1 ops.size RS HS) (v : Inv Z G n ops env0 RS HS h0 μ0 w0 ds l a w j μs) {H : AH} (hH : HS[j]? = some H) : HR Z G (μs j) H w := v.mem j H (Nat.le_refl _) hH (v.top_ok S)

theorem Inv.upd (x : Ord ops ms) (S : Sound P G n ext orc sq ops ms env0 h1 ops.size RS HS) (v : Inv Z G n ops env0 RS HS h0 μ0 w0 ds l a w j μs) {s : Nat} {c : Loc} (hn : ∀ q, q ≤ j → μs q s = none)
    (hs : ∀ q H, q ≤ j → HS[q]? = some H → s < H.next) (h0s : h0.next ≤ s) : Inv Z G n ops env0 RS HS h0 μ0 w0 ds l a w j (fun q => V.upd (μs q) s c) := by
  obtain ⟨Hj, hHj⟩ : ∃ H, HS[j]? = some H := ⟨HS[j]'v.top, List.getElem?_eq_getElem _⟩
  have hs2 : s < 16777216 := Nat.lt_of_lt_of_le (hs j Hj (Nat.le_refl _) hHj) (v.hr S hHj).nxt
  refine ⟨v.closed, v.defers, v.size, v.top, v.cnt, trivial, ?_, ?_, ?_, ?_, v.nexts, v.keep, ?_, ?_⟩
  · intro q q' hq hq' i l hl
    simp only [V.upd] at hl ⊢
    split at hl
    · rename_i he; rw [if_pos he]; exact hl
    · rename_i he; rw [if_neg he]; exact v.mono q q' hq hq' i l hl
  · intro q H hq hH
    exact (v.h0s q H hq hH).upd (hs q H hq hH) (hn q hq)
  · intro t ht
    rcases v.tmps t ht with ⟨i2, r2, t1, t2, t3, t4, t5⟩ | ⟨t1, t2⟩
    · exact .inl ⟨i2, r2, t1, t2, t3, t4, t5.mono (upd_le (hn _ (step_le x S v t1 t2)))⟩
    · exact .inr ⟨t1, fun u hu => (t2 u hu).mono (upd_le (hn 0 (Nat.zero_le _)))⟩
  · intro q H hq hH hw
    exact (v.mem q H hq hH hw).upd (hs q H hq hH) (hn q hq)
  · intro q H hq hH i hi
    simp only [V.upd]
    rw [v.oldm q H hq hH i hi]
  · intro H hH
    exact (v.fr H hH).upd h0s hs2 (hn j (Nat.le_refl _)) (v.hr S hH)

/-- No operation carried out so far has entered the block of operation i1 for good. -/
def Live (ms : List Nat) (RS : List Rec) (l : Array Bool) (i1 : Nat) : Prop := ∀ (ie : Nat) (re : Rec), RS[ie]? = some re → enR re = true → sBool l ie = true → ¬ Bef ms ie i1
theorem Live.back {i i1 : Nat} (hl : i < l.size) (h : Live ms RS (l.setIfInBounds i true) i1) : Live ms RS l i1 := by
  intro ie re h1 h2 h3
  refine h ie re h1 h2 ?_
  rw [sBool_set hl]; split
  · rfl
  · exact h3

/-- What is known of the new blocks that the statement does not look at. -/
structure Sd (sq : Option Nat) (ms : List Nat) (RS : List Rec) (HS : List AH) (w0 : World) (l : Array Bool) (w : World) (j : Nat) (μs : Nat → Mu) : Prop where
  todo : ∀ (i : Nat) (r : Rec) (b : Blk) (s : Nat), sq = some s → RS[i]? = some r → r.sd = some b → sBool l i = false → ∀ q, q ≤ j → μs q (s + i) = none
  done : ∀ (i : Nat) (r : Rec) (b : Blk) (s : Nat), sq = some s → RS[i]? = some r → r.sd = some b → sBool l i = true → Live ms RS l i → ∃ c, μs j (s + i) = some c ∧ w0.heap.size ≤ c.b ∧ BR (μs j) true b c w ∧
    ∀ H i' c', HS[j]? = some H → H.get i' ≠ none → μs j i' = some c' → c'.b ≠ c.b
  apart : ∀ (i i' : Nat) (r r' : Rec) (b b' : Blk) (s : Nat) (c c' : Loc), sq = some s → RS[i]? = some r → RS[i']? = some r' → r.sd = some b → r'.sd = some b' → sBool l i = true → sBool l i' = true → Live ms RS l i → Live ms RS l i' → i ≠ i' → μs j (s + i) = some c → μs j (s + i') = some c' → c.b ≠ c'.b

theorem Sd.keep (d : Sd sq ms RS HS w0 l w j μs) {i : Nat} {r : Rec} (hl : i < l.size) (hr : RS[i]? = some r) (hsd : r.sd = none) {w' : World} (s : Same w w') : Sd sq ms RS HS w0 (l.setIfInBounds i true) w' j μs := by
  have hb : ∀ (i1 : Nat) (r1 : Rec) (b : Blk), RS[i1]? = some r1 → r1.sd = some b → sBool (l.setIfInBounds i true) i1 = sBool l i1 := by
    intro i1 r1 b hr1 hs1
    rw [sBool_set hl, if_neg (fun he => by subst he; rw [hr] at hr1; cases hr1; rw [hsd] at hs1; cases hs1)]
  refine ⟨?_, ?_, ?_⟩
  · intro i1 r1 b N hN hr1 hs1 hb1
    rw [hb i1 r1 b hr1 hs1] at hb1
    exact d.todo i1 r1 b N hN hr1 hs1 hb1
  · intro i1 r1 b N hN hr1 hs1 hb1 hv
    rw [hb i1 r1 b hr1 hs1] at hb1
    obtain ⟨c, h1, h2, h3, h4⟩ := d.done i1 r1 b N hN hr1 hs1 hb1 (hv.back hl)
    exact ⟨c, h1, h2, h3.congr (s.blk _ h3.lt), h4⟩
  · intro i1 i2 r1 r2 b1 b2 N c c' hN hr1 hr2 hs1 hs2 hb1 hb2 hv1 hv2
    rw [hb i1 r1 b1 hr1 hs1] at hb1
    rw [hb i2 r2 b2 hr2 hs2] at hb2
    exact d.apart i1 i2 r1 r2 b1 b2 N c c' hN hr1 hr2 hs1 hs2 hb1 hb2 (hv1.back hl) (hv2.back hl)

theorem Sd.turnA (d : Sd sq ms RS HS w0 l w j μs) {i : Nat} {r : Rec} (hl : i < l.size) (hr : RS[i]? = some r) (hsd : r.sd = none) {H H' : AH} (hH' : HS[j + 1]? = some H') {ν : Mu} {w' : World}
    (hHR : HR Z G ν H' w') (hfr : FR H (μs j) w H' ν w') (himp : H.imp ≤ H.next) (hlk : ∀ (s i : Nat) (r : Rec) (b : Blk), sq = some s → RS[i]? = some r → r.sd = some b → H.lock ≤ H.next) (hN : ∀ s i r b, sq = some s → RS[i]? = some r → r.sd = some b → s + i < H.next)
    (hfar : ∀ (i1 : Nat) (r1 : Rec) (b : Blk) (s : Nat) (c : Loc), sq = some s → RS[i1]? = some r1 → r1.sd = some b → sBool l i1 = true → Live ms RS (l.setIfInBounds i true) i1 → μs j (s + i1) = some c → ∀ i' c', H.get i' ≠ none → μs j i' = some c' → c'.b ≠ c.b) :
    Sd sq ms RS HS w0 (l.setIfInBounds i true) w' (j + 1) (fun q => if q = j + 1 then ν else μs q) := by
  have hb : ∀ (i1 : Nat) (r1 : Rec) (b : Blk), RS[i1]? = some r1 → r1.sd = some b → sBool (l.setIfInBounds i true) i1 = sBool l i1 := by
    intro i1 r1 b hr1 hs1
    rw [sBool_set hl, if_neg (fun he => by subst he; rw [hr] at hr1; cases hr1; rw [hsd] at hs1; cases hs1)]
  refine ⟨?_, ?_, ?_⟩
  · intro i1 r1 b N hN1 hr1 hs1 hb1 q hq
    rw [hb i1 r1 b hr1 hs1] at hb1
    have h1 := d.todo i1 r1 b N hN1 hr1 hs1 hb1
    by_cases he : q = j + 1
    · simp only [if_pos he]
      rw [hfr.old _ (.inl (hN N i1 r1 b hN1 hr1 hs1))]
      exact h1 j (Nat.le_refl _)
    · simp only [if_neg he]
      exact h1 q (by omega)
  · intro i1 r1 b N hN1 hr1 hs1 hb1 hv
    rw [hb i1 r1 b hr1 hs1] at hb1
    obtain ⟨c, h1, h2, h3, _⟩ := d.done i1 r1 b N hN1 hr1 hs1 hb1 (hv.back hl)
    have h4 := hfar i1 r1 b N c hN1 hr1 hs1 hb1 hv h1
    have hnw : ¬ Wr H (μs j) c.b := by
      rintro ⟨i2, l2, _, g1, g2, g3⟩
      exact h4 i2 l2 g1 g2 g3
    refine ⟨c, ?_, h2, ?_, ?_⟩
    · simp only [if_true]
      exact hfr.le _ _ h1
    · simp only [if_true]
      exact (h3.mono hfr.le).congr (hfr.blk _ h3.lt hnw)
    · intro H2 i' c' hH2 hg hc'
      rw [hH'] at hH2; cases hH2
      simp only [if_true] at hc'
      by_cases hi : i' < H.next ∨ 16777216 ≤ i'
      · rw [hfr.old i' hi] at hc'
        exact h4 i' c' (hfr.sub i' hi hg) hc'
      · intro he
        refine hnw (hfr.wr c.b ⟨i', c', ?_, hg, hc', he⟩ h3.lt)
        unfold AH.may
        simp only [Bool.and_eq_true]
        have e1 : H'.lock = H.lock := hfr.lock
        have hlk := hlk N i1 r1 b hN1 hr1 hs1
        have e2 := hHR.imp
        have e3 : H'.imp = H.imp := hfr.imp
        refine ⟨ble_iff.2 (by omega), AH.own_iff.2 ⟨?_, by omega⟩⟩
        rcases AH.get_in hg with h | h
        · omega
        · omega
  · intro i1 i2 r1 r2 b1 b2 N c c' hN1 hr1 hr2 hs1 hs2 hb1 hb2 hv1 hv2 hne hc hc'
    rw [hb i1 r1 b1 hr1 hs1] at hb1
    rw [hb i2 r2 b2 hr2 hs2] at hb2
    simp only [if_true] at hc hc'
    rw [hfr.old _ (.inl (hN N i1 r1 b1 hN1 hr1 hs1))] at hc
    rw [hfr.old _ (.inl (hN N i2 r2 b2 hN1 hr2 hs2))] at hc'
    exact d.apart i1 i2 r1 r2 b1 b2 N c c' hN1 hr1 hr2 hs1 hs2 hb1 hb2 (hv1.back hl) (hv2.back hl) hne hc hc'

theorem Sd.turn (d : Sd sq ms RS HS w0 l w j μs) {i : Nat} {r : Rec} (hl : i < l.size) (hr : RS[i]? = some r) (hsd : r.sd = none) {H H' : AH} (hH : HS[j]? = some H) (hH' : HS[j + 1]? = some H') {ν : Mu} {w' : World}
    (hHR : HR Z G ν H' w') (hfr : FR H (μs j) w H' ν w') (himp : H.imp ≤ H.next) (hlk : ∀ (s i : Nat) (r : Rec) (b : Blk), sq = some s → RS[i]? = some r → r.sd = some b → H.lock ≤ H.next) (hN : ∀ s i r b, sq = some s → RS[i]? = some r → r.sd = some b → s + i < H.next) :
    Sd sq ms RS HS w0 (l.setIfInBounds i true) w' (j + 1) (fun q => if q = j + 1 then ν else μs q) :=
  d.turnA hl hr hsd hH' hHR hfr himp hlk hN fun i1 r1 b s c hs hr1 hs1 hb1 hv hc i' c' hg hc' => by
    obtain ⟨c2, g1, _, _, g4⟩ := d.done i1 r1 b s hs hr1 hs1 hb1 (hv.back hl)
    rw [hc] at g1; cases g1
    exact g4 H i' c' hH hg hc'

theorem Sd.side (d : Sd sq ms RS HS w0 l w j μs) {i : Nat} {r : Rec} {b : Blk} {s : Nat} (hsq : sq = some s) (hl : i < l.size) (hr : RS[i]? = some r) (hsd : r.sd = some b) (hno : sBool l i = false) {H : AH} (hH : HS[j]? = some H)
    (hHR : HR Z G (μs j) H w) (hsz : w0.heap.size ≤ w.heap.size) {c : Loc} (hc : c.b = w.heap.size) {w' : World} (sm : Same w w') (hbr : BR (V.upd (μs j) (s + i) c) true b c w') :
    Sd sq ms RS HS w0 (l.setIfInBounds i true) w' j (fun q => V.upd (μs q) (s + i) c) := by
  have hnone := d.todo i r b s hsq hr hsd hno
  have hlt : ∀ i' c', H.get i' ≠ none → μs j i' = some c' → c'.b < w.heap.size := by
    intro i' c' hg hc'
    cases hb : H.get i' with
    | none => exact absurd hb hg
    | some bb =>
      obtain ⟨l', h1, h2⟩ := hHR.blk i' bb hb
      rw [hc'] at h1; cases h1
      exact h2.lt
  have hself : ∀ i', H.get i' ≠ none → i' ≠ s + i := by
    intro i' hg he
    cases hb : H.get i' with
    | none => exact hg hb
    | some bb =>
      obtain ⟨l', h1, h2⟩ := hHR.blk i' bb hb
      rw [he, hnone j (Nat.le_refl _)] at h1; cases h1
  refine ⟨?_, ?_, ?_⟩
  · intro i1 r1 b1 N hN hr1 hs1 hb1 q hq
    rw [hsq] at hN; cases hN
    rw [sBool_set hl] at hb1
    split at hb1
    · cases hb1
    · rename_i hne
      rw [upd_ne (by omega)]
      exact d.todo i1 r1 b1 s hsq hr1 hs1 hb1 q hq
  · intro i1 r1 b1 N hN hr1 hs1 hb1 hv
    rw [hsq] at hN; cases hN
    by_cases he : i1 = i
    · subst he
      rw [hr] at hr1; cases hr1
      rw [hsd] at hs1; cases hs1
      refine ⟨c, upd_self, by omega, hbr, ?_⟩
      intro H2 i' c' hH2 hg hc'
      rw [hH] at hH2; cases hH2
      rw [upd_ne (hself i' hg)] at hc'
      have := hlt i' c' hg hc'
      omega
    · rw [sBool_set hl, if_neg he] at hb1
      obtain ⟨c1, h1, h2, h3, h4⟩ := d.done i1 r1 b1 s hsq hr1 hs1 hb1 (hv.back hl)
      refine ⟨c1, by rw [upd_ne (by omega)]; exact h1, h2, (h3.mono (upd_le (hnone j (Nat.le_refl _)))).congr (sm.blk _ h3.lt), ?_⟩
      intro H2 i' c' hH2 hg hc'
      rw [hH] at hH2; cases hH2
      rw [upd_ne (hself i' hg)] at hc'
      exact h4 H i' c' hH hg hc'
  · intro i1 i2 r1 r2 b1 b2 N c1 c2 hN hr1 hr2 hs1 hs2 hb1 hb2 hv1 hv2 hne h1 h2
    rw [hsq] at hN; cases hN
    by_cases e1 : i1 = i
    · subst e1
      rw [upd_self] at h1; cases h1
      rw [upd_ne (by omega)] at h2
      rw [sBool_set hl, if_neg (fun h => hne h.symm)] at hb2
      obtain ⟨c3, g1, _, g3, _⟩ := d.done i2 r2 b2 s hsq hr2 hs2 hb2 (hv2.back hl)
      rw [g1] at h2; cases h2
      have := g3.lt
      omega
    · rw [upd_ne (by omega)] at h1
      rw [sBool_set hl, if_neg e1] at hb1
      by_cases e2 : i2 = i
      · subst e2
        rw [upd_self] at h2; cases h2
        obtain ⟨c3, g1, _, g3, _⟩ := d.done i1 r1 b1 s hsq hr1 hs1 hb1 (hv1.back hl)
        rw [g1] at h1; cases h1
        have := g3.lt
        omega
      · rw [upd_ne (by omega)] at h2
        rw [sBool_set hl, if_neg e2] at hb2
        exact d.apart i1 i2 r1 r2 b1 b2 s c1 c2 hsq hr1 hr2 hs1 hs2 hb1 hb2 (hv1.back hl) (hv2.back hl) hne h1 h2

/-- A block is entered that stands in memory already. -/
theorem HR.enter {μ : Mu} {h : AH} {w : World} (x : HR Z G μ h w) {s : Nat} {b : Blk} {c : Loc} (h1 : s < h.next) (h2 : h.imp ≤ s) (h3 : μ s = some c) (h4 : BR μ true b c w) (h5 : ∀ i c', h.get i ≠ none → μ i = some c' → c'.b ≠ c.b) : HR Z G μ (h.put s (some b)) w := by
  have hget := AH.get_put x h1 (some b)
  refine ⟨T.fits_set 24 _ _ _ x.fits, x.nxt, x.imp, x.fresh, x.glob, ?_, ?_, ?_⟩
  · intro j bb hj
    rw [hget] at hj
    by_cases he : j = s
    · subst he
      rw [if_pos rfl] at hj
      cases hj
      refine ⟨c, h3, ?_⟩
      have : (h.put j (some b)).own j = true := AH.own_iff.2 ⟨h2, by have := x.nxt; omega⟩
      rw [this]; exact h4
    · rw [if_neg he] at hj
      exact x.blk j bb hj
  · intro i j li lj g1 g2 g3 g4 g5 g6
    rw [hget] at g3 g4
    by_cases e1 : i = s
    · subst e1
      rw [h3] at g5; cases g5
      rw [if_neg (fun h => g2 h.symm)] at g4
      exact fun h => h5 j lj g4 g6 h.symm
    · rw [if_neg e1] at g3
      by_cases e2 : j = s
      · subst e2
        rw [h3] at g6; cases g6
        exact h5 i li g3 g5
      · rw [if_neg e2] at g4
        exact x.inj i j li lj g1 g2 g3 g4 g5 g6
  · intro hf
    obtain ⟨s1, s2⟩ := x.std hf
    refine ⟨s1, fun i hi => ?_⟩
    have : h.imp ≤ s := h2
    rw [hget, if_neg (by omega)]
    exact s2 i hi

theorem FR.enter {h h' : AH} {μ μ' : Mu} {w w' : World} (f : FR h μ w h' μ' w') (x : HR Z G μ' h' w') {s : Nat} {b : Blk} {c : Loc} (h1 : s < h'.next) (h2 : h.next ≤ s) (h3 : μ' s = some c) (h4 : w.heap.size ≤ c.b) : FR h μ w (h'.put s (some b)) μ' w' := by
  have hget := AH.get_put x h1 (some b)
  have := x.nxt
  refine ⟨f.le, f.os, f.tape, f.output, f.size, f.lock, f.imp, f.next, f.old, ?_, ?_, f.blk, ?_⟩
  · intro i hi hg
    rw [hget, if_neg (by omega)] at hg
    exact f.sub i hi hg
  · rintro bb ⟨i, l, g1, g2, g3, g4⟩ hlt
    rw [hget] at g2
    by_cases he : i = s
    · subst he
      rw [h3] at g3; cases g3
      omega
    · rw [if_neg he] at g2
      exact f.wr bb ⟨i, l, g1, g2, g3, g4⟩ hlt
  · intro i hi hm
    rw [hget, if_neg (by omega)]
    exact f.keep i hi hm

theorem addS_ok {μ μ' : Mu} {h : AH} {w w' : World} : ∀ (L : List (Nat × Blk)) (h' : AH), HR Z G μ' h' w' → FR h μ w h' μ' w' →
    (∀ s b, (s, b) ∈ L → s < h'.next ∧ h.next ≤ s ∧ h'.imp ≤ s ∧ ∃ c, μ' s = some c ∧ w.heap.size ≤ c.b ∧ BR μ' true b c w' ∧ ∀ i c', h'.get i ≠ none → μ' i = some c' → c'.b ≠ c.b) →
    (L.Pairwise fun p q => ∀ c c', μ' p.1 = some c → μ' q.1 = some c' → c.b ≠ c'.b) →
    HR Z G μ' (addS L h') w' ∧ FR h μ w (addS L h') μ' w'
  | [], h', x, f, _, _ => ⟨x, f⟩
  | (s, b) :: L, h', x, f, hL, hp => by
    obtain ⟨g1, g2, g3, c, g4, g5, g6, g7⟩ := hL s b (by simp)
    rw [List.pairwise_cons] at hp
    have x' := x.enter g1 g3 g4 g6 g7
    refine addS_ok L (h'.put s (some b)) x' (f.enter x g1 g2 g4 g5) ?_ hp.2
    intro s2 b2 hm
    obtain ⟨k1, k2, k3, c2, k4, k5, k6, k7⟩ := hL s2 b2 (by simp [hm])
    refine ⟨k1, k2, k3, c2, k4, k5, k6, ?_⟩
    intro i c' hg hc'
    rw [AH.get_put x g1] at hg
    by_cases he : i = s
    · subst he
      rw [g4] at hc'; cases hc'
      exact hp.1 (s2, b2) hm c c2 g4 k4
    · rw [if_neg he] at hg
      exact k7 i c' hg hc'

theorem sides_mem {s : Nat} : ∀ (rs : List Rec) (k : Nat) (p : Nat × Blk), p ∈ sides s rs k → ∃ i r, rs[i]? = some r ∧ r.sd = some p.2 ∧ p.1 = s + (k + i)
  | [], _, p, hp => by simp [sides] at hp
  | r :: rs, k, p, hp => by
    simp only [sides] at hp
    have next : p ∈ sides s rs (k + 1) → ∃ i q, (r :: rs)[i]? = some q ∧ q.sd = some p.2 ∧ p.1 = s + (k + i) := by
      intro h
      obtain ⟨i, q, h1, h2, h3⟩ := sides_mem rs (k + 1) p h
      exact ⟨i + 1, q, by simpa using h1, h2, by omega⟩
    split at hp
    · rename_i b hb
      rcases List.mem_cons.1 hp with rfl | hp
      · exact ⟨0, r, rfl, hb, by simp⟩
      · exact next hp
    · exact next hp

theorem sides_pair {s : Nat} : ∀ (rs : List Rec) (k : Nat), (sides s rs k).Pairwise fun p q => p.1 ≠ q.1
  | [], _ => by simp [sides]
  | r :: rs, k => by
    simp only [sides]
    split
    · refine List.pairwise_cons.2 ⟨?_, sides_pair rs (k + 1)⟩
      intro q hq
      obtain ⟨i, _, _, _, h3⟩ := sides_mem rs (k + 1) q hq
      simp only
      omega
    · exact sides_pair rs (k + 1)

theorem clearS_ok : ∀ (c s : Nat) (t : T (Option Blk)), t.fits 24 → s + c ≤ 16777216 → (clearS s c t).fits 24 ∧ ∀ i, i < 16777216 → (clearS s c t).get i = if s ≤ i ∧ i < s + c then none else t.get i
  | 0, s, t, hf, _ => ⟨hf, fun i _ => by simp only [clearS]; rw [if_neg (by omega)]⟩
  | c + 1, s, t, hf, hs => by
    obtain ⟨h1, h2⟩ := clearS_ok c (s + 1) (T.set 24 t s none) (T.fits_set 24 _ _ _ hf) (by omega)
    refine ⟨h1, fun i hi => ?_⟩
    simp only [clearS]
    rw [h2 i hi, T.get_set 24 _ _ _ _ hf (by simp; omega) (by simp; omega)]
    by_cases he : i = s
    · subst he
      rw [if_neg (by omega), if_pos rfl, if_pos (by omega)]
    · rw [if_neg he]
      by_cases hc : s + 1 ≤ i ∧ i < s + 1 + c
      · rw [if_pos hc, if_pos (by omega)]
      · rw [if_neg hc, if_neg (by omega)]

theorem skip_ok {μ : Mu} {h : AH} {w : World} {c : Nat} (x : HR Z G μ h w) (hc : h.next + c ≤ 16777216) : HR Z G μ (h.skip c) w ∧ FR h μ w (h.skip c) μ w := by
  obtain ⟨hf, hg⟩ := clearS_ok c h.next h.t x.fits hc
  have hget : ∀ i, (h.skip c).get i = h.get i := by
    intro i
    by_cases hi : i < 16777216
    · unfold AH.get AH.skip
      simp only [blt_iff.2 hi]
      rw [hg i hi]
      by_cases h1 : i < h.next
      · rw [blt_iff.2 (show i < h.next + c by omega), blt_iff.2 h1, if_neg (by omega)]
      · rw [blt_no h1]
        cases hb : Nat.blt i (h.next + c) with
        | false => rfl
        | true => have := blt_iff.1 hb; simp only; rw [if_pos (by omega)]
    · rw [AH.get_old (by omega), AH.get_old (h := h) (by omega)]; rfl
  have himp := x.imp
  refine ⟨⟨hf, hc, by show h.imp ≤ h.next + c; omega, fun i hi hi2 => x.fresh i (by have : h.next + c ≤ i := hi; omega) hi2, x.glob, fun i b hi => x.blk i b (by rw [← hget]; exact hi), fun i j li lj h1 h2 h3 h4 => x.inj i j li lj h1 h2 (by rw [← hget]; exact h3) (by rw [← hget]; exact h4), fun hfl => ?_⟩,
    ⟨Mu.le_refl _, rfl, rfl, rfl, Nat.le_refl _, rfl, rfl, by show h.next ≤ h.next + c; omega, fun _ _ => rfl, fun i _ hi => by rw [← hget]; exact hi, ?_, fun _ _ _ => rfl, fun i _ _ => hget i⟩⟩
  · obtain ⟨s1, s2⟩ := x.std hfl
    exact ⟨s1, fun i hi => by rw [hget]; exact s2 i hi⟩
  · rintro b ⟨i, l, h1, h2, h3, h4⟩ _
    exact ⟨i, l, h1, by rw [← hget]; exact h2, h3, h4⟩

theorem skipF_ok {μ : Mu} {h h1 : AH} {c : Nat} (hs : skipF h sq c = some h1) : (∀ w, HR Z G μ h w → HR Z G μ h1 w ∧ FR h μ w h1 μ w) ∧ ∀ s, sq = some s → s < 16777216 → s = h.next ∧ h1.next = s + c ∧ h.lock ≤ h.next := by
  unfold skipF at hs
  split at hs
  · cases hs
    exact ⟨fun w x => ⟨x, FR.refl _ _ _⟩, fun s h => by cases h⟩
  · split at hs
    · split at hs
      · rename_i g1 g2 g3
        cases hs
        have e1 := beq_iff.1 g1
        refine ⟨fun w x => skip_ok x (ble_iff.1 g3), fun s h _ => ?_⟩
        cases h
        subst e1
        exact ⟨rfl, rfl, ble_iff.1 g2⟩
      · cases hs
    · rename_i g
      cases hs
      refine ⟨fun w x => ⟨x, FR.refl _ _ _⟩, fun s h hlt => ?_⟩
      cases h
      rw [blt_iff.2 hlt] at g; cases g

theorem Sound.lt65 (S : Sound P G n ext orc sq ops ms env0 h1 ops.size RS HS) {i : Nat} {r : Rec} {b : Blk} {s : Nat} (hs : sq = some s) (hr : RS[i]? = some r) (hb : r.sd = some b) : s < 16777216 := by
  obtain ⟨o, _, f⟩ := S.fact i r hr
  cases f.kind with
  | side _ _ _ _ hsq h65 => rw [hs] at hsq; cases hsq; exact h65
  | off _ _ _ _ _ _ hsd => rw [hb] at hsd; cases hsd
  | alike _ _ _ _ _ _ _ _ _ hsd => rw [hb] at hsd; cases hsd
  | free _ _ _ _ _ _ _ _ hsd => rw [hb] at hsd; cases hsd
  | keep _ _ _ _ _ _ _ _ hsd => rw [hb] at hsd; cases hsd
  | grow _ _ _ _ _ _ _ _ _ _ hsd => rw [hb] at hsd; cases hsd
  | seen _ _ _ _ _ _ _ _ _ _ _ _ hsd => rw [hb] at hsd; cases hsd
  | enter _ _ _ _ _ _ _ _ _ _ _ _ _ hsd => rw [hb] at hsd; cases hsd
  | write _ _ _ _ _ _ _ _ _ _ hsd => rw [hb] at hsd; cases hsd
  | fresh _ _ _ _ _ _ _ _ _ _ _ _ _ _ hsd => rw [hb] at hsd; cases hsd

theorem alikeAt_at {o : Oper} {env : T (Option Value)} {nx lim : Nat} {v : Value} : ∀ (hs : List AH) (q : Nat), alikeAt P G ext orc n o env nx v lim hs q = true → ∀ (t : Nat) (H : AH), hs[t]? = some H → q + t ≤ lim →
    ∃ u, opB P G ext orc n o env H.locked = some (u, none) ∧ keepV nx v u = true
  | [], _, _, t, H, ht, _ => by simp at ht
  | H0 :: hs, q, h, t, H, ht, hl => by
    simp only [alikeAt] at h
    rw [ble_iff.2 (show q ≤ lim by omega)] at h
    simp only at h
    split at h
    · rename_i u hop
      split at h
      · rename_i hk
        cases t with
        | zero => simp at ht; subst ht; exact ⟨u, hop, hk⟩
        | succ t => exact alikeAt_at hs (q + 1) h t H (by simpa using ht) (by omega)
      · cases h
    · cases h

theorem limR_ge {i top j : Nat} : ∀ (rs : List Rec) (j0 : Nat), (∀ (q : Nat) (r : Rec), rs[q]? = some r → r.e = true → Bef ms (j0 + q) i → j ≤ r.k) → j ≤ top → j ≤ limR ms i top rs j0
  | [], _, _, ht => ht
  | r :: rs, j0, h, ht => by
    have rest := limR_ge rs (j0 + 1) (fun q r' hr he hb => h (q + 1) r' (by simpa using hr) he (by rw [show j0 + (q + 1) = j0 + 1 + q from by omega]; exact hb)) ht
    simp only [limR]
    split
    · rename_i he hb
      exact h 0 r rfl he hb
    · exact rest

theorem alD_at {RS : List Rec} {HS : List AH} : ∀ (os : List Oper) (rs : List Rec) (i0 : Nat), alD P G ext orc n ms env0 RS HS i0 os rs = true → ∀ (q : Nat) (o : Oper) (r : Rec), os[q]? = some o → rs[q]? = some r → r.al = true →
    alikeAt P G ext orc n o (hideLater n (i0 + q) ms (os.drop (q + 1)) (i0 + q + 1) (envB n (ms.getD (i0 + q) 0) (RS.take (i0 + q)) 0 env0)) (nextAt HS r.k) r.v (limR ms (i0 + q) HS.length RS 0) (HS.drop r.k) r.k = true
  | [], _, _, _, q, o, r, ho, _, _ => by simp at ho
  | _ :: _, [], _, _, q, o, r, _, hr, _ => by simp at hr
  | o0 :: os, r0 :: rs, i0, h, q, o, r, ho, hr, ha => by
    simp only [alD, Bool.and_eq_true] at h
    cases q with
    | zero =>
      simp at ho hr
      subst ho hr
      have h1 := h.1
      rw [ha] at h1
      exact h1
    | succ q =>
      have := alD_at os rs (i0 + 1) h.2 q o r (by simpa using ho) (by simpa using hr) ha
      rw [show i0 + 1 + q = i0 + (q + 1) from by omega] at this
      simpa using this

/-! Blocks set apart, entered for one operation and taken out behind it. -/
theorem AH.get_putF {h : AH} (hf : h.t.fits 24) (hn : h.next ≤ 16777216) {i : Nat} (hi : i < h.next) (b : Option Blk) (j : Nat) : (h.put i b).get j = if j = i then b else h.get j := by
  by_cases hjo : j < 16777216
  · unfold AH.get AH.put
    simp only [blt_iff.2 hjo]
    by_cases hj : j < h.next
    · simp only [blt_iff.2 hj]
      rw [T.get_set 24 _ _ _ _ hf (by simp; omega) (by simp; omega)]
    · have : j ≠ i := by omega
      simp only [blt_no hj, if_neg this]
  · rw [AH.get_old (by omega), AH.get_old (h := h) (by omega), if_neg (by omega)]
    rfl

theorem addS_fields : ∀ (L : List (Nat × Blk)) (h : AH), (addS L h).next = h.next ∧ (addS L h).imp = h.imp
  | [], _ => ⟨rfl, rfl⟩
  | (s, b) :: L, h => addS_fields L (h.put s (some b))
theorem addS_lock : ∀ (L : List (Nat × Blk)) (h : AH), (addS L h).lock = h.lock
  | [], _ => rfl
  | (s, b) :: L, h => addS_lock L (h.put s (some b))
theorem remS_fields : ∀ (L : List (Nat × Blk)) (h : AH), (remS L h).next = h.next ∧ (remS L h).imp = h.imp
  | [], _ => ⟨rfl, rfl⟩
  | (s, _) :: L, h => remS_fields L (h.put s none)

theorem addS_get : ∀ (L : List (Nat × Blk)) (h : AH), h.t.fits 24 → h.next ≤ 16777216 → (∀ p ∈ L, p.1 < h.next) → ∀ i, (∀ p ∈ L, p.1 ≠ i) → (addS L h).get i = h.get i
  | [], _, _, _, _, _, _ => rfl
  | (s, b) :: L, h, hf, hn, hl, i, hi => by
    have h1 : s < h.next := hl (s, b) (by simp)
    show (addS L (h.put s (some b))).get i = _
    rw [addS_get L (h.put s (some b)) (T.fits_set 24 _ _ _ hf) hn (fun p hp => hl p (by simp [hp])) i (fun p hp => hi p (by simp [hp])), AH.get_putF hf hn h1, if_neg (fun he => hi (s, b) (by simp) he.symm)]

theorem remS_get : ∀ (L : List (Nat × Blk)) (h : AH), h.t.fits 24 → h.next ≤ 16777216 → (∀ p ∈ L, p.1 < h.next) → (∀ i, (∀ p ∈ L, p.1 ≠ i) → (remS L h).get i = h.get i) ∧ ∀ p ∈ L, (remS L h).get p.1 = none
  | [], _, _, _, _ => ⟨fun _ _ => rfl, fun p hp => by cases hp⟩
  | (s, b) :: L, h, hf, hn, hl => by
    have h1 : s < h.next := hl (s, b) (by simp)
    obtain ⟨g1, g2⟩ := remS_get L (h.put s none) (T.fits_set 24 _ _ _ hf) hn (fun p hp => hl p (by simp [hp]))
    refine ⟨fun i hi => ?_, fun p hp => ?_⟩
    · show (remS L (h.put s none)).get i = _
      rw [g1 i (fun p hp => hi p (by simp [hp])), AH.get_putF hf hn h1, if_neg (fun he => hi (s, b) (by simp) he.symm)]
    · show (remS L (h.put s none)).get p.1 = none
      by_cases hm : ∃ q ∈ L, q.1 = p.1
      · obtain ⟨q, hq, he⟩ := hm
        rw [← he]; exact g2 q hq
      · have he : p.1 = s := by
          rcases List.mem_cons.1 hp with rfl | hp
          · rfl
          · exact absurd ⟨p, hp, rfl⟩ hm
        rw [g1 p.1 (fun q hq he => hm ⟨q, hq, he⟩), AH.get_putF hf hn h1, if_pos he]

theorem HR.lose {μ : Mu} {h : AH} {w : World} (x : HR Z G μ h w) {s : Nat} (h1 : s < h.next) (h2 : h.imp ≤ s) : HR Z G μ (h.put s none) w := by
  have hget := AH.get_put x h1 none
  have hsub : ∀ j, (h.put s none).get j ≠ none → h.get j ≠ none := by
    intro j hj
    rw [hget] at hj
    split at hj
    · exact absurd rfl hj
    · exact hj
  refine ⟨T.fits_set 24 _ _ _ x.fits, x.nxt, x.imp, x.fresh, x.glob, ?_, fun i j li lj g1 g2 g3 g4 g5 g6 => x.inj i j li lj g1 g2 (hsub i g3) (hsub j g4) g5 g6, ?_⟩
  · intro j bb hj
    rw [hget] at hj
    split at hj
    · cases hj
    · exact x.blk j bb hj
  · intro hf
    obtain ⟨s1, s2⟩ := x.std hf
    refine ⟨s1, fun i hi => ?_⟩
    rw [hget, if_neg (by omega)]
    exact s2 i hi

theorem remS_HR {μ : Mu} {w : World} : ∀ (L : List (Nat × Blk)) (h : AH), HR Z G μ h w → (∀ p ∈ L, p.1 < h.next ∧ h.imp ≤ p.1) → HR Z G μ (remS L h) w
  | [], _, x, _ => x
  | (s, b) :: L, h, x, hl => by
    obtain ⟨h1, h2⟩ := hl (s, b) (by simp)
    exact remS_HR L (h.put s none) (x.lose h1 h2) (fun p hp => hl p (by simp [hp]))

theorem seen_back {μ ν : Mu} {H : AH} {L : List (Nat × Blk)} {ho : Option AH} {w w2 : World} (hx : HR Z G μ (addS L H) w) (hf0 : H.t.fits 24) (hn0 : H.next ≤ 16777216) (hL : ∀ p ∈ L, p.1 < H.next ∧ H.imp ≤ p.1 ∧ H.get p.1 = none)
    (hr2 : HR Z G ν (ho.getD (addS L H).locked) w2) (hf2 : FR (addS L H).locked μ w (ho.getD (addS L H).locked) ν w2) :
    HR Z G ν (seenH L H ho) w2 ∧ FR H μ w (seenH L H ho) ν w2 ∧ ∀ i, (i < H.next ∨ 16777216 ≤ i) → (seenH L H ho).get i = H.get i := by
  obtain ⟨a1, a2⟩ := addS_fields L H
  have hx3 := hx.imp
  unfold seenH
  generalize ho.getD (addS L H).locked = h' at hr2 hf2 ⊢
  have e1 : H.next ≤ h'.next := by have := hf2.next; rw [← a1]; exact this
  have e2 : h'.imp = H.imp := by have := hf2.imp; rw [← a2]; exact this
  have e3 : h'.lock = H.next := by have := hf2.lock; rw [← a1]; exact this
  obtain ⟨r1, r2⟩ := remS_get L h' hr2.fits hr2.nxt (fun p hp => by have := (hL p hp).1; omega)
  obtain ⟨r3, r4⟩ := remS_fields L h'
  have nx : ∀ i, (i < H.next ∨ 16777216 ≤ i) → (i < (addS L H).locked.next ∨ 16777216 ≤ i) := fun i hi => hi.imp (fun h => by show i < (addS L H).next; omega) id
  have hkeep : ∀ i, (i < H.next ∨ 16777216 ≤ i) → (remS L h').get i = H.get i := by
    intro i hi
    by_cases hs : ∃ p ∈ L, p.1 = i
    · obtain ⟨p, hp, rfl⟩ := hs
      rw [r2 p hp, (hL p hp).2.2]
    · have hs' : ∀ p ∈ L, p.1 ≠ i := fun p hp he => hs ⟨p, hp, he⟩
      rw [r1 i hs', hf2.keep i (nx i hi) (AH.locked_may (nx i hi))]
      exact addS_get L H hf0 hn0 (fun p hp => (hL p hp).1) i hs'
  have hR : HR Z G ν (remS L h') w2 := remS_HR L h' hr2 (fun p hp => by have := hL p hp; omega)
  refine ⟨hR.relock _, ⟨hf2.le, hf2.os, hf2.tape, hf2.output, hf2.size, rfl, ?_, ?_, fun i hi => hf2.old i (nx i hi), fun i hi hg => ?_, ?_, fun b hb _ => FR.locked_blk hf2 b hb, fun i hi _ => hkeep i hi⟩, hkeep⟩
  · show (remS L h').imp = _
    omega
  · show H.next ≤ (remS L h').next
    omega
  · have : (remS L h').get i ≠ none := hg
    rw [hkeep i hi] at this
    exact this
  · rintro b ⟨i, l, hm, hg, hl, rfl⟩ hlt
    have hg' : (remS L h').get i ≠ none := hg
    have himp : (remS L h').imp = H.imp := by omega
    by_cases hi : i < H.next ∨ 16777216 ≤ i
    · refine ⟨i, l, ?_, by rw [← hkeep i hi]; exact hg', by rw [← hf2.old i (nx i hi)]; exact hl, rfl⟩
      rw [← hm]
      exact (AH.may_of (h := H) (h' := { remS L h' with lock := H.lock }) rfl himp i).symm
    · exfalso
      have hi65 : i < 16777216 := by omega
      have hns : ∀ p ∈ L, p.1 ≠ i := fun p hp he => by have := (hL p hp).1; omega
      obtain ⟨i1, l1, m1, g1, _, _⟩ := hf2.wr l.b ⟨i, l, by
        unfold AH.may
        simp only [Bool.and_eq_true]
        exact ⟨ble_iff.2 (by omega), AH.own_iff.2 ⟨by omega, hi65⟩⟩, by rw [← r1 i hns]; exact hg', hl, rfl⟩ hlt
      have h1 : i1 < (addS L H).next := AH.may_lt (h := (addS L H).locked) m1 g1
      unfold AH.may AH.locked at m1
      simp only [Bool.and_eq_true] at m1
      have h2 : (addS L H).next ≤ i1 := ble_iff.1 m1.1
      omega

theorem drawB_ok (ro : Option Nat) (horc : OrcOK P Z G orc) (hext : ExtOK P ext) (hname : NoNum P) (hmix : P.follows .mixedOrders = true) {ops : Array Oper} {id : Nat} {Q : Exit → Act → World → Prop} {env : T (Option Value)} {h : AH} {env' : T (Option Value)} {h' : AH}
    (hb : DrawB P G ext sq orc n ops env h (env', h')) {μ : Mu} {a : Act} {w : World} (hr : HR Z G μ h w) (he : EnvOK μ n env a)
    (hq : ∀ μ' a' w', HR Z G μ' h' w' → EnvOK μ' n env' a' → FR h μ w h' μ' w' → a'.defers = a.defers → Q .normal a' w') : (Code.region id ops true).wpIn (Fr ro) 0 P Q a w := by
  obtain ⟨ms, h1, RS, HS, SD, hl, hms, hsk, hgo, hlast, hald, hb⟩ := hb
  obtain ⟨sk1, sk2⟩ := skipF_ok (Z := Z) (G := G) (μ := μ) hsk
  simp only [Prod.mk.injEq] at hb
  obtain ⟨rfl, rfl⟩ := hb
  have x := Ord.of hms
  have S2 : Sound P G n ext orc sq ops ms env h1 ops.size RS HS ∧ SideNow sq ms RS SD := by
    have := drawGo_ok x ops.toList 0 [] [h1] [] RS HS SD rfl (sound_start h1) side_start hgo
    simpa using this
  obtain ⟨S, hSD⟩ := S2
  have hszL : ops.toList.length = ops.size := by simp
  refine wpIn_region_any hmix ?_
  have hN : (Array.replicate ops.size false).size = ops.size := by simp
  have hS0 : ∀ i, sBool (Array.replicate ops.size false) i = false := by
    intro i
    unfold sBool
    by_cases hi : i < ops.size
    · simp [Array.getD_eq_getD_getElem?, hi]
    · simp [Array.getD_eq_getD_getElem?, hi]
  refine wpAny_inv ro x (Inv := fun l a' w' => ∃ j μs, Inv Z G n ops env RS HS h μ w.drew a.defers l a' w' j μs ∧ Sd sq ms RS HS w.drew l w' j μs) ?_ ?_ ops.size _ a _ hN ?_ ⟨0, fun _ => μ, ?_, ?_⟩
  · -- a step
    rintro l a1 w1 hl1 ⟨j, μs, v, d⟩ i hi
    obtain ⟨hi1, hi2, o, ho, hall⟩ := ready_iff.1 hi
    have hil : i < l.size := by omega
    have hno : sBool l i = false := by
      unfold sBool
      simpa [Array.getD_eq_getD_getElem?, hil] using hi2
    obtain ⟨r, hrr⟩ : ∃ r, RS[i]? = some r := ⟨RS[i]'(by rw [S.len]; exact hi1), List.getElem?_eq_getElem _⟩
    obtain ⟨o', ho', f⟩ := S.fact i r hrr
    rw [ho] at ho'; cases ho'
    have hup : ∀ q, Bef ms i q → sBool l q = true := by
      intro q hq'
      obtain ⟨e, he', hb', hj⟩ := x.dir i q o ho hq'
      have h1 := hall e he' hb'
      rcases hj with rfl | hj
      · exact h1
      · exact x.closed v.closed e.on q (by have := (x.edge i o e ho he' hb').1; omega) h1 hj
    have hkj := k_le v f hup
    have henv := env_of x S v he.le he.fits hi1 f hno hup
    unfold wpOpIn
    rw [ho]
    simp only
    -- memory at the operation's own place
    have eff : ∀ (i1 : Nat) (r1 : Rec), RS[i1]? = some r1 → r1.wr = true ∨ r1.fw = true → r1.e = true := by
      intro i1 r1 hr1 hw1
      obtain ⟨o1, ho1, f1⟩ := S.fact i1 r1 hr1
      cases f1.kind with
      | off _ _ _ hw _ hf => rw [hw, hf] at hw1; rcases hw1 with h | h <;> cases h
      | side _ _ _ _ _ _ _ _ _ hw _ hf => rw [hw, hf] at hw1; rcases hw1 with h | h <;> cases h
      | alike _ _ _ _ _ _ hw _ hf => rw [hw, hf] at hw1; rcases hw1 with h | h <;> cases h
      | free _ _ _ _ _ hw _ hf => rw [hw, hf] at hw1; rcases hw1 with h | h <;> cases h
      | keep _ _ _ _ _ hw _ hf => rw [hw, hf] at hw1; rcases hw1 with h | h <;> cases h
      | grow _ _ _ _ _ _ h => exact h
      | seen _ _ _ _ _ _ _ _ h => exact h
      | enter _ _ _ _ _ _ _ _ h => exact h
      | write _ _ _ _ _ _ h => exact h
      | fresh _ _ _ _ _ _ _ _ _ _ h => exact h
    have hval : r.free = false → Valid RS l r.k := by
      intro hfr i1 r1 hs1 hr1
      obtain ⟨o1, ho1, f1⟩ := S.fact i1 r1 hr1
      refine ⟨fun hw1 => ?_, fun hw1 => ?_⟩
      · have he1 := eff i1 r1 hr1 (.inl hw1)
        rcases Nat.lt_trichotomy i1 i with hlt | heq | hgt
        · exact (f.chain i1 r1 hlt hr1 he1).1 (f.wrote hfr i1 r1 hlt hr1 hw1)
        · rw [heq, hno] at hs1; cases hs1
        · exfalso
          have hb' := f1.looked hw1 i r hgt hrr hfr
          have := x.closed v.closed i1 i (Array.getElem?_eq_some_iff.1 ho1).1 hs1 hb'
          rw [hno] at this
          cases this
      · have he1 := eff i1 r1 hr1 (.inr hw1)
        rcases Nat.lt_trichotomy i1 i with hlt | heq | hgt
        · rcases f.wroteQ hfr i1 r1 hlt hr1 hw1 with h | h
          · exact .inl ((f.chain i1 r1 hlt hr1 he1).1 h)
          · exact .inr h
        · rw [heq, hno] at hs1; cases hs1
        · rcases f1.lookedQ hw1 i r hgt hrr hfr with hb' | hb'
          · exfalso
            have := x.closed v.closed i1 i (Array.getElem?_eq_some_iff.1 ho1).1 hs1 hb'
            rw [hno] at this
            cases this
          · exact .inr hb'
    have hmem : r.free = false → ∀ H, HS[r.k]? = some H → HR Z G (μs r.k) H w1 := fun hfr H hH => v.mem r.k H hkj hH (hval hfr)
    have same_mu : ∀ {H H2 : AH} {ν : Mu} {w2 : World}, H0 G (μs r.k) H → (∀ i, H.next ≤ i → i < 16777216 → ν i = none) → (∀ i, (i < H.next ∨ 16777216 ≤ i) → ν i = μs r.k i) → ν = μs r.k := by
      intro H H2 ν w2 hh hf ho
      funext q
      by_cases hq' : q < H.next ∨ 16777216 ≤ q
      · exact ho q hq'
      · rw [hf q (by omega) (by omega), hh.fresh q (by omega) (by omega)]
    have hHj : ∀ {H}, HS[j]? = some H → HR Z G (μs j) H w1 := fun hH => v.hr S hH
    have jk : r.e = true → r.k = j := by
      intro he1
      have : ¬ r.k < j := fun hlt => by
        have := (v.cnt i r hrr he1).2 hlt
        rw [hno] at this
        cases this
      omega
    have hnx : ∀ q H, q ≤ j → HS[q]? = some H → h1.next ≤ H.next := fun q H hq hH => v.nexts 0 q h1 H (Nat.zero_le _) hq S.head hH
    have hslot : ∀ s i1 (r1 : Rec) (b : Blk), sq = some s → RS[i1]? = some r1 → r1.sd = some b → ∀ q H, q ≤ j → HS[q]? = some H → s + i1 < H.next := by
      intro s i1 r1 b hs hr1 hb1 q H hq hH
      obtain ⟨_, k2, _⟩ := sk2 s hs (S.lt65 hs hr1 hb1)
      have := hnx q H hq hH
      have : i1 < RS.length := (List.getElem?_eq_some_iff.1 hr1).1
      rw [S.len] at this
      omega
    have hlow : ∀ (s i1 : Nat) (r1 : Rec) (b : Blk), sq = some s → RS[i1]? = some r1 → r1.sd = some b → ∀ H, HS[j]? = some H → H.lock ≤ H.next := by
      intro s i1 r1 b hs hr1 hb1 H hH
      obtain ⟨k1, k2, k3⟩ := sk2 s hs (S.lt65 hs hr1 hb1)
      have e1 := (v.fr H hH).lock
      have e2 := (v.fr H hH).next
      omega
    have hside : r.e = true → ∀ L, SideOf sq ms RS i L → ∀ p ∈ L, ∃ s i1 r1, sq = some s ∧ RS[i1]? = some r1 ∧ r1.sd = some p.2 ∧ p.1 = s + i1 ∧ sBool l i1 = true ∧ Live ms RS l i1 ∧ Bef ms i i1 := by
      intro he1 L hL p hp
      obtain ⟨s, i1, r1, g1, g2, g3, g4, g5, g6, g7⟩ := hL.2 p hp
      refine ⟨s, i1, r1, g1, g3, g4, g5, hup i1 g6, ?_, g6⟩
      intro ie re hre hen hse
      rcases Nat.lt_trichotomy ie i with hlt | heq | hgt
      · exact g7 ie re hlt hre hen
      · rw [heq, hno] at hse; cases hse
      · exfalso
        obtain ⟨oe, hoe, fe⟩ := S.fact ie re hre
        have hre1 : re.e = true := eff ie re hre (.inl (by unfold enR at hen; simp only [Bool.and_eq_true] at hen; exact hen.1))
        have h1 := fe.incr hre1 i r hgt hrr he1
        have h2 := (v.cnt ie re hre hre1).1 hse
        have h3 := jk he1
        omega
    cases f.kind with
    | off hw hv he1 hwr hfr hfw hsd =>
      rw [wanted_ok hw henv, if_neg (by simp)]
      exact ⟨fun _ _ => trivial, j, μs, inv_keep x S v hil ho hrr hno hall f.dst he1 (by rw [hv]; exact VR.of_pure rfl) ⟨rfl, rfl, rfl, Nat.le_refl _, fun _ _ => rfl⟩, d.keep hil hrr hsd ⟨rfl, rfl, rfl, Nat.le_refl _, fun _ _ => rfl⟩⟩
    | side hw s b kv hsq h65 hsb hv he1 hwr hfr hfw hsd =>
      rw [wanted_ok hw henv, if_pos rfl]
      obtain ⟨H, hH⟩ : ∃ H, HS[r.k]? = some H := ⟨HS[r.k]'(by have := v.top; omega), List.getElem?_eq_getElem _⟩
      obtain ⟨Hj, hHj⟩ : ∃ H, HS[j]? = some H := ⟨HS[j]'v.top, List.getElem?_eq_getElem _⟩
      refine sideB_ok ro (v.h0s r.k H hkj hH).glob henv hsb ?_
      rintro u w2 ⟨ob, m, e, rfl, hbr, hval⟩
      have hno2 := d.todo i r b s hsq hrr hsd hno
      have sm : Same w1 (w1.alloc ob) := ⟨rfl, rfl, rfl, by simp, fun b hb => by simp only [World.alloc, Array.getElem?_push]; rw [if_neg (by omega)]⟩
      obtain ⟨k1, _, _⟩ := sk2 s hsq h65
      refine ⟨j, _, inv_keep x S (v.upd x S hno2 (hslot s i r b hsq hrr hsd) (by omega) (c := ⟨w1.heap.size, 0, m, e⟩)) hil ho hrr hno hall f.dst he1 (by rw [hv]; exact hval _ _ upd_self) sm,
        d.side hsq hil hrr hsd hno hHj (v.hr S hHj) (v.fr Hj hHj).size rfl sm (hbr _ (Mu.le_trans (v.mono r.k j hkj (Nat.le_refl _)) (upd_le (hno2 j (Nat.le_refl _)))))⟩
    | alike hw hld H hH hop he1 hwr hfr hfw hsd hal =>
      rw [wanted_ok hw henv, if_pos rfl]
      obtain ⟨Hj, hHj'⟩ : ∃ H, HS[j]? = some H := ⟨HS[j]'v.top, List.getElem?_eq_getElem _⟩
      have hal2 := alD_at ops.toList RS 0 hald i o r (by simpa using ho) hrr hal
      rw [Nat.zero_add] at hal2
      obtain ⟨u0, hop2, hkeep⟩ := alikeAt_at _ _ hal2 (j - r.k) Hj (by rw [List.getElem?_drop, show r.k + (j - r.k) = j from by omega]; exact hHj') (by
        have : j ≤ limR ms i HS.length RS 0 := by
          refine limR_ge RS 0 ?_ (Nat.le_of_lt v.top)
          intro q r2 hr2 he2 hb2
          rw [Nat.zero_add] at hb2
          obtain ⟨o2, ho2, _⟩ := S.fact q r2 hr2
          have hnd : ¬ sBool l q = true := by
            intro hs2
            have := x.closed v.closed q i (Array.getElem?_eq_some_iff.1 ho2).1 hs2 hb2
            rw [hno] at this; cases this
          have := mt (v.cnt q r2 hr2 he2).2 hnd
          omega
        omega)
      have hnx2 : nextAt HS r.k = H.next := by unfold nextAt; rw [hH]
      rw [hnx2] at hkeep
      refine (opB_Fr ro (hHj hHj').locked (henv.mono (v.mono _ _ hkj (Nat.le_refl _))) horc hext hname hop2 ?_)
      rintro u w2 ⟨ν, hu, hr2, hf2⟩
      have hν : ν = μs j := by
        have hh := v.h0s j Hj (Nat.le_refl _) hHj'
        funext q
        by_cases hq' : q < Hj.next ∨ 16777216 ≤ q
        · exact hf2.old q hq'
        · have h1 : ν q = none := hr2.fresh q (by show Hj.next ≤ q; omega) (by omega)
          rw [h1, hh.fresh q (by omega) (by omega)]
      subst hν
      obtain ⟨hke, hk2⟩ := keepV_eq hkeep
      subst hke
      exact ⟨j, μs, inv_keep x S v hil ho hrr hno hall f.dst he1 (hk2 (μs r.k) (μs j) (fun i0 hi0 => v.oldm r.k H hkj hH i0 hi0) u hu) (FR.toSame hf2), d.keep hil hrr hsd (FR.toSame hf2)⟩
    | free hw H hH hop he1 hwr hfr hfw hsd =>
      rw [wanted_ok hw henv, if_pos rfl]
      have hh0 := v.h0s r.k H hkj hH
      refine (opB_Fr ro (hh0.bare w1) henv horc hext hname hop ?_)
      rintro u w2 ⟨ν, hu, hr2, hf2⟩
      have : ν = μs r.k := same_mu (H := H) (H2 := H) (w2 := w2) hh0 hr2.fresh hf2.old
      subst this
      exact ⟨j, μs, inv_keep x S v hil ho hrr hno hall f.dst he1 hu (FR.toSame (h := { H with t := .leaf none, old := fun _ => none, fl := false }) hf2), d.keep hil hrr hsd (FR.toSame (h := { H with t := .leaf none, old := fun _ => none, fl := false }) hf2)⟩
    | keep hw H hH hop he1 hwr hfr hfw hsd =>
      rw [wanted_ok hw henv, if_pos rfl]
      refine (opB_Fr ro (hmem hfr H hH).locked henv horc hext hname hop ?_)
      rintro u w2 ⟨ν, hu, hr2, hf2⟩
      have : ν = μs r.k := same_mu (H := H) (H2 := H) (w2 := w2) (v.h0s r.k H hkj hH) hr2.fresh hf2.old
      subst this
      exact ⟨j, μs, inv_keep x S v hil ho hrr hno hall f.dst he1 hu (FR.toSame hf2), d.keep hil hrr hsd (FR.toSame hf2)⟩
    | grow hw H h2 hH hop hH' he1 hwr hfr hfw hsd =>
      rw [wanted_ok hw henv, if_pos rfl]
      have hk := jk he1
      refine (opB_Fr ro (hmem hfr H hH).locked henv horc hext hname hop ?_)
      rintro u w2 ⟨ν, hu, hr2, hf2⟩
      rw [hk] at hH hH' hf2
      have hg := FR.unlock (hk ▸ hmem hfr H (hk ▸ hH)) hf2
      exact ⟨j + 1, _, inv_turn x S v hil ho hrr f hno hall he1 hk hH hH' hu (hr2.relock _) hg.le hg.next hg.old ((v.fr H hH).trans hg) (.inl ⟨FR.toSame hf2, hfw⟩) (fun _ _ i0 hi0 => hf2.keep i0 hi0 (AH.locked_may hi0)), d.turn hil hrr hsd hH hH' (hr2.relock _) (FR.unlock (hk ▸ hmem hfr H (hk ▸ hH)) hf2) (hHj hH).imp (fun s i1 r1 b hs hr1 hb => hlow s i1 r1 b hs hr1 hb H hH) (fun s i1 r1 b hs hr1 hb => hslot s i1 r1 b hs hr1 hb j H (Nat.le_refl _) hH)⟩
    | seen hw L hSide H ho' hH hop hH' he1 hwr hfr hfw hsd =>
      rw [wanted_ok hw henv, if_pos rfl]
      have hk := jk he1
      have henv' := henv
      rw [hk] at henv' hH hH'
      have hHw := v.hr S hH
      have hnxH := v.nexts 0 j h1 H (Nat.zero_le _) (Nat.le_refl _) S.head hH
      have himpH := (v.fr H hH).imp
      have himp2 := hr.imp
      have hL : ∀ p ∈ L, ∃ s i1 r1, sq = some s ∧ RS[i1]? = some r1 ∧ r1.sd = some p.2 ∧ p.1 = s + i1 ∧ sBool l i1 = true ∧ Live ms RS l i1 ∧ Bef ms i i1 := hside he1 L hSide
      have hadd := addS_ok L H hHw (v.fr H hH) (by
        intro s2 b hm
        obtain ⟨s, i1, r1, hsq, g1, g2, g3, g4, g5, _⟩ := hL _ hm
        simp only at g2 g3
        obtain ⟨k1, k2, k3⟩ := sk2 s hsq (S.lt65 hsq g1 g2)
        subst g3
        obtain ⟨c, c1, c2, c3, c4⟩ := d.done i1 r1 b s hsq g1 g2 g4 g5
        have : i1 < RS.length := (List.getElem?_eq_some_iff.1 g1).1
        rw [S.len] at this
        exact ⟨by omega, by omega, by omega, c, c1, c2, c3, fun i' c' => c4 H i' c' hH⟩) (by
        refine hSide.1.imp_of_mem ?_
        intro p q hp hq2 hne c c' hc hc'
        obtain ⟨s, i1, r1, hsq, g1, g2, g3, g4, g5, _⟩ := hL p hp
        obtain ⟨s', i1', r1', hsq', g1', g2', g3', g4', g5', _⟩ := hL q hq2
        rw [hsq] at hsq'; cases hsq'
        rw [g3] at hc
        rw [g3'] at hc'
        exact d.apart i1 i1' r1 r1' p.2 q.2 s c c' hsq g1 g1' g2 g2' g4 g4' g5 g5' (fun h => hne (by rw [g3, g3', h])) hc hc')
      refine (opB_Fr ro hadd.1.locked henv' horc hext hname hop ?_)
      rintro u w2 ⟨ν, hu, hr2, hf2⟩
      obtain ⟨b1, b2, b3⟩ := seen_back (ho := ho') hadd.1 hHw.fits hHw.nxt (by
        intro p hp
        obtain ⟨s, i1, r1, hsq, g1, g2, g3, g4, g5, _⟩ := hL p hp
        obtain ⟨k1, k2, k3⟩ := sk2 s hsq (S.lt65 hsq g1 g2)
        obtain ⟨c, c1, c2, c3, c4⟩ := d.done i1 r1 p.2 s hsq g1 g2 g4 g5
        have : i1 < RS.length := (List.getElem?_eq_some_iff.1 g1).1
        rw [S.len] at this
        refine ⟨by omega, by omega, ?_⟩
        cases hg : H.get p.1 with
        | none => rfl
        | some bb => exact absurd rfl (c4 H p.1 c hH (by rw [hg]; simp) (by rw [g3]; exact c1))) hr2 hf2
      exact ⟨j + 1, _, inv_turn x S v hil ho hrr f hno hall he1 hk hH hH' hu b1 b2.le b2.next b2.old ((v.fr H hH).trans b2) (.inl ⟨FR.toSame hf2, hfw⟩) (fun _ _ i0 hi0 => b3 i0 hi0), d.turn hil hrr hsd hH hH' b1 b2 (hHj hH).imp (fun s i1 r1 b hs hr1 hb => hlow s i1 r1 b hs hr1 hb H hH) (fun s i1 r1 b hs hr1 hb => hslot s i1 r1 b hs hr1 hb j H (Nat.le_refl _) hH)⟩
    | enter hw L hSide H ho' hH hop hH' he1 hwr hfr hfw hlq hsd =>
      rw [wanted_ok hw henv, if_pos rfl]
      have hk := jk he1
      have henv' := henv
      rw [hk] at henv' hH hH'
      have hHw := v.hr S hH
      have hnxH := v.nexts 0 j h1 H (Nat.zero_le _) (Nat.le_refl _) S.head hH
      have himpH := (v.fr H hH).imp
      have himp2 := hr.imp
      have hL : ∀ p ∈ L, ∃ s i1 r1, sq = some s ∧ RS[i1]? = some r1 ∧ r1.sd = some p.2 ∧ p.1 = s + i1 ∧ sBool l i1 = true ∧ Live ms RS l i1 ∧ Bef ms i i1 := hside he1 L hSide
      have hadd := addS_ok L H hHw (v.fr H hH) (by
        intro s2 b hm
        obtain ⟨s, i1, r1, hsq, g1, g2, g3, g4, g5, _⟩ := hL _ hm
        simp only at g2 g3
        obtain ⟨k1, k2, k3⟩ := sk2 s hsq (S.lt65 hsq g1 g2)
        subst g3
        obtain ⟨c, c1, c2, c3, c4⟩ := d.done i1 r1 b s hsq g1 g2 g4 g5
        have : i1 < RS.length := (List.getElem?_eq_some_iff.1 g1).1
        rw [S.len] at this
        exact ⟨by omega, by omega, by omega, c, c1, c2, c3, fun i' c' => c4 H i' c' hH⟩) (by
        refine hSide.1.imp_of_mem ?_
        intro p q hp hq2 hne c c' hc hc'
        obtain ⟨s, i1, r1, hsq, g1, g2, g3, g4, g5, _⟩ := hL p hp
        obtain ⟨s', i1', r1', hsq', g1', g2', g3', g4', g5', _⟩ := hL q hq2
        rw [hsq] at hsq'; cases hsq'
        rw [g3] at hc
        rw [g3'] at hc'
        exact d.apart i1 i1' r1 r1' p.2 q.2 s c c' hsq g1 g1' g2 g2' g4 g4' g5 g5' (fun h => hne (by rw [g3, g3', h])) hc hc')
      obtain ⟨a1, a2⟩ := addS_fields L H
      have a3 := addS_lock L H
      have hen : enR r = true := by unfold enR; rw [hwr, hlq]; rfl
      refine (opB_Fr ro hadd.1 henv' horc hext hname hop ?_)
      rintro u w2 ⟨ν, hu, hr2, hf2⟩
      refine ⟨j + 1, _, inv_turn x S v hil ho hrr f hno hall he1 hk hH hH' hu hr2 hf2.le (a1 ▸ hf2.next) (fun i0 hi0 => hf2.old i0 (by rw [a1]; exact hi0)) (hadd.2.trans hf2) (.inr (.inl hwr)) (fun h => by rw [hwr] at h; cases h),
        d.turnA hil hrr hsd hH' hr2 hf2 (by rw [a1, a2]; exact (hHj hH).imp) (fun s i1 r1 b hs hr1 hb => by rw [a1, a3]; exact hlow s i1 r1 b hs hr1 hb H hH) (fun s i1 r1 b hs hr1 hb => by rw [a1]; exact hslot s i1 r1 b hs hr1 hb j H (Nat.le_refl _) hH) ?_⟩
      intro i1 r1 b s c hs hr1 hb1 hs1 hv hc i' c' hg hc'
      obtain ⟨c2, e1, _, _, e4⟩ := d.done i1 r1 b s hs hr1 hb1 hs1 (hv.back hil)
      rw [hc] at e1; cases e1
      by_cases hm : ∃ p ∈ L, p.1 = i'
      · obtain ⟨p, hp, rfl⟩ := hm
        obtain ⟨s', i2, r2, hsq', g1, g2, g3, g4, g5, g6⟩ := hL p hp
        rw [hs] at hsq'; cases hsq'
        rw [g3] at hc'
        refine fun h => d.apart i1 i2 r1 r2 b p.2 s c c' hs hr1 g1 hb1 g2 hs1 g4 (hv.back hil) g5 ?_ hc hc' h.symm
        intro h
        subst h
        exact hv i r hrr hen (by rw [sBool_set hil, if_pos rfl]) g6
      · refine e4 H i' c' hH ?_ hc'
        rwa [addS_get L H hHw.fits hHw.nxt (fun p hp => ?_) i' (fun p hp h => hm ⟨p, hp, h⟩)] at hg
        obtain ⟨s', i2, r2, hsq', g1, g2, g3, g4, g5, g6⟩ := hL p hp
        have := hslot s' i2 r2 p.2 hsq' g1 g2 j H (Nat.le_refl _) hH
        omega
    | write hw H ho' hH hop hH' he1 hwr hfr hfw hsd =>
      rw [wanted_ok hw henv, if_pos rfl]
      have hk := jk he1
      refine (opB_Fr ro (hmem hfr H hH) henv horc hext hname hop ?_)
      rintro u w2 ⟨ν, hu, hr2, hf2⟩
      rw [hk] at hH hH' hf2
      exact ⟨j + 1, _, inv_turn x S v hil ho hrr f hno hall he1 hk hH hH' hu hr2 hf2.le hf2.next hf2.old ((v.fr H hH).trans hf2) (.inr (.inl hwr)) (fun h => by rw [hwr] at h; cases h), d.turn hil hrr hsd hH hH' hr2 hf2 (hHj hH).imp (fun s i1 r1 b hs hr1 hb => hlow s i1 r1 b hs hr1 hb H hH) (fun s i1 r1 b hs hr1 hb => hslot s i1 r1 b hs hr1 hb j H (Nat.le_refl _) hH)⟩
    | fresh hw H H0 h2 hH hq hqk hlk hop hH' he1 hwr hfr hfw hsd =>
      rw [wanted_ok hw henv, if_pos rfl]
      have hk := jk he1
      have hHw := hmem hfr H hH
      refine (opB_Fr ro (HR.relock hHw H0.next) henv horc hext hname hop ?_)
      rintro u w2 ⟨ν, hu, hr2, hf2⟩
      rw [hk] at hH hH' hf2 hqk hHw
      have hfrom : FR (H.from H0.next) (μs j) w1 { h2 with lock := H0.next } ν w2 := by
        have hl : h2.lock = H0.next := hf2.lock
        have : ({ h2 with lock := H0.next } : AH) = h2 := by cases h2; simp only at hl; subst hl; rfl
        rw [this]
        exact hf2
      have hle : FR H (μs j) w1 { h2 with lock := H.lock } ν w2 := FR.from_low hfrom hlk (v.nexts r.lq j H0 H hqk (Nat.le_refl _) hq hH)
      exact ⟨j + 1, _, inv_turn x S v hil ho hrr f hno hall he1 hk hH hH' hu (hr2.relock _) hle.le hle.next hle.old ((v.fr H hH).trans hle) (.inr (.inr ⟨hfw, hqk, H0, hq, hHw, hfrom⟩)) (fun _ h => by rw [hfw] at h; cases h), d.turn hil hrr hsd hH hH' (hr2.relock _) hle (hHj hH).imp (fun s i1 r1 b hs hr1 hb => hlow s i1 r1 b hs hr1 hb H hH) (fun s i1 r1 b hs hr1 hb => hslot s i1 r1 b hs hr1 hb j H (Nat.le_refl _) hH)⟩
  · -- the end
    rintro l a1 w1 hl1 ⟨j, μs, v, d⟩ hall
    have hjl : j + 1 = HS.length := by
      have := v.top
      rcases Nat.lt_or_ge (j + 1) HS.length with hlt | hge
      · exfalso
        obtain ⟨i, r, h1, h2, h3⟩ := S.all j hlt
        obtain ⟨o, ho, _⟩ := S.fact i r h1
        have := (v.cnt i r h1 h2).1 (hall i (Array.getElem?_eq_some_iff.1 ho).1)
        omega
      · omega
    have hHj : HS[j]? = some hl := by
      rw [List.getLast?_eq_getElem?] at hlast
      rw [← hlast]
      congr 1
      omega
    have hHR : HR Z G (μs j) hl w1 := v.hr S hHj
    have hlist : ∀ (i : Nat) (r : Rec), RS[i]? = some r → sBool l i = true := by
      intro i r hr1
      obtain ⟨o, ho, _⟩ := S.fact i r hr1
      exact hall i (Array.getElem?_eq_some_iff.1 ho).1
    obtain ⟨p1, p2⟩ := putAll_get he.le RS env he.fits (fun i r d hr1 hd => by
      obtain ⟨o, _, f⟩ := S.fact i r hr1
      exact f.lt d hd)
    have hend : HR Z G (μs j) (endF sq SD hl) w1 ∧ FR h μ w.drew (endF sq SD hl) (μs j) w1 := by
      cases hsq : sq with
      | none => exact ⟨hHR, v.fr hl hHj⟩
      | some s =>
        have hnx := v.nexts 0 j h1 hl (Nat.zero_le _) (Nat.le_refl _) S.head hHj
        have himp := (v.fr hl hHj).imp
        have himp2 := hr.imp
        have mem : ∀ p, p ∈ SD → ∃ i r, RS[i]? = some r ∧ r.sd = some p.2 ∧ p.1 = s + i ∧ Live ms RS l i := by
          intro p hp
          obtain ⟨s', i, r, g0, g1, g2, g3, g4⟩ := hSD.2 p hp
          rw [hsq] at g0; cases g0
          exact ⟨i, r, g1, g2, g3, fun ie re h1 h2 _ => g4 ie re h1 h2⟩
        refine addS_ok _ hl hHR (v.fr hl hHj) ?_ ?_
        · intro s2 b hm
          obtain ⟨i, r, g1, g2, g3, g4⟩ := mem _ hm
          simp only at g2 g3
          obtain ⟨k1, k2, k3⟩ := sk2 s hsq (S.lt65 hsq g1 g2)
          subst g3
          obtain ⟨c, c1, c2, c3, c4⟩ := d.done i r b s hsq g1 g2 (hlist i r g1) g4
          have : i < RS.length := (List.getElem?_eq_some_iff.1 g1).1
          rw [S.len] at this
          exact ⟨by omega, by omega, by omega, c, c1, c2, c3, fun i' c' => c4 hl i' c' hHj⟩
        · refine hSD.1.imp_of_mem ?_
          intro p q hp hq2 hne c c' hc hc'
          obtain ⟨i, r, g1, g2, g3, g4⟩ := mem p hp
          obtain ⟨i', r', g1', g2', g3', g4'⟩ := mem q hq2
          rw [g3] at hc
          rw [g3'] at hc'
          exact d.apart i i' r r' p.2 q.2 s c c' hsq g1 g1' g2 g2' (hlist i r g1) (hlist i' r' g1') g4 g4' (fun h => hne (by rw [g3, g3', h])) hc hc'
    refine hq (μs j) a1 w1 hend.1 ⟨v.size, he.le, p1, ?_⟩ ((FR.drew h μ w).trans hend.2) v.defers
    intro t u ht hg
    rcases p2 t u ht hg with ⟨i1, q, hla, rfl⟩ | ⟨hnone, hu⟩
    · rcases v.tmps t ht with ⟨i2, r2, t1, t2, t3, t4, t5⟩ | ⟨t1, _⟩
      · have : i2 = i1 := by
          rcases Nat.lt_trichotomy i2 i1 with hh | hh | hh
          · exact absurd hla.2.1 (t4 i1 q hh (hlist i1 q hla.1) hla.1)
          · exact hh
          · exact absurd t3 (hla.2.2 i2 r2 hh t2)
        subst this
        rw [hla.1] at t2
        cases t2
        exact t5.mono (v.mono _ _ (step_le x S v t1 hla.1) (Nat.le_refl _))
      · exact absurd hla.2.1 (t1 i1 q (hlist i1 q hla.1) hla.1)
    · rcases v.tmps t ht with ⟨i2, r2, t1, t2, t3, _, _⟩ | ⟨_, t2⟩
      · exact absurd t3 (hnone i2 r2 t2)
      · exact (t2 u hu).mono (v.mono _ _ (Nat.zero_le _) (Nat.le_refl _))
  · -- the count
    unfold left
    exact Nat.le_trans List.countP_le_length (by simp)
  · -- the start
    have hr' := sk1 _ hr.drew
    refine ⟨?_, rfl, he.size, S.pos, ?_, trivial, fun _ _ _ _ => Mu.le_refl _, ?_, ?_, ?_, ?_, ?_, fun _ _ _ _ _ _ => rfl, ?_⟩
    · intro i o e hs
      rw [hS0] at hs; cases hs
    · intro i r _ _
      rw [hS0]
      simp
    · intro q H hq0 hH
      have : q = 0 := by omega
      subst this
      rw [S.head] at hH; cases hH
      exact hr'.1.toH0
    · intro t ht
      refine .inr ⟨fun i r hs => (by rw [hS0] at hs; cases hs), fun u hu => he.at_ t u ht hu⟩
    · intro q H hq0 hH _
      have : q = 0 := by omega
      subst this
      rw [S.head] at hH; cases hH
      exact hr'.1
    · intro q q' H H' h1 h2 hH hH'
      have e1 : q = 0 := by omega
      have e2 : q' = 0 := by omega
      subst e1 e2
      rw [hH] at hH'; cases hH'
      exact Nat.le_refl _
    · intro q H Hj hq0 hH hHj _ i _
      have : q = 0 := by omega
      subst this
      rw [hH] at hHj; cases hHj
      rfl
    · intro H hH
      rw [S.head] at hH; cases hH
      exact hr'.2
  · -- the blocks set apart
    refine ⟨?_, ?_, ?_⟩
    · intro i r b s hs hr1 hb1 _ q _
      obtain ⟨k1, k2, _⟩ := sk2 s hs (S.lt65 hs hr1 hb1)
      have hx := (sk1 _ hr.drew).1.nxt
      have : i < RS.length := (List.getElem?_eq_some_iff.1 hr1).1
      rw [S.len] at this
      exact hr.fresh _ (by omega) (by omega)
    · intro i r b s _ _ _ hb1
      rw [hS0] at hb1; cases hb1
    · intro i i' r r' b b' s c c' _ _ _ _ _ hb1
      rw [hS0] at hb1; cases hb1

end
end Go.Proofs.YtibffohcmegooaaGreatDoor.V
