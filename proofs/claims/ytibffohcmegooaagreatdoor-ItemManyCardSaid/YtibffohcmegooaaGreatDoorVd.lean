/- The small machine's memory against the model's: the words of the relation and their small laws. Conditions: none. -/
import Derived.Test.YtibffohcmegooaaGreatDoorVb
import Derived.Laws.Entries
import Derived.Laws.Strings
namespace Go.Proofs.YtibffohcmegooaaGreatDoor.V
set_option linter.all false
open Go

theorem blt_iff {a b : Nat} : Nat.blt a b = true ↔ a < b := by rw [Nat.blt_eq]
theorem ble_iff {a b : Nat} : Nat.ble a b = true ↔ a ≤ b := by rw [Nat.ble_eq]
theorem blt_no {a b : Nat} (h : ¬ a < b) : Nat.blt a b = false := by
  cases hb : Nat.blt a b with
  | false => rfl
  | true => exact absurd (blt_iff.1 hb) h
theorem beq_iff {a b : Nat} : Nat.beq a b = true ↔ a = b := ⟨Nat.eq_of_beq_eq_true, fun h => by subst h; exact Nat.beq_refl a⟩

section lists
variable {μ : Mu}

theorem VRL.iff : ∀ {l l' : List Value}, VRL μ l l' ↔ l.length = l'.length ∧ ∀ (k : Nat) (v : Value), l[k]? = some v → ∃ v' : Value, l'[k]? = some v' ∧ VR μ v v'
  | [], l' => by
    simp only [VRL]
    constructor
    · rintro rfl; simp
    · rintro ⟨h, _⟩; cases l' with | nil => rfl | cons => simp at h
  | v :: vs, l' => by
    simp only [VRL, VRL.iff (l := vs)]
    constructor
    · rintro ⟨v', vs', rfl, hv, hl, h⟩
      refine ⟨by simp [hl], ?_⟩
      intro k u hu
      cases k with
      | zero => simp at hu; subst hu; exact ⟨v', by simp, hv⟩
      | succ k => simp at hu; simpa using h k u hu
    · rintro ⟨hl, h⟩
      cases l' with
      | nil => simp at hl
      | cons v' vs' =>
        refine ⟨v', vs', rfl, ?_, by simpa using hl, ?_⟩
        · obtain ⟨u, hu, hv⟩ := h 0 v (by simp)
          simp at hu; subst hu; exact hv
        · intro k u hu
          obtain ⟨u', hu', hv⟩ := h (k + 1) u (by simpa using hu)
          exact ⟨u', by simpa using hu', hv⟩

theorem VRL.length {l l' : List Value} (h : VRL μ l l') : l.length = l'.length := (VRL.iff.1 h).1
theorem VRL.at {l l' : List Value} (h : VRL μ l l') {k : Nat} {v : Value} (hv : l[k]? = some v) : ∃ v', l'[k]? = some v' ∧ VR μ v v' := (VRL.iff.1 h).2 k v hv
theorem VRL.nil : VRL μ [] [] := by simp only [VRL]
theorem VRL.cons {v v' : Value} {l l' : List Value} (h : VR μ v v') (hl : VRL μ l l') : VRL μ (v :: l) (v' :: l') := by
  simp only [VRL]; exact ⟨_, _, rfl, h, hl⟩
theorem VRL.append {a a' b b' : List Value} (h : VRL μ a a') (k : VRL μ b b') : VRL μ (a ++ b) (a' ++ b') := by
  induction a generalizing a' with
  | nil => simp only [VRL] at h; subst h; exact k
  | cons v vs ih =>
    simp only [VRL] at h
    obtain ⟨v', vs', rfl, hv, hl⟩ := h
    exact VRL.cons hv (ih hl)
theorem VRL.take {l l' : List Value} (h : VRL μ l l') (n : Nat) : VRL μ (l.take n) (l'.take n) := by
  induction n generalizing l l' with
  | zero => simpa using VRL.nil
  | succ n ih =>
    cases l with
    | nil => simp only [VRL] at h; subst h; simpa using VRL.nil
    | cons v vs =>
      simp only [VRL] at h
      obtain ⟨v', vs', rfl, hv, hl⟩ := h
      simpa using VRL.cons hv (ih hl)
theorem VRL.drop {l l' : List Value} (h : VRL μ l l') (n : Nat) : VRL μ (l.drop n) (l'.drop n) := by
  induction n generalizing l l' with
  | zero => simpa using h
  | succ n ih =>
    cases l with
    | nil => simp only [VRL] at h; subst h; simpa using VRL.nil
    | cons v vs =>
      simp only [VRL] at h
      obtain ⟨v', vs', rfl, hv, hl⟩ := h
      simpa using ih hl
theorem VRL.of_pure {l : List Value} (h : pureL l = true) : VRL μ l l := (VRL.pure h).2 rfl
theorem VR.of_pure {v : Value} (h : pureV v = true) : VR μ v v := (VR.pure h).2 rfl

theorem VR.agg {l l' : List Value} (h : VRL μ l l') : VR μ (.agg ⟨l⟩) (.agg ⟨l'⟩) := by simp only [VR]; exact ⟨_, rfl, h⟩
theorem VR.agg_inv {c : Array Value} {v' : Value} (h : VR μ (.agg c) v') : ∃ c', v' = .agg c' ∧ VRL μ c.toList c'.toList := by
  obtain ⟨l⟩ := c
  simp only [VR] at h
  obtain ⟨l', rfl, h⟩ := h
  exact ⟨⟨l'⟩, rfl, h⟩
theorem VR.agg_mk {c c' : Array Value} (h : VRL μ c.toList c'.toList) : VR μ (.agg c) (.agg c') := by
  obtain ⟨l⟩ := c; obtain ⟨l'⟩ := c'
  exact VR.agg h
theorem VR.tuple_inv {c : Array Value} {v' : Value} (h : VR μ (.tuple c) v') : ∃ c', v' = .tuple c' ∧ VRL μ c.toList c'.toList := by
  obtain ⟨l⟩ := c
  simp only [VR] at h
  obtain ⟨l', rfl, h⟩ := h
  exact ⟨⟨l'⟩, rfl, h⟩
theorem VR.tuple_mk {c c' : Array Value} (h : VRL μ c.toList c'.toList) : VR μ (.tuple c) (.tuple c') := by
  obtain ⟨l⟩ := c; obtain ⟨l'⟩ := c'
  simp only [VR]; exact ⟨_, rfl, h⟩

/-- Of one cell on both sides. -/
theorem VR.one {v v' : Value} (h : VR μ v v') : oneB v = v'.oneCell' := by
  cases v with
  | agg c => obtain ⟨c', rfl, _⟩ := VR.agg_inv h; rfl
  | tuple c => obtain ⟨c', rfl, _⟩ := VR.tuple_inv h; rfl
  | pointer a => cases a <;> simp only [VR] at h <;> first | (subst h; rfl) | (obtain ⟨l, _, _, rfl⟩ := h; rfl)
  | slice a n c => cases a <;> simp only [VR] at h <;> first | (subst h; rfl) | (obtain ⟨l, _, _, _, rfl, _⟩ := h; rfl)
  | map a => cases a <;> simp only [VR] at h <;> first | (subst h; rfl) | (obtain ⟨l, _, rfl⟩ := h; rfl)
  | chan a =>
    cases a with
    | none => simp only [VR] at h; subst h; rfl
    | some r => simp only [VR] at h
  | func f a c => obtain ⟨a⟩ := a; obtain ⟨c⟩ := c; simp only [VR] at h; obtain ⟨_, _, _, rfl, _⟩ := h; rfl
  | iface t x => simp only [VR] at h; obtain ⟨_, rfl, _⟩ := h; rfl
  | _ => simp only [VR] at h; subst h; rfl

theorem VR.cells {v v' : Value} (h : VR μ v v') : VRL μ v.cells.toList v'.cells.toList := by
  cases v with
  | agg c => obtain ⟨c', rfl, h'⟩ := VR.agg_inv h; exact h'
  | tuple c => obtain ⟨c', rfl, h'⟩ := VR.tuple_inv h; exact VRL.cons h VRL.nil
  | pointer a => cases a <;> (have h' := h; simp only [VR] at h'; first | (subst h'; exact VRL.cons h VRL.nil) | (obtain ⟨l, _, _, rfl⟩ := h'; exact VRL.cons h VRL.nil))
  | slice a n c => cases a <;> (have h' := h; simp only [VR] at h'; first | (subst h'; exact VRL.cons h VRL.nil) | (obtain ⟨l, _, _, _, rfl, _⟩ := h'; exact VRL.cons h VRL.nil))
  | map a => cases a <;> (have h' := h; simp only [VR] at h'; first | (subst h'; exact VRL.cons h VRL.nil) | (obtain ⟨l, _, rfl⟩ := h'; exact VRL.cons h VRL.nil))
  | chan a =>
    cases a with
    | none => have h' := h; simp only [VR] at h'; subst h'; exact VRL.cons h VRL.nil
    | some r => simp only [VR] at h
  | func f a c => obtain ⟨a⟩ := a; obtain ⟨c⟩ := c; have h' := h; simp only [VR] at h'; obtain ⟨_, _, _, rfl, _⟩ := h'; exact VRL.cons h VRL.nil
  | iface t x => have h' := h; simp only [VR] at h'; obtain ⟨_, rfl, _⟩ := h'; exact VRL.cons h VRL.nil
  | _ => have h' := h; simp only [VR] at h'; subst h'; exact VRL.cons h VRL.nil

end lists

/-- What stands behind an abstract block. -/
def BR (μ : Mu) (own : Bool) : Blk → Loc → World → Prop
  | .cells c g, l, w => l.e = g.e ∧ (∃ el, w.shape? l.b = some (el, l.n) ∧ g.fit el l.o) ∧ l.o + c.size ≤ l.n ∧
      (∀ (k : Nat) (v : Value), c[k]? = some v → ∃ v' : Value, w.cell? ⟨l.b, l.o + k, none⟩ = some v' ∧ VR μ v v') ∧
      (own = true → ∀ k, k < l.n → w.frozen? ⟨l.b, k, none⟩ = false)
  | .map es clock, l, w => l.e = 0 ∧ ∃ es', w.heap[l.b]? = some (.map es' clock) ∧ es'.size = es.size ∧
      ∀ (k : Nat) (e : MapEntry), es[k]? = some e → ∃ e' : MapEntry, es'[k]? = some e' ∧ e'.key = e.key ∧ pureV e.key = true ∧ e'.born = e.born ∧ VR μ e.val e'.val
  | .iter s pos, l, w => l.e = 0 ∧ l.o = 0 ∧ w.heap[l.b]? = some (.stringIter s pos)
  | .loop env n ps x y st pend, l, w => l.e = 0 ∧ l.o = 0 ∧ n ≤ 4096 ∧ env.fits 12 ∧ noFunc x = true ∧ noFunc y = true ∧ ∃ r : Loop, w.heap[l.b]? = some (.loop r) ∧ r.state = st ∧ r.pending = pend ∧ r.params = ps ∧
      r.assign = x ∧ r.body = y ∧ r.tmps.size = n ∧ ∀ t v, t < n → env.get t = some v → VR μ v (r.tmps.getD t undef)

theorem AH.own_iff {h : AH} {i : Nat} : h.own i = true ↔ h.imp ≤ i ∧ i < 16777216 := by
  unfold AH.own
  rw [Bool.and_eq_true, ble_iff, blt_iff]

structure HR (Z : AH) (G : Nat) (μ : Mu) (h : AH) (w : World) : Prop where
  fits : h.t.fits 24
  nxt : h.next ≤ 16777216
  imp : h.imp ≤ h.next
  fresh : ∀ i, h.next ≤ i → i < 16777216 → μ i = none
  glob : ∀ g, g < G → ∃ l, μ g = some l ∧ l.b = g ∧ l.o = 0
  blk : ∀ i b, h.get i = some b → ∃ l, μ i = some l ∧ BR μ (h.own i) b l w
  inj : ∀ i j li lj, h.own i = true → i ≠ j → h.get i ≠ none → h.get j ≠ none → μ i = some li → μ j = some lj → li.b ≠ lj.b
  std : h.fl = true → Z.next ≤ h.imp ∧ ∀ i, i < Z.next → h.get i = Z.get i

/-- A block of the machine that may be written. -/
def Wr (h : AH) (μ : Mu) (b : Nat) : Prop := ∃ i l, h.may i = true ∧ h.get i ≠ none ∧ μ i = some l ∧ l.b = b

/-- What an execution keeps. -/
structure FR (h : AH) (μ : Mu) (w : World) (h' : AH) (μ' : Mu) (w' : World) : Prop where
  le : μ.le μ'
  os : w'.os = w.os
  tape : w'.tape = w.tape
  output : w'.output = w.output
  size : w.heap.size ≤ w'.heap.size
  lock : h'.lock = h.lock
  imp : h'.imp = h.imp
  next : h.next ≤ h'.next
  old : ∀ i, (i < h.next ∨ 16777216 ≤ i) → μ' i = μ i
  sub : ∀ i, (i < h.next ∨ 16777216 ≤ i) → h'.get i ≠ none → h.get i ≠ none
  wr : ∀ b, Wr h' μ' b → b < w.heap.size → Wr h μ b
  blk : ∀ b, b < w.heap.size → ¬ Wr h μ b → w'.heap[b]? = w.heap[b]?
  keep : ∀ i, (i < h.next ∨ 16777216 ≤ i) → h.may i = false → h'.get i = h.get i

theorem AH.may_of {h h' : AH} (hl : h'.lock = h.lock) (hi : h'.imp = h.imp) (i : Nat) : h'.may i = h.may i := by
  unfold AH.may AH.own
  rw [hl, hi]

theorem FR.refl (h : AH) (μ : Mu) (w : World) : FR h μ w h μ w :=
  ⟨Mu.le_refl _, rfl, rfl, rfl, Nat.le_refl _, rfl, rfl, Nat.le_refl _, fun _ _ => rfl, fun _ _ h => h, fun _ h _ => h, fun _ _ _ => rfl, fun _ _ _ => rfl⟩

theorem FR.trans {h h' h'' : AH} {μ μ' μ'' : Mu} {w w' w'' : World} (a : FR h μ w h' μ' w') (b : FR h' μ' w' h'' μ'' w'') : FR h μ w h'' μ'' w'' :=
  ⟨Mu.le_trans a.le b.le, b.os.trans a.os, b.tape.trans a.tape, b.output.trans a.output, Nat.le_trans a.size b.size, b.lock.trans a.lock, b.imp.trans a.imp, Nat.le_trans a.next b.next,
    fun i hi => (b.old i (hi.imp (fun h => Nat.lt_of_lt_of_le h a.next) id)).trans (a.old i hi), fun i hi hg => a.sub i hi (b.sub i (hi.imp (fun h => Nat.lt_of_lt_of_le h a.next) id) hg),
    fun k hk hlt => a.wr k (b.wr k hk (Nat.lt_of_lt_of_le hlt a.size)) hlt,
    fun k hlt hk => (b.blk k (Nat.lt_of_lt_of_le hlt a.size) (fun hw => hk (a.wr k hw hlt))).trans (a.blk k hlt hk),
    fun i hi hm => (b.keep i (hi.imp (fun h => Nat.lt_of_lt_of_le h a.next) id) (by rw [AH.may_of a.lock a.imp]; exact hm)).trans (a.keep i hi hm)⟩

theorem BR.congr {μ : Mu} {own : Bool} {b : Blk} {l : Loc} {w w' : World} (hb : w'.heap[l.b]? = w.heap[l.b]?) (h : BR μ own b l w) : BR μ own b l w' := by
  cases b with
  | cells c g =>
    obtain ⟨h1, ⟨el, h2, h2'⟩, h3, h4, h5⟩ := h
    refine ⟨h1, ⟨el, by simp only [World.shape?, hb]; exact h2, h2'⟩, h3, ?_, ?_⟩
    · intro k v hv
      obtain ⟨v', hc, hr⟩ := h4 k v hv
      exact ⟨v', by simp only [World.cell?, hb]; exact hc, hr⟩
    · intro ho k hk
      have := h5 ho k hk
      simp only [World.frozen?, hb]; exact this
  | map es cl =>
    obtain ⟨h0, es', h1, h2⟩ := h
    exact ⟨h0, es', by rw [hb]; exact h1, h2⟩
  | iter s pos => exact ⟨h.1, h.2.1, by rw [hb]; exact h.2.2⟩
  | loop env n ps x y st pend =>
    obtain ⟨h1, h2, h3, h4, h5, h6, r, h7, h8⟩ := h
    exact ⟨h1, h2, h3, h4, h5, h6, r, by rw [hb]; exact h7, h8⟩

/-- A draw turns nothing that is looked at. -/
theorem HR.drew {Z : AH} {G : Nat} {μ : Mu} {h : AH} {w : World} (x : HR Z G μ h w) : HR Z G μ h w.drew := ⟨x.fits, x.nxt, x.imp, x.fresh, x.glob, fun i b hi => let ⟨l, hl, hr⟩ := x.blk i b hi; ⟨l, hl, BR.congr (w := w) (w' := w.drew) rfl hr⟩, x.inj, x.std⟩

theorem BR.mono {μ ν : Mu} {own : Bool} {b : Blk} {l : Loc} {w : World} (hle : μ.le ν) (h : BR μ own b l w) : BR ν own b l w := by
  cases b with
  | cells c g =>
    obtain ⟨h1, h2, h3, h4, h5⟩ := h
    exact ⟨h1, h2, h3, fun k v hv => let ⟨v', hc, hr⟩ := h4 k v hv; ⟨v', hc, hr.mono hle⟩, h5⟩
  | map es cl =>
    obtain ⟨h0, es', h1, h2, h3⟩ := h
    exact ⟨h0, es', h1, h2, fun k e he => let ⟨e', a, b, c, d, r⟩ := h3 k e he; ⟨e', a, b, c, d, r.mono hle⟩⟩
  | iter s pos => exact h
  | loop env n ps x y st pend =>
    obtain ⟨h1, h2, h3, h4, h5, h6, r, h7, h8, h9, h10, h11, h12, h13, h14⟩ := h
    exact ⟨h1, h2, h3, h4, h5, h6, r, h7, h8, h9, h10, h11, h12, h13, fun t v ht hv => (h14 t v ht hv).mono hle⟩

theorem BR.lt {μ : Mu} {own : Bool} {b : Blk} {l : Loc} {w : World} (h : BR μ own b l w) : l.b < w.heap.size := by
  have key : ∀ o, w.heap[l.b]? = some o → l.b < w.heap.size := fun o ho => by
    rcases Nat.lt_or_ge l.b w.heap.size with h' | h'
    · exact h'
    · rw [Array.getElem?_eq_none h'] at ho; cases ho
  cases b with
  | cells c g =>
    obtain ⟨_, ⟨el, h2, _⟩, _⟩ := h
    unfold World.shape? at h2
    split at h2
    · rename_i hh; exact key _ hh
    · cases h2
  | map es cl => obtain ⟨_, es', h1, _⟩ := h; exact key _ h1
  | iter s pos => exact key _ h.2.2
  | loop env n ps x y st pend => obtain ⟨_, _, _, _, _, _, r, h7, _⟩ := h; exact key _ h7

/-- Where every block that is looked at stands as it stood. -/
theorem HR.congr {Z : AH} {G : Nat} {μ : Mu} {h : AH} {w w' : World} (x : HR Z G μ h w) (hb : ∀ i l, h.get i ≠ none → μ i = some l → w'.heap[l.b]? = w.heap[l.b]?) : HR Z G μ h w' :=
  ⟨x.fits, x.nxt, x.imp, x.fresh, x.glob, fun i b hi => let ⟨l, hl, hr⟩ := x.blk i b hi; ⟨l, hl, hr.congr (hb i l (by rw [hi]; simp) hl)⟩, x.inj, x.std⟩

theorem AH.get_in {h : AH} {i : Nat} (hi : h.get i ≠ none) : i < h.next ∨ 16777216 ≤ i := by
  unfold AH.get at hi
  split at hi
  · split at hi
    · rename_i hb; exact .inl (blt_iff.1 hb)
    · simp at hi
  · rename_i hb
    rcases Nat.lt_or_ge i 16777216 with h | h
    · rw [blt_iff.2 h] at hb; cases hb
    · exact .inr h

theorem AH.get_old {h : AH} {i : Nat} (hi : 16777216 ≤ i) : h.get i = h.old (i - 16777216) := by
  unfold AH.get
  rw [blt_no (show ¬ i < 16777216 by omega)]

/-- A new block. -/
theorem HR.new {Z : AH} {G : Nat} {μ : Mu} {h h' : AH} {w : World} (x : HR Z G μ h w) {b : Blk} {i : Nat} (hn : h.new b = some (i, h')) (o : Obj) (n e : Nat)
    (hb : ∀ ν, μ.le ν → BR ν true b ⟨w.heap.size, 0, n, e⟩ (w.alloc o)) :
    i = h.next ∧ ∃ ν : Mu, ν i = some ⟨w.heap.size, 0, n, e⟩ ∧ HR Z G ν h' (w.alloc o) ∧ FR h μ w h' ν (w.alloc o) := by
  unfold AH.new at hn
  split at hn
  case h_2 => cases hn
  rename_i hlt
  have hlt' : h.next < 16777216 := blt_iff.1 hlt
  simp only [Option.some.injEq, Prod.mk.injEq] at hn
  obtain ⟨rfl, rfl⟩ := hn
  refine ⟨rfl, fun j => if j = h.next then some ⟨w.heap.size, 0, n, e⟩ else μ j, by simp, ?_⟩
  have hle : μ.le fun j => if j = h.next then some ⟨w.heap.size, 0, n, e⟩ else μ j := by
    intro j l hj
    have : j ≠ h.next := fun he => by rw [he, x.fresh _ (Nat.le_refl _) hlt'] at hj; cases hj
    simp [this, hj]
  have hget : ∀ j, AH.get { h with t := T.set 24 h.t h.next (some b), next := h.next + 1 } j = if j = h.next then some b else h.get j := by
    intro j
    by_cases hjo : j < 16777216
    · unfold AH.get
      simp only [blt_iff.2 hjo]
      by_cases hj : j < h.next + 1
      · simp only [blt_iff.2 hj]
        rw [T.get_set 24 _ _ _ _ x.fits (by simpa using hlt') (by simpa using hjo)]
        by_cases he : j = h.next
        · simp [he]
        · have h2 : Nat.blt j h.next = true := blt_iff.2 (by omega)
          simp [he, h2]
      · have h3 : j ≠ h.next := by omega
        simp [blt_no hj, blt_no (show ¬ j < h.next by omega), h3]
    · rw [AH.get_old (by omega), AH.get_old (h := h) (by omega), if_neg (by omega)]
  have hbl : ∀ j l, h.get j ≠ none → μ j = some l → l.b < w.heap.size := by
    intro j l hj hl
    cases hg : h.get j with
    | none => exact absurd hg hj
    | some bb =>
      obtain ⟨l', hl', hr⟩ := x.blk j bb hg
      rw [hl] at hl'; cases hl'
      exact hr.lt
  refine ⟨⟨T.fits_set 24 _ _ _ x.fits, by simp; omega, by have := x.imp; simp; omega, ?_, ?_, ?_, ?_, ?_⟩, ⟨hle, rfl, rfl, rfl, by simp, rfl, rfl, by simp, fun j hj => if_neg (by omega), fun j hj hg => by rw [hget, if_neg (by omega)] at hg; exact hg, ?_, ?_, fun j hj _ => by rw [hget, if_neg (by omega)]⟩⟩
  · intro j hj hj2
    have hj' : h.next + 1 ≤ j := hj
    have : j ≠ h.next := by omega
    simp [this, x.fresh j (by omega) hj2]
  · intro g hg
    obtain ⟨l, hl, h1, h2⟩ := x.glob g hg
    exact ⟨l, hle _ _ hl, h1, h2⟩
  · intro j bb hj
    rw [hget] at hj
    by_cases he : j = h.next
    · subst he
      simp at hj; subst hj
      have : h.own h.next = true := AH.own_iff.2 ⟨x.imp, hlt'⟩
      exact ⟨⟨w.heap.size, 0, n, e⟩, by simp, by show BR _ (h.own h.next) _ _ _; rw [this]; exact hb _ hle⟩
    · rw [if_neg he] at hj
      obtain ⟨l, hl, hr⟩ := x.blk j bb hj
      refine ⟨l, hle _ _ hl, (hr.mono hle).congr ?_⟩
      have := hr.lt
      simp only [World.alloc, Array.getElem?_push]
      rw [if_neg (by omega)]
  · intro j k lj lk hi hjk hj hk hlj hlk
    rw [hget] at hj hk
    by_cases h1 : j = h.next
    · subst h1
      simp at hlj; subst hlj
      have h2 : k ≠ h.next := fun h => hjk h.symm
      rw [if_neg h2] at hk
      simp [h2] at hlk
      have := hbl k lk hk hlk
      show w.heap.size ≠ lk.b
      omega
    · rw [if_neg h1] at hj
      simp [h1] at hlj
      by_cases h2 : k = h.next
      · subst h2
        simp at hlk; subst hlk
        have := hbl j lj hj hlj
        show lj.b ≠ w.heap.size
        omega
      · rw [if_neg h2] at hk
        simp [h2] at hlk
        exact x.inj j k lj lk hi hjk hj hk hlj hlk
  · intro hf
    obtain ⟨s1, s2⟩ := x.std hf
    refine ⟨s1, fun i hi => ?_⟩
    have := x.imp
    rw [hget, if_neg (by omega)]
    exact s2 i hi
  · rintro bb ⟨j, l, hmay, hj, hl, rfl⟩ hlt
    rw [hget] at hj
    by_cases h1 : j = h.next
    · subst h1
      simp at hl; subst hl
      exact absurd hlt (Nat.lt_irrefl _)
    · rw [if_neg h1] at hj
      simp [h1] at hl
      exact ⟨j, l, hmay, hj, hl, rfl⟩
  · intro bb hlt _
    simp only [World.alloc, Array.getElem?_push]
    rw [if_neg (by omega)]

theorem AH.get_put {Z : AH} {G : Nat} {μ : Mu} {h : AH} {w : World} (x : HR Z G μ h w) {i : Nat} (hi : i < h.next) (b : Option Blk) (j : Nat) :
    (h.put i b).get j = if j = i then b else h.get j := by
  have := x.nxt
  by_cases hjo : j < 16777216
  · unfold AH.get AH.put
    simp only [blt_iff.2 hjo]
    by_cases hj : j < h.next
    · simp only [blt_iff.2 hj]
      rw [T.get_set 24 _ _ _ _ x.fits (by simp; omega) (by simp; omega)]
    · have : j ≠ i := by omega
      simp only [blt_no hj, if_neg this]
  · rw [AH.get_old (by omega), AH.get_old (h := h) (by omega), if_neg (by omega)]
    rfl

theorem AH.may_imp {h : AH} {i : Nat} (hm : h.may i = true) : h.own i = true := by
  unfold AH.may at hm
  simp only [Bool.and_eq_true] at hm
  exact hm.2

theorem AH.may_lt {h : AH} {i : Nat} (hm : h.may i = true) (hi : h.get i ≠ none) : i < h.next := by
  have := (AH.own_iff.1 (AH.may_imp hm)).2
  rcases AH.get_in hi with h | h <;> omega

/-- A block that may be written is turned into another, or struck. -/
theorem HR.put {Z : AH} {G : Nat} {μ : Mu} {h : AH} {w w' : World} (x : HR Z G μ h w) {i : Nat} {b0 : Blk} {l : Loc} {b : Option Blk} (hm : h.may i = true) (hi : h.get i = some b0) (hl : μ i = some l)
    (hs : w'.heap.size = w.heap.size) (hoth : ∀ k, k ≠ l.b → w'.heap[k]? = w.heap[k]?) (os : w'.os = w.os) (tape : w'.tape = w.tape) (out : w'.output = w.output)
    (hb : ∀ bb, b = some bb → BR μ true bb l w') : HR Z G μ (h.put i b) w' ∧ FR h μ w (h.put i b) μ w' := by
  have hlt : i < h.next := AH.may_lt hm (by rw [hi]; simp)
  have hget := AH.get_put x hlt b
  have himp : h.own i = true := AH.may_imp hm
  have hsub : ∀ j, (h.put i b).get j ≠ none → h.get j ≠ none := by
    intro j hj
    rw [hget] at hj
    by_cases he : j = i
    · subst he; rw [hi]; simp
    · rwa [if_neg he] at hj
  refine ⟨⟨T.fits_set 24 _ _ _ x.fits, x.nxt, x.imp, x.fresh, x.glob, ?_, ?_, ?_⟩, ⟨Mu.le_refl _, os, tape, out, by omega, rfl, rfl, Nat.le_refl _, fun _ _ => rfl, fun j _ hg => hsub j hg, ?_, ?_, fun j _ hj => by rw [hget, if_neg (fun h => by subst h; rw [hm] at hj; cases hj)]⟩⟩
  · intro j bb hj
    rw [hget] at hj
    by_cases he : j = i
    · subst he
      rw [if_pos rfl] at hj
      refine ⟨l, hl, ?_⟩
      show BR μ (h.own j) bb l w'
      rw [himp]; exact hb bb hj
    · rw [if_neg he] at hj
      obtain ⟨lj, hlj, hr⟩ := x.blk j bb hj
      refine ⟨lj, hlj, hr.congr (hoth _ ?_)⟩
      exact fun hbad => x.inj i j l lj (AH.may_imp hm) (fun h => he h.symm) (by rw [hi]; simp) (by rw [hj]; simp) hl hlj hbad.symm
  · intro j k lj lk h1 h2 h3 h4
    exact x.inj j k lj lk h1 h2 (hsub j h3) (hsub k h4)
  · intro hf
    obtain ⟨s1, s2⟩ := x.std hf
    refine ⟨s1, fun j hj => ?_⟩
    have := (AH.own_iff.1 himp).1
    rw [hget, if_neg (by omega)]
    exact s2 j hj
  · rintro bb ⟨j, lj, h1, h2, h3, h4⟩ _
    exact ⟨j, lj, h1, hsub j h2, h3, h4⟩
  · intro k _ hk
    exact hoth k fun he => hk ⟨i, l, hm, by rw [hi]; simp, hl, he.symm⟩

end Go.Proofs.YtibffohcmegooaaGreatDoor.V

namespace Go.Proofs.YtibffohcmegooaaGreatDoor.V
set_option linter.all false
open Go

structure EnvOK (μ : Mu) (n : Nat) (env : T (Option Value)) (a : Act) : Prop where
  size : a.tmps.size = n
  le : n ≤ 4096
  fits : env.fits 12
  at_ : ∀ t v, t < n → env.get t = some v → VR μ v (a.tmps.getD t undef)

section
variable {P : Program} {Z : AH} {G n : Nat} {μ : Mu} {env : T (Option Value)} {a : Act} {h : AH} {w : World}

theorem EnvOK.mono {ν : Mu} (e : EnvOK μ n env a) (hle : μ.le ν) : EnvOK ν n env a := ⟨e.size, e.le, e.fits, fun t v ht hv => (e.at_ t v ht hv).mono hle⟩

theorem ev_ok {x : Operand} {v : Value} (hx : ev G n env x = some v) (e : EnvOK μ n env a) (hg : ∀ g, g < G → ∃ l, μ g = some l ∧ l.b = g ∧ l.o = 0) : VR μ v (a.eval x) := by
  cases x with
  | tmp t =>
    simp only [ev] at hx
    split at hx
    · rename_i hlt
      exact e.at_ t v (blt_iff.1 hlt) hx
    · cases hx
  | const c =>
    simp only [ev] at hx
    split at hx
    · rename_i hp
      simp only [Option.some.injEq] at hx
      subst hx
      exact VR.of_pure hp
    · cases hx
  | global g =>
    simp only [ev] at hx
    split at hx
    · rename_i hlt
      simp only [Option.some.injEq] at hx
      subst hx
      obtain ⟨l, hl, h1, h2⟩ := hg g (blt_iff.1 hlt)
      simp only [VR, Act.eval]
      exact ⟨l, trivial, hl, by rw [h1, h2]⟩
    · cases hx
  | func f =>
    simp only [ev, Option.some.injEq] at hx
    subst hx
    exact VR.of_pure (by simp [pureV, pureL, fnPure])

theorem evs_ok (e : EnvOK μ n env a) (hg : ∀ g, g < G → ∃ l, μ g = some l ∧ l.b = g ∧ l.o = 0) : ∀ {xs : List Operand} {vs : List Value}, evs G n env xs = some vs → VRL μ vs (xs.map a.eval)
  | [], vs, hx => by simp only [evs, evsA_nil, Option.some.injEq] at hx; subst hx; simpa using VRL.nil
  | x :: xs, vs, hx => by
    simp only [evs, evsA_cons] at hx
    split at hx
    · rename_i v hv
      split at hx
      · rename_i us hus
        simp only [Option.some.injEq] at hx
        subst hx
        exact VRL.cons (ev_ok hv e hg) (evs_ok e hg hus)
      · cases hx
    · cases hx

theorem putE_ok {dst : Option Tmp} {v v' : Value} {env' : T (Option Value)} (hp : putE n dst v env = some env') (e : EnvOK μ n env a) (hv : VR μ v v') : EnvOK μ n env' (a.put dst v') := by
  cases dst with
  | none => simp only [putE, Option.some.injEq] at hp; subst hp; exact e
  | some d =>
    simp only [putE] at hp
    split at hp
    · rename_i hlt
      have hd := blt_iff.1 hlt
      have hle := e.le
      simp only [Option.some.injEq] at hp
      subst hp
      refine ⟨by simp [Act.put, e.size], e.le, T.fits_set 12 _ _ _ e.fits, ?_⟩
      intro t u ht hu
      rw [T.get_set 12 _ _ _ _ e.fits (by simp; omega) (by simp; omega)] at hu
      by_cases he : t = d
      · subst he
        have : t < a.tmps.size := by rw [e.size]; exact hd
        rw [if_pos rfl] at hu
        cases hu
        simpa [Act.put, Array.getD_eq_getD_getElem?, this] using hv
      · rw [if_neg he] at hu
        have := e.at_ t u ht hu
        simpa [Act.put, Array.getD_eq_getD_getElem?, Array.getElem?_setIfInBounds_ne (fun h => he h.symm)] using this
    · cases hp

theorem bytesEq_eq : ∀ (x y : List UInt8), bytesEq x y = (x == y)
  | [], [] => rfl
  | [], _ :: _ => rfl
  | _ :: _, [] => rfl
  | a :: x, b :: y => by
    simp only [bytesEq]
    have hab : (a == b) = Nat.beq a.toNat b.toNat := by
      rw [Bool.eq_iff_iff, beq_iff_eq, beq_iff]
      exact ⟨fun h => by rw [h], fun h => UInt8.toNat_inj.1 h⟩
    show (match Nat.beq a.toNat b.toNat with | true => bytesEq x y | false => false) = (a == b && x == y)
    rw [hab]
    cases Nat.beq a.toNat b.toNat <;> simp [bytesEq_eq x y]

theorem bytesLt_eq : ∀ (x y : List UInt8), bytesLt x y = Op.bytesLess x y
  | [], [] => rfl
  | [], _ :: _ => rfl
  | _ :: _, [] => rfl
  | a :: x, b :: y => by
    simp only [bytesLt, Op.bytesLess]
    have hab : (a == b) = Nat.beq a.toNat b.toNat := by
      rw [Bool.eq_iff_iff, beq_iff_eq, beq_iff]
      exact ⟨fun h => by rw [h], fun h => UInt8.toNat_inj.1 h⟩
    have hlt : decide (a < b) = Nat.blt a.toNat b.toNat := by
      rw [Bool.eq_iff_iff, decide_eq_true_iff, blt_iff]
      exact UInt8.lt_iff_toNat_lt
    rw [hab, hlt]
    cases Nat.blt a.toNat b.toNat <;> cases Nat.beq a.toNat b.toNat <;> simp [bytesLt_eq x y]

theorem arithB_ok {op : BinOp} {k : IntKind} {x y : Int} {r : Value} (t : TypeId) (hr : arithB op k x y = some r) (hs : op ≠ .shl ∧ op ≠ .shr) : (binOp op t (.int k x) (.int k y)).run P w = .ok r w := by
  cases op <;> simp only [arithB, Option.some.injEq] at hr
  case quo =>
    split at hr
    · cases hr
    · rename_i hne
      simp only [Option.some.injEq] at hr
      subst hr
      have : y ≠ 0 := fun h => hne (by rw [h]; rfl)
      simp [binOp, Op.intDiv, this]
  case rem =>
    split at hr
    · cases hr
    · rename_i hne
      simp only [Option.some.injEq] at hr
      subst hr
      have : y ≠ 0 := fun h => hne (by rw [h]; rfl)
      simp [binOp, Op.intDiv, this]
  case shl => exact absurd rfl hs.1
  case shr => exact absurd rfl hs.2
  all_goals (subst hr; simp [binOp, Op.intArith, Op.intCmp, Op.intBits, bits])

theorem shiftB_ok {op : BinOp} {k k' : IntKind} {x y : Int} {r : Value} (t : TypeId) (hr : arithB op k x y = some r) (hs : op = .shl ∨ op = .shr) : (binOp op t (.int k x) (.int k' y)).run P w = .ok r w := by
  rcases hs with rfl | rfl
  all_goals
    simp only [arithB] at hr
    split at hr
    · rename_i m
      simp only [Option.some.injEq] at hr
      subst hr
      have h1 : ¬ ((Int.ofNat m) < 0) := by simp
      have h2 : (Int.ofNat m).toNat = m := rfl
      simp only [binOp, Op.shift, if_neg h1, h2]
      rfl
    · cases hr

theorem floatB_ok {op : BinOp} {k : FloatKind} {x y : Nat} {r : Value} (t : TypeId) (hr : floatB op k x y = some r) : (binOp op t (.float k x) (.float k y)).run P w = .ok r w := by
  cases op <;> simp only [floatB, Option.some.injEq, Option.map_eq_some_iff] at hr
  case add => obtain ⟨b, hb, rfl⟩ := hr; simp only [binOp, ne_eq, not_true_eq_false, if_false, Op.floatArith, Sem.run_bind, Sem.run_pure, Result.andThen_ok, hb]
  case sub => obtain ⟨b, hb, rfl⟩ := hr; simp only [binOp, ne_eq, not_true_eq_false, if_false, Op.floatArith, Sem.run_bind, Sem.run_pure, Result.andThen_ok, hb]
  case mul => obtain ⟨b, hb, rfl⟩ := hr; simp only [binOp, ne_eq, not_true_eq_false, if_false, Op.floatArith, Sem.run_bind, Sem.run_pure, Result.andThen_ok, hb]
  case quo => obtain ⟨b, hb, rfl⟩ := hr; simp only [binOp, ne_eq, not_true_eq_false, if_false, Op.floatArith, Sem.run_bind, Sem.run_pure, Result.andThen_ok, hb]
  all_goals first | (cases hr; done) | (subst hr; simp [binOp, Op.floatCmp]; done) | (subst hr; simp [binOp, Op.floatCmp]; rfl)

theorem size_list (s : ByteArray) : s.size = s.data.toList.length := by rw [Array.length_toList]; rfl

theorem ba_of_list (s : ByteArray) : (⟨s.data.toList.toArray⟩ : ByteArray) = s := by simp

theorem stringB_ok {op : BinOp} {x y : ByteArray} {r : Value} (t : TypeId) (hr : stringB op x y = some r) : (binOp op t (.string x) (.string y)).run P w = .ok r w := by
  cases op <;> simp only [stringB, Option.some.injEq] at hr
  case add =>
    split at hr
    · rename_i hle
      simp only [Option.some.injEq] at hr
      subst hr
      have hle' := ble_iff.1 hle
      have h1 : ¬ (((x.size + y.size : Nat) : Int) > IntKind.i64.max) := by
        have hx := size_list x
        have hy := size_list y
        rw [IntKind.max_i64]; omega
      have h2 : (⟨(x.data.toList ++ y.data.toList).toArray⟩ : ByteArray) = x ++ y := by
        apply ByteArray.ext
        simp [ByteArray.data_append]
      simp only [binOp, Op.stringOp, if_neg h1, h2]
      rfl
    · cases hr
  all_goals first | (cases hr; done) | (subst hr; simp [binOp, Op.stringOp, ByteArray.toList_eq, bytesEq_eq, bytesLt_eq]; done)

end
end Go.Proofs.YtibffohcmegooaaGreatDoor.V
