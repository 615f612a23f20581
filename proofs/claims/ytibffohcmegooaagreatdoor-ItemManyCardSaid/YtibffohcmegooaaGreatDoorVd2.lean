/- A statement whose order is open: which operations stand ahead of which, and the slots as each sees them. Conditions: none. -/
import Derived.Test.YtibffohcmegooaaGreatDoorVl
namespace Go.Proofs.YtibffohcmegooaaGreatDoor.V
set_option linter.all false
open Go

/-- Operation j stands ahead of operation i. -/
def Bef (ms : List Nat) (i j : Nat) : Prop := Nat.testBit (ms.getD i 0) j = true

theorem maskOf_ok {ms : List Nat} {i : Nat} : ∀ (es : List Edge) (m : Nat), maskOf ms i es = some m →
    (∀ e ∈ es, Region.binds .any e = true → e.on < i) ∧ ∀ j, Nat.testBit m j = true ↔ ∃ e ∈ es, Region.binds .any e = true ∧ (j = e.on ∨ Nat.testBit (ms.getD e.on 0) j = true)
  | [], m, h => by
    simp only [maskOf, Option.some.injEq] at h
    subst h
    simp
  | e :: es, m, h => by
    simp only [maskOf] at h
    split at h
    case h_2 => cases h
    rename_i m1 hm1
    obtain ⟨h1, h2⟩ := maskOf_ok es m1 hm1
    split at h
    · rename_i hb
      split at h
      · rename_i hlt
        simp only [Option.some.injEq] at h
        subst h
        refine ⟨?_, ?_⟩
        · intro e' he' hb'
          rcases List.mem_cons.1 he' with rfl | he'
          · exact Nat.blt_eq ▸ hlt
          · exact h1 e' he' hb'
        · intro j
          simp only [Nat.testBit_or, Nat.testBit_two_pow, Bool.or_eq_true, decide_eq_true_eq, h2, List.mem_cons]
          constructor
          · rintro ((⟨e', he', hb', hj⟩ | hj) | hj)
            · exact ⟨e', .inr he', hb', hj⟩
            · exact ⟨e, .inl rfl, hb, .inl hj.symm⟩
            · exact ⟨e, .inl rfl, hb, .inr hj⟩
          · rintro ⟨e', rfl | he', hb', hj⟩
            · rcases hj with hj | hj
              · exact .inl (.inr hj.symm)
              · exact .inr hj
            · exact .inl (.inl ⟨e', he', hb', hj⟩)
      · cases h
    · rename_i hb
      simp only [Option.some.injEq] at h
      subst h
      refine ⟨?_, ?_⟩
      · intro e' he' hb'
        rcases List.mem_cons.1 he' with rfl | he'
        · rw [hb] at hb'; cases hb'
        · exact h1 e' he' hb'
      · intro j
        rw [h2]
        constructor
        · rintro ⟨e', he', hr⟩
          exact ⟨e', List.mem_cons_of_mem _ he', hr⟩
        · rintro ⟨e', he', hb', hj⟩
          rcases List.mem_cons.1 he' with rfl | he'
          · rw [hb] at hb'; cases hb'
          · exact ⟨e', he', hb', hj⟩

theorem masksB_go : ∀ (os : List Oper) (ms0 ms : List Nat), masksB os ms0 = some ms → ms.length = ms0.length + os.length ∧ (∀ i, i < ms0.length → ms.getD i 0 = ms0.getD i 0) ∧
    ∀ i o, ms0.length ≤ i → os[i - ms0.length]? = some o → (∀ e ∈ o.after.toList, Region.binds .any e = true → e.on < i) ∧
      ∀ j, Bef ms i j ↔ ∃ e ∈ o.after.toList, Region.binds .any e = true ∧ (j = e.on ∨ Bef ms e.on j)
  | [], ms0, ms, h => by
    simp only [masksB, Option.some.injEq] at h
    subst h
    exact ⟨rfl, fun _ _ => rfl, fun i o _ ho => by simp at ho⟩
  | o :: os, ms0, ms, h => by
    simp only [masksB] at h
    split at h
    case h_2 => cases h
    rename_i m hm
    obtain ⟨h1, h2, h3⟩ := masksB_go os (ms0 ++ [m]) ms h
    simp only [List.length_append, List.length_cons, List.length_nil] at h1 h2 h3
    have hpre : ∀ i, i < ms0.length → ms.getD i 0 = ms0.getD i 0 := by
      intro i hi
      rw [h2 i (by omega)]
      simp [List.getD_eq_getElem?_getD, List.getElem?_append_left hi]
    refine ⟨by simp only [List.length_cons]; omega, hpre, ?_⟩
    intro i o' hi ho
    by_cases he : i = ms0.length
    · subst he
      simp at ho
      subst ho
      obtain ⟨g1, g2⟩ := maskOf_ok _ _ hm
      refine ⟨g1, ?_⟩
      intro j
      have hmi : ms.getD ms0.length 0 = m := by
        rw [h2 _ (by omega)]
        simp [List.getD_eq_getElem?_getD]
      unfold Bef
      rw [hmi, g2]
      constructor
      · rintro ⟨e, he, hb, hj⟩
        exact ⟨e, he, hb, by rwa [hpre _ (g1 e he hb)]⟩
      · rintro ⟨e, he, hb, hj⟩
        exact ⟨e, he, hb, by rwa [hpre _ (g1 e he hb)] at hj⟩
    · refine h3 i o' (by omega) ?_
      rw [show i - ms0.length = (i - (ms0.length + 1)) + 1 from by omega] at ho
      simpa using ho

/-- The order of a statement's operations. -/
structure Ord (ops : Array Oper) (ms : List Nat) : Prop where
  edge : ∀ (i : Nat) (o : Oper) (e : Edge), ops[i]? = some o → e ∈ o.after.toList → Region.binds .any e = true → e.on < i ∧ Bef ms i e.on
  dir : ∀ (i j : Nat) (o : Oper), ops[i]? = some o → Bef ms i j → ∃ e ∈ o.after.toList, Region.binds .any e = true ∧ (j = e.on ∨ Bef ms e.on j)
  up : ∀ (i j : Nat) (o : Oper) (e : Edge), ops[i]? = some o → e ∈ o.after.toList → Region.binds .any e = true → Bef ms e.on j → Bef ms i j

theorem Ord.of {ops : Array Oper} {ms : List Nat} (h : masksB ops.toList [] = some ms) : Ord ops ms := by
  obtain ⟨_, _, h3⟩ := masksB_go _ _ _ h
  have h3' : ∀ (i : Nat) (o : Oper), ops[i]? = some o → _ := fun i o ho => h3 i o (Nat.zero_le _) (by simpa using ho)
  refine ⟨fun i o e ho he hb => ⟨(h3' i o ho).1 e he hb, ((h3' i o ho).2 _).2 ⟨e, he, hb, .inl rfl⟩⟩, fun i j o ho hj => ((h3' i o ho).2 j).1 hj, fun i j o e ho he hb hj => ((h3' i o ho).2 j).2 ⟨e, he, hb, .inr hj⟩⟩

section
variable {ops : Array Oper} {ms : List Nat}

theorem some_of_lt {i : Nat} (hi : i < ops.size) : ∃ o, ops[i]? = some o := ⟨ops[i], Array.getElem?_eq_getElem hi⟩

theorem Ord.lt (x : Ord ops ms) : ∀ (i j : Nat), i < ops.size → Bef ms i j → j < i := by
  intro i
  induction i using Nat.strongRecOn with
  | ind i ih =>
    intro j hi hj
    obtain ⟨o, ho⟩ := some_of_lt hi
    obtain ⟨e, he, hb, hj⟩ := x.dir i j o ho hj
    have h1 := (x.edge i o e ho he hb).1
    rcases hj with rfl | hj
    · exact h1
    · have := ih e.on h1 j (by omega) hj
      omega

theorem Ord.trans (x : Ord ops ms) : ∀ (r i j : Nat), r < ops.size → Bef ms r i → Bef ms i j → Bef ms r j := by
  intro r
  induction r using Nat.strongRecOn with
  | ind r ih =>
    intro i j hr hi hj
    obtain ⟨o, ho⟩ := some_of_lt hr
    obtain ⟨e, he, hb, hi⟩ := x.dir r i o ho hi
    have h1 := (x.edge r o e ho he hb).1
    rcases hi with rfl | hi
    · exact x.up r j o e ho he hb hj
    · exact x.up r j o e ho he hb (ih e.on h1 i j (by omega) hi hj)

/-- What is listed holds all that stands ahead of it. -/
theorem Ord.closed (x : Ord ops ms) {S : Nat → Bool} (hS : ∀ (i : Nat) (o : Oper) (e : Edge), S i = true → ops[i]? = some o → e ∈ o.after.toList → Region.binds .any e = true → S e.on = true) :
    ∀ (i j : Nat), i < ops.size → S i = true → Bef ms i j → S j = true := by
  intro i
  induction i using Nat.strongRecOn with
  | ind i ih =>
    intro j hi hs hj
    obtain ⟨o, ho⟩ := some_of_lt hi
    obtain ⟨e, he, hb, hj⟩ := x.dir i j o ho hj
    have h1 := (x.edge i o e ho he hb).1
    have h2 := hS i o e hs ho he hb
    rcases hj with rfl | hj
    · exact h2
    · exact ih e.on h1 j (by omega) h2 hj

end

/-! The slots. -/
section
variable {n : Nat}

theorem lt12 {d : Nat} (hn : n ≤ 4096) (h : d < n) : d < 2 ^ 12 := by
  have : (2 : Nat) ^ 12 = 4096 := by decide
  omega

theorem hideB_get {env : T (Option Value)} {d : Option Tmp} (hf : env.fits 12) (hn : n ≤ 4096) :
    (hideB n env d).fits 12 ∧ ∀ t, t < n → (hideB n env d).get t = if d = some t then none else env.get t := by
  cases d with
  | none => exact ⟨hf, fun t _ => by simp [hideB]⟩
  | some d =>
    simp only [hideB]
    by_cases hd : (d : Nat) < n
    · rw [blt_iff.2 hd]
      have hd : (d : Nat) < n := hd
      refine ⟨T.fits_set 12 _ _ _ hf, fun t ht => ?_⟩
      rw [T.get_set 12 _ _ _ _ hf (lt12 hn (by assumption)) (lt12 hn (by assumption))]
      by_cases he : t = d
      · simp [he]
      · have : ¬ (d = t) := fun h => he h.symm
        simp [he, this]
    · rw [blt_no hd]
      refine ⟨hf, fun t ht => ?_⟩
      have : ¬ (d = t) := fun h => hd (h ▸ ht)
      simp [this]

/-- The last of a list's records that writes a slot. -/
def LastW (rs : List Rec) (t i : Nat) (r : Rec) : Prop := rs[i]? = some r ∧ r.dst = some t ∧ ∀ (i' : Nat) (r' : Rec), i < i' → rs[i']? = some r' → r'.dst ≠ some t

def NoW (rs : List Rec) (t : Nat) : Prop := ∀ (i : Nat) (r : Rec), rs[i]? = some r → r.dst ≠ some t

theorem LastW.cons {rs : List Rec} {t i : Nat} {r q : Rec} (h : LastW rs t i r) : LastW (q :: rs) t (i + 1) r := by
  refine ⟨by simpa using h.1, h.2.1, ?_⟩
  intro i' r' hi hr
  cases i' with
  | zero => omega
  | succ i' => exact h.2.2 i' r' (by omega) (by simpa using hr)

theorem lastW_zero {rs : List Rec} {t : Nat} {q : Rec} (h : NoW rs t) (hq : q.dst = some t) : LastW (q :: rs) t 0 q := by
  refine ⟨rfl, hq, ?_⟩
  intro i' r' hi hr
  cases i' with
  | zero => omega
  | succ i' => exact h i' r' (by simpa using hr)

theorem noW_cons {rs : List Rec} {t : Nat} {q : Rec} (h : NoW rs t) (hq : q.dst ≠ some t) : NoW (q :: rs) t := by
  intro i r hr
  cases i with
  | zero => simp at hr; subst hr; exact hq
  | succ i => exact h i r (by simpa using hr)

theorem envB_get (hn : n ≤ 4096) {m : Nat} : ∀ (rs : List Rec) (j : Nat) (env : T (Option Value)), env.fits 12 →
    (envB n m rs j env).fits 12 ∧ ∀ t v, t < n → (envB n m rs j env).get t = some v →
      (∃ i r, LastW rs t i r ∧ Nat.testBit m (j + i) = true ∧ r.v = v) ∨ (NoW rs t ∧ env.get t = some v)
  | [], j, env, hf => ⟨hf, fun t v _ h => .inr ⟨fun i r hr => by simp at hr, h⟩⟩
  | r :: rs, j, env, hf => by
    simp only [envB]
    split
    · rename_i hb
      cases hd : r.dst with
      | none =>
        obtain ⟨h1, h2⟩ := envB_get hn rs (j + 1) env hf
        refine ⟨h1, fun t v ht hg => ?_⟩
        rcases h2 t v ht hg with ⟨i, q, hq, hm, hv⟩ | ⟨hno, hv⟩
        · exact .inl ⟨i + 1, q, hq.cons, by rw [show j + (i + 1) = j + 1 + i from by omega]; exact hm, hv⟩
        · exact .inr ⟨noW_cons hno (by rw [hd]; simp), hv⟩
      | some d =>
        simp only
        by_cases hdn : (d : Nat) < n
        · rw [blt_iff.2 hdn]
          obtain ⟨h1, h2⟩ := envB_get hn rs (j + 1) (T.set 12 env d (some r.v)) (T.fits_set 12 _ _ _ hf)
          refine ⟨h1, fun t v ht hg => ?_⟩
          rcases h2 t v ht hg with ⟨i, q, hq, hm, hv⟩ | ⟨hno, hv⟩
          · exact .inl ⟨i + 1, q, hq.cons, by rw [show j + (i + 1) = j + 1 + i from by omega]; exact hm, hv⟩
          · rw [T.get_set 12 _ _ _ _ hf (lt12 hn (by assumption)) (lt12 hn (by assumption))] at hv
            by_cases he : t = d
            · rw [if_pos he] at hv
              cases hv
              exact .inl ⟨0, r, lastW_zero hno (by rw [hd, he]), hb, rfl⟩
            · rw [if_neg he] at hv
              exact .inr ⟨noW_cons hno (by rw [hd]; simp; exact fun h => he h.symm), hv⟩
        · rw [blt_no hdn]
          obtain ⟨h1, h2⟩ := envB_get hn rs (j + 1) env hf
          refine ⟨h1, fun t v ht hg => ?_⟩
          rcases h2 t v ht hg with ⟨i, q, hq, hm, hv⟩ | ⟨hno, hv⟩
          · exact .inl ⟨i + 1, q, hq.cons, by rw [show j + (i + 1) = j + 1 + i from by omega]; exact hm, hv⟩
          · exact .inr ⟨noW_cons hno (by rw [hd]; simp; exact fun h => hdn (h ▸ ht)), hv⟩
    · obtain ⟨g1, g2⟩ := hideB_get (d := r.dst) hf hn
      obtain ⟨h1, h2⟩ := envB_get hn rs (j + 1) (hideB n env r.dst) g1
      refine ⟨h1, fun t v ht hg => ?_⟩
      rcases h2 t v ht hg with ⟨i, q, hq, hm, hv⟩ | ⟨hno, hv⟩
      · exact .inl ⟨i + 1, q, hq.cons, by rw [show j + (i + 1) = j + 1 + i from by omega]; exact hm, hv⟩
      · rw [g2 t ht] at hv
        split at hv
        · cases hv
        · rename_i hd
          exact .inr ⟨noW_cons hno hd, hv⟩

theorem hideLater_get (hn : n ≤ 4096) {i : Nat} {ms : List Nat} : ∀ (os : List Oper) (j : Nat) (env : T (Option Value)), env.fits 12 →
    (hideLater n i ms os j env).fits 12 ∧ ∀ t v, t < n → (hideLater n i ms os j env).get t = some v →
      env.get t = some v ∧ ∀ q o, os[q]? = some o → o.dst = some t → Bef ms (j + q) i
  | [], j, env, hf => ⟨hf, fun t v _ h => ⟨h, fun q o ho => by simp at ho⟩⟩
  | o :: os, j, env, hf => by
    simp only [hideLater]
    split
    · rename_i hb
      obtain ⟨h1, h2⟩ := hideLater_get hn os (j + 1) env hf
      refine ⟨h1, fun t v ht hg => ?_⟩
      obtain ⟨g1, g2⟩ := h2 t v ht hg
      refine ⟨g1, fun q p hp hd => ?_⟩
      cases q with
      | zero => exact hb
      | succ q => rw [show j + (q + 1) = j + 1 + q from by omega]; exact g2 q p (by simpa using hp) hd
    · obtain ⟨e1, e2⟩ := hideB_get (d := o.dst) hf hn
      obtain ⟨h1, h2⟩ := hideLater_get hn os (j + 1) (hideB n env o.dst) e1
      refine ⟨h1, fun t v ht hg => ?_⟩
      obtain ⟨g1, g2⟩ := h2 t v ht hg
      rw [e2 t ht] at g1
      split at g1
      · cases g1
      · rename_i hne
        refine ⟨g1, fun q p hp hd => ?_⟩
        cases q with
        | zero => simp at hp; subst hp; exact absurd hd hne
        | succ q => rw [show j + (q + 1) = j + 1 + q from by omega]; exact g2 q p (by simpa using hp) hd

theorem putAll_get (hn : n ≤ 4096) : ∀ (rs : List Rec) (env : T (Option Value)), env.fits 12 → (∀ (i : Nat) (r : Rec) (d : Nat), rs[i]? = some r → r.dst = some d → d < n) →
    (putAll n rs env).fits 12 ∧ ∀ t v, t < n → (putAll n rs env).get t = some v → (∃ i r, LastW rs t i r ∧ r.v = v) ∨ (NoW rs t ∧ env.get t = some v)
  | [], env, hf, _ => ⟨hf, fun t v _ h => .inr ⟨fun i r hr => by simp at hr, h⟩⟩
  | r :: rs, env, hf, hd => by
    simp only [putAll]
    have hd' : ∀ (i : Nat) (q : Rec) (d : Nat), rs[i]? = some q → q.dst = some d → d < n := fun i q d hq => hd (i + 1) q d (by simpa using hq)
    cases hr : r.dst with
    | none =>
      obtain ⟨h1, h2⟩ := putAll_get hn rs env hf hd'
      refine ⟨h1, fun t v ht hg => ?_⟩
      rcases h2 t v ht hg with ⟨i, q, hq, hv⟩ | ⟨hno, hv⟩
      · exact .inl ⟨i + 1, q, hq.cons, hv⟩
      · exact .inr ⟨noW_cons hno (by rw [hr]; simp), hv⟩
    | some d =>
      have hdn : d < n := hd 0 r d rfl hr
      obtain ⟨h1, h2⟩ := putAll_get hn rs (T.set 12 env d (some r.v)) (T.fits_set 12 _ _ _ hf) hd'
      refine ⟨h1, fun t v ht hg => ?_⟩
      rcases h2 t v ht hg with ⟨i, q, hq, hv⟩ | ⟨hno, hv⟩
      · exact .inl ⟨i + 1, q, hq.cons, hv⟩
      · rw [T.get_set 12 _ _ _ _ hf (lt12 hn (by assumption)) (lt12 hn (by assumption))] at hv
        by_cases he : t = d
        · rw [if_pos he] at hv
          cases hv
          exact .inl ⟨0, r, lastW_zero hno (by rw [hr, he]), rfl⟩
        · rw [if_neg he] at hv
          exact .inr ⟨noW_cons hno (by rw [hr]; simp; exact fun h => he h.symm), hv⟩

end
end Go.Proofs.YtibffohcmegooaaGreatDoor.V

namespace Go.Proofs.YtibffohcmegooaaGreatDoor.V
set_option linter.all false
open Go

section
variable {sq : Option Nat} {P : Program} {Z : AH} {G n : Nat} {ext : FuncId → Option Ext} {orc : Orc} {ops : Array Oper} {ms : List Nat} {env0 : T (Option Value)}

/-- The slots as operation j sees them. -/
noncomputable def envAt (n : Nat) (ops : Array Oper) (ms : List Nat) (env0 : T (Option Value)) (rs : List Rec) (j : Nat) : T (Option Value) :=
  hideLater n j ms (ops.toList.drop (j + 1)) (j + 1) (envB n (ms.getD j 0) (rs.take j) 0 env0)

/-- An operation that has entered sides for good. -/
def enR (r : Rec) : Bool := r.wr && Nat.beq r.lq 1
/-- The new blocks set apart that operation j may look at. -/
def SideOf (sq : Option Nat) (ms : List Nat) (rs : List Rec) (j : Nat) (L : List (Nat × Blk)) : Prop :=
  (L.Pairwise fun p q => p.1 ≠ q.1) ∧ ∀ p ∈ L, ∃ (s i1 : Nat) (r1 : Rec), sq = some s ∧ i1 < j ∧ rs[i1]? = some r1 ∧ r1.sd = some p.2 ∧ p.1 = s + i1 ∧ Bef ms j i1 ∧ ∀ (ie : Nat) (re : Rec), ie < j → rs[ie]? = some re → enR re = true → ¬ Bef ms ie i1
/-- Those that have not been entered so far. -/
def SideNow (sq : Option Nat) (ms : List Nat) (rs : List Rec) (L : List (Nat × Blk)) : Prop :=
  (L.Pairwise fun p q => p.1 ≠ q.1) ∧ ∀ p ∈ L, ∃ (s i1 : Nat) (r1 : Rec), sq = some s ∧ rs[i1]? = some r1 ∧ r1.sd = some p.2 ∧ p.1 = s + i1 ∧ ∀ (ie : Nat) (re : Rec), rs[ie]? = some re → enR re = true → ¬ Bef ms ie i1

/-- How operation j was run. -/
inductive Kind (P : Program) (G n : Nat) (ext : FuncId → Option Ext) (orc : Orc) (sq : Option Nat) (ops : Array Oper) (ms : List Nat) (rs : List Rec) (i : Nat) (env : T (Option Value)) (o : Oper) (hs : List AH) (r : Rec) : Prop where
  | off (hw : wantedB n ops o env = some false) (hv : r.v = undef) (he : r.e = false) (hwr : r.wr = false) (hfr : r.free = true) (hfw : r.fw = false) (hsd : r.sd = none) (hal : r.al = false)
  | free (hw : wantedB n ops o env = some true) (H : AH) (hH : hs[r.k]? = some H) (hop : opB P G ext orc n o env H.bare = some (r.v, none)) (he : r.e = false) (hwr : r.wr = false) (hfr : r.free = true) (hfw : r.fw = false) (hsd : r.sd = none) (hal : r.al = false)
  | keep (hw : wantedB n ops o env = some true) (H : AH) (hH : hs[r.k]? = some H) (hop : opB P G ext orc n o env H.locked = some (r.v, none)) (he : r.e = false) (hwr : r.wr = false) (hfr : r.free = false) (hfw : r.fw = false) (hsd : r.sd = none) (hal : r.al = false)
  | grow (hw : wantedB n ops o env = some true) (H h' : AH) (hH : hs[r.k]? = some H) (hop : opB P G ext orc n o env H.locked = some (r.v, some h')) (hH' : hs[r.k + 1]? = some { h' with lock := H.lock }) (he : r.e = true) (hwr : r.wr = false) (hfr : r.free = false) (hfw : r.fw = false) (hsd : r.sd = none) (hal : r.al = false)
  | write (hw : wantedB n ops o env = some true) (H : AH) (ho : Option AH) (hH : hs[r.k]? = some H) (hop : opB P G ext orc n o env H = some (r.v, ho)) (hH' : hs[r.k + 1]? = some (ho.getD H)) (he : r.e = true) (hwr : r.wr = true) (hfr : r.free = false) (hfw : r.fw = false) (hsd : r.sd = none) (hal : r.al = false)
  | seen (hw : wantedB n ops o env = some true) (L : List (Nat × Blk)) (hL : SideOf sq ms rs i L) (H : AH) (ho : Option AH) (hH : hs[r.k]? = some H) (hop : opB P G ext orc n o env (addS L H).locked = some (r.v, ho)) (hH' : hs[r.k + 1]? = some (seenH L H ho)) (he : r.e = true) (hwr : r.wr = false) (hfr : r.free = false) (hfw : r.fw = false) (hsd : r.sd = none) (hal : r.al = false)
  | enter (hw : wantedB n ops o env = some true) (L : List (Nat × Blk)) (hL : SideOf sq ms rs i L) (H : AH) (ho : Option AH) (hH : hs[r.k]? = some H) (hop : opB P G ext orc n o env (addS L H) = some (r.v, ho)) (hH' : hs[r.k + 1]? = some (ho.getD (addS L H))) (he : r.e = true) (hwr : r.wr = true) (hfr : r.free = false) (hfw : r.fw = false) (hlq : r.lq = 1) (hsd : r.sd = none) (hal : r.al = false)
  | alike (hw : wantedB n ops o env = some true) (hld : isLoad o.op = true) (H : AH) (hH : hs[r.k]? = some H) (hop : opB P G ext orc n o env H.locked = some (r.v, none)) (he : r.e = false) (hwr : r.wr = false) (hfr : r.free = true) (hfw : r.fw = false) (hsd : r.sd = none) (hal : r.al = true)
  | side (hw : wantedB n ops o env = some true) (s : Nat) (b : Blk) (kv : Nat → Value) (hsq : sq = some s) (hs65 : s < 16777216) (hsb : sideB P G n o env = some (b, kv)) (hv : r.v = kv (s + i)) (he : r.e = false) (hwr : r.wr = false) (hfr : r.free = true) (hfw : r.fw = false) (hsd : r.sd = some b) (hal : r.al = false)

  | fresh (hw : wantedB n ops o env = some true) (H H0 h' : AH) (hH : hs[r.k]? = some H) (hq : hs[r.lq]? = some H0) (hqk : r.lq ≤ r.k) (hlk : H.lock ≤ H0.next) (hop : opB P G ext orc n o env (H.from H0.next) = some (r.v, some h')) (hH' : hs[r.k + 1]? = some { h' with lock := H.lock }) (he : r.e = true) (hwr : r.wr = false) (hfr : r.free = false) (hfw : r.fw = true) (hsd : r.sd = none) (hal : r.al = false)

structure Fact (P : Program) (G n : Nat) (ext : FuncId → Option Ext) (orc : Orc) (sq : Option Nat) (ops : Array Oper) (ms : List Nat) (env0 : T (Option Value)) (rs : List Rec) (hs : List AH) (j : Nat) (o : Oper) (r : Rec) : Prop where
  dst : r.dst = o.dst
  lt : ∀ d : Nat, r.dst = some d → d < n
  kind : Kind P G n ext orc sq ops ms rs j (envAt n ops ms env0 rs j) o hs r
  apart : ∀ (i : Nat) (p : Oper), i < j → ops[i]? = some p → Bef ms j i ∨ Oper.apart ops p o = true
  chain : ∀ (i : Nat) (q : Rec), i < j → rs[i]? = some q → q.e = true → (Bef ms j i ↔ q.k < r.k)
  room : r.k < hs.length
  more : ∀ c, c < r.k → ∃ (i : Nat) (q : Rec), i < j ∧ rs[i]? = some q ∧ q.e = true ∧ q.k = c
  incr : r.e = true → ∀ (i : Nat) (q : Rec), i < j → rs[i]? = some q → q.e = true → q.k < r.k
  wrote : r.free = false → ∀ (i : Nat) (q : Rec), i < j → rs[i]? = some q → q.wr = true → Bef ms j i
  looked : r.wr = true → ∀ (i : Nat) (q : Rec), i < j → rs[i]? = some q → q.free = false → Bef ms j i
  wroteQ : r.free = false → ∀ (i : Nat) (q : Rec), i < j → rs[i]? = some q → q.fw = true → Bef ms j i ∨ r.k ≤ q.lq
  lookedQ : r.fw = true → ∀ (i : Nat) (q : Rec), i < j → rs[i]? = some q → q.free = false → Bef ms j i ∨ q.k ≤ r.lq

structure Sound (P : Program) (G n : Nat) (ext : FuncId → Option Ext) (orc : Orc) (sq : Option Nat) (ops : Array Oper) (ms : List Nat) (env0 : T (Option Value)) (h0 : AH) (i : Nat) (rs : List Rec) (hs : List AH) : Prop where
  head : hs[0]? = some h0
  len : rs.length = i
  pos : 1 ≤ hs.length
  all : ∀ c, c + 1 < hs.length → ∃ (j : Nat) (r : Rec), rs[j]? = some r ∧ r.e = true ∧ r.k = c
  bound : ∀ (j : Nat) (r : Rec), rs[j]? = some r → r.e = true → r.k + 1 < hs.length
  fact : ∀ (j : Nat) (r : Rec), rs[j]? = some r → ∃ o, ops[j]? = some o ∧ Fact P G n ext orc sq ops ms env0 rs hs j o r

theorem pairsOk_ok {o : Oper} {m k : Nat} : ∀ (rs : List Rec) (ps : List Oper) (j : Nat), pairsOk ops o m k rs ps j = true → ∀ (i : Nat) (q : Rec), rs[i]? = some q → ∃ p, ps[i]? = some p ∧
    (Nat.testBit m (j + i) = true ∨ Oper.apart ops p o = true) ∧ (q.e = true → (Nat.testBit m (j + i) = true ↔ q.k < k))
  | [], _, _, _, i, q, hq => by simp at hq
  | r :: rs, [], _, h, _, _, _ => by simp [pairsOk] at h
  | r :: rs, p :: ps, j, h, i, q, hq => by
    simp only [pairsOk, Bool.and_eq_true, Bool.or_eq_true] at h
    obtain ⟨⟨h1, h2⟩, h3⟩ := h
    cases i with
    | zero =>
      simp at hq
      subst hq
      refine ⟨p, rfl, by simpa using h1, ?_⟩
      intro he
      simp only [he, Bool.not_true, Bool.false_eq_true, false_or, beq_iff_eq] at h2
      rw [Nat.add_zero, h2]
      exact blt_iff
    | succ i =>
      obtain ⟨p', g1, g2, g3⟩ := pairsOk_ok rs ps (j + 1) h3 i q (by simpa using hq)
      exact ⟨p', by simpa using g1, by rw [show j + (i + 1) = j + 1 + i from by omega]; exact g2, by rw [show j + (i + 1) = j + 1 + i from by omega]; exact g3⟩

theorem allE_ok {p : Rec → Bool} {m : Nat} : ∀ (rs : List Rec) (j : Nat), allE p m rs j = true → ∀ (i : Nat) (q : Rec), rs[i]? = some q → p q = true → Nat.testBit m (j + i) = true
  | [], _, _, i, q, hq => by simp at hq
  | r :: rs, j, h, i, q, hq => by
    simp only [allE, Bool.and_eq_true, Bool.or_eq_true] at h
    intro hp
    cases i with
    | zero =>
      simp at hq
      subst hq
      rcases h.1 with h1 | h1
      · rw [hp] at h1; cases h1
      · exact h1
    | succ i => rw [show j + (i + 1) = j + 1 + i from by omega]; exact allE_ok rs (j + 1) h.2 i q (by simpa using hq) hp

theorem getElem?_snoc {α : Type} {l : List α} {x : α} {i : Nat} {y : α} (h : (l ++ [x])[i]? = some y) : l[i]? = some y ∨ (i = l.length ∧ y = x) := by
  by_cases hi : i < l.length
  · rw [List.getElem?_append_left hi] at h; exact .inl h
  · rw [List.getElem?_append_right (by omega)] at h
    have hlt : i - l.length < [x].length := (List.getElem?_eq_some_iff.1 h).1
    simp at hlt
    have : i = l.length := by omega
    subst this
    simp at h
    exact .inr ⟨rfl, h.symm⟩

theorem getElem?_left {α : Type} {l l' : List α} {i : Nat} {y : α} (h : l[i]? = some y) : (l ++ l')[i]? = some y := by
  rw [List.getElem?_append_left (List.getElem?_eq_some_iff.1 h).1]; exact h

theorem SideOf.more {rs : List Rec} {x : Rec} {j : Nat} {L : List (Nat × Blk)} (h : SideOf sq ms rs j L) (hj : j ≤ rs.length) : SideOf sq ms (rs ++ [x]) j L := by
  refine ⟨h.1, fun p hp => ?_⟩
  obtain ⟨s, i1, r1, g1, g2, g3, g4, g5, g6, g7⟩ := h.2 p hp
  exact ⟨s, i1, r1, g1, g2, getElem?_left g3, g4, g5, g6, fun ie re h1 h2 => g7 ie re h1 (by rwa [List.getElem?_append_left (by omega)] at h2)⟩

theorem Kind.more {env : T (Option Value)} {rs : List Rec} {x : Rec} {o : Oper} {hs hs2 : List AH} {r : Rec} {i : Nat} (hi : i ≤ rs.length) (k : Kind P G n ext orc sq ops ms rs i env o hs r) : Kind P G n ext orc sq ops ms (rs ++ [x]) i env o (hs ++ hs2) r := by
  cases k with
  | off a b c d e f z y => exact .off a b c d e f z y
  | side a s b kv c c2 d e f g h i j y => exact .side a s b kv c c2 d e f g h i j y
  | alike a b H hH c d e f g h y => exact .alike a b H (getElem?_left hH) c d e f g h y
  | free a H hH b c d e f z y => exact .free a H (getElem?_left hH) b c d e f z y
  | keep a H hH b c d e f z y => exact .keep a H (getElem?_left hH) b c d e f z y
  | grow a H h' hH b hH' c d e f z y => exact .grow a H h' (getElem?_left hH) b (getElem?_left hH') c d e f z y
  | seen a L hL H ho hH b hH' c d e f z y => exact .seen a L (hL.more hi) H ho (getElem?_left hH) b (getElem?_left hH') c d e f z y
  | enter a L hL H ho hH b hH' c d e f g z y => exact .enter a L (hL.more hi) H ho (getElem?_left hH) b (getElem?_left hH') c d e f g z y
  | write a H ho hH b hH' c d e f z y => exact .write a H ho (getElem?_left hH) b (getElem?_left hH') c d e f z y
  | fresh a H H0 h' hH hq hqk hlk b hH' c d e f z y => exact .fresh a H H0 h' (getElem?_left hH) (getElem?_left hq) hqk hlk b (getElem?_left hH') c d e f z y

theorem Fact.snoc {rs : List Rec} {hs hs2 : List AH} {j : Nat} {o : Oper} {r x : Rec} (hj : j < rs.length) (f : Fact P G n ext orc sq ops ms env0 rs hs j o r) : Fact P G n ext orc sq ops ms env0 (rs ++ [x]) (hs ++ hs2) j o r := by
  have back : ∀ (i : Nat) (q : Rec), i < j → (rs ++ [x])[i]? = some q → rs[i]? = some q := by
    intro i q hi hq
    rwa [List.getElem?_append_left (by omega)] at hq
  have henv : envAt n ops ms env0 (rs ++ [x]) j = envAt n ops ms env0 rs j := by
    unfold envAt
    rw [List.take_append_of_le_length (by omega)]
  refine ⟨f.dst, f.lt, ?_, f.apart, fun i q hi hq => f.chain i q hi (back i q hi hq), ?_, ?_, fun he i q hi hq => f.incr he i q hi (back i q hi hq), fun he i q hi hq => f.wrote he i q hi (back i q hi hq), fun he i q hi hq => f.looked he i q hi (back i q hi hq), fun he i q hi hq => f.wroteQ he i q hi (back i q hi hq), fun he i q hi hq => f.lookedQ he i q hi (back i q hi hq)⟩
  · rw [henv]; exact f.kind.more (by omega)
  · have := f.room; simp; omega
  · intro c hc
    obtain ⟨i, q, h1, h2, h3⟩ := f.more c hc
    exact ⟨i, q, h1, getElem?_left h2, h3⟩

theorem loadF_ok {op : Op} (h : loadF sq op = true) : isLoad op = true := by
  cases sq with
  | none => cases h
  | some s => exact h

theorem sideF_ok {o : Oper} {env : T (Option Value)} {b : Blk} {kv : Nat → Value} {s : Nat} (h : sideF P G n o env sq = some (b, kv, s)) : sq = some s ∧ s < 16777216 ∧ sideB P G n o env = some (b, kv) := by
  cases sq with
  | none => cases h
  | some q =>
    simp only [sideF] at h
    split at h
    · rename_i hlt
      split at h
      · rename_i hb
        cases h
        exact ⟨rfl, blt_iff.1 hlt, hb⟩
      · cases h
    · cases h

/-- The facts that every kind shares. -/
theorem mk_ok {i : Nat} {o : Oper} {os : List Oper} {rs : List Rec} {hs : List AH} {h0 H : AH} (x : Sound P G n ext orc sq ops ms env0 h0 i rs hs) (hos : ops.toList.drop i = o :: os) (hdst : dstOk n o = true)
    (hpk : pairsOk ops o (ms.getD i 0) (countE rs 0 (ms.getD i 0)) rs ops.toList 0 = true) (hH : hs[countE rs 0 (ms.getD i 0)]? = some H) : ∀ (y : Rec) (hs2 : List AH), y.dst = o.dst → y.k = countE rs 0 (ms.getD i 0) → Kind P G n ext orc sq ops ms rs i (hideLater n i ms os (i + 1) (envB n (ms.getD i 0) rs 0 env0)) o (hs ++ hs2) y →
      (y.e = true → y.k + 1 = hs.length ∧ hs2.length = 1) → (y.e = false → hs2 = []) → (y.free = false → ∀ (j : Nat) (q : Rec), rs[j]? = some q → q.wr = true → Nat.testBit (ms.getD i 0) j = true) →
      (y.wr = true → ∀ (j : Nat) (q : Rec), rs[j]? = some q → q.free = false → Nat.testBit (ms.getD i 0) j = true) →
      (y.free = false → ∀ (j : Nat) (q : Rec), rs[j]? = some q → q.fw = true → Nat.testBit (ms.getD i 0) j = true ∨ y.k ≤ q.lq) →
      (y.fw = true → ∀ (j : Nat) (q : Rec), rs[j]? = some q → q.free = false → Nat.testBit (ms.getD i 0) j = true ∨ q.k ≤ y.lq) → Sound P G n ext orc sq ops ms env0 h0 (i + 1) (rs ++ [y]) (hs ++ hs2) := by
  have ho : ops[i]? = some o := by
    have := congrArg (·[0]?) hos
    simpa using this
  have hos' : ops.toList.drop (i + 1) = os := by
    rw [← List.drop_drop, hos]; rfl
  have hlen := x.len
  have hpairs := pairsOk_ok _ _ _ hpk
  have hroom : countE rs 0 (ms.getD i 0) < hs.length := (List.getElem?_eq_some_iff.1 hH).1
  have hmore : ∀ c, c < countE rs 0 (ms.getD i 0) → ∃ (j : Nat) (q : Rec), j < i ∧ rs[j]? = some q ∧ q.e = true ∧ q.k = c := by
    intro c hc
    obtain ⟨j, q, h1, h2, h3⟩ := x.all c (by omega)
    exact ⟨j, q, by rw [← hlen]; exact (List.getElem?_eq_some_iff.1 h1).1, h1, h2, h3⟩
  have henv : ∀ y : Rec, envAt n ops ms env0 (rs ++ [y]) i = hideLater n i ms os (i + 1) (envB n (ms.getD i 0) rs 0 env0) := by
    intro y
    unfold envAt
    rw [hos', List.take_append_of_le_length (by omega), List.take_of_length_le (by omega)]
  have hlt : ∀ d : Nat, o.dst = some d → d < n := by
    intro d hd
    unfold dstOk at hdst
    rw [hd] at hdst
    exact blt_iff.1 hdst
  have back : ∀ {y : Rec} (j : Nat) (q : Rec), j < i → (rs ++ [y])[j]? = some q → rs[j]? = some q := by
    intro y j q hj hq
    rwa [List.getElem?_append_left (by omega)] at hq
  intro y hs2 hyd hyk hkind hyE hyN hyW hyL hyW2 hyL2
  refine ⟨getElem?_left x.head, by simp [hlen], by have := x.pos; simp; omega, ?_, ?_, ?_⟩
  · intro c hc
    by_cases hc' : c + 1 < hs.length
    · obtain ⟨j, q, h1, h2, h3⟩ := x.all c hc'
      exact ⟨j, q, getElem?_left h1, h2, h3⟩
    · cases hye : y.e with
      | false => rw [hyN hye] at hc; simp at hc; omega
      | true =>
        obtain ⟨e1, e2⟩ := hyE hye
        rw [List.length_append, e2] at hc
        exact ⟨rs.length, y, by simp, hye, by omega⟩
  · intro j q hq he
    rcases getElem?_snoc hq with hq' | ⟨_, rfl⟩
    · have := x.bound j q hq' he
      simp; omega
    · obtain ⟨e1, e2⟩ := hyE he
      simp; omega
  · intro j q hq
    rcases getElem?_snoc hq with hq' | ⟨rfl, rfl⟩
    · obtain ⟨p, hp, hf⟩ := x.fact j q hq'
      exact ⟨p, hp, hf.snoc (List.getElem?_eq_some_iff.1 hq').1⟩
    · rw [hlen]
      refine ⟨o, ho, hyd, by rw [hyd]; exact hlt, by rw [henv]; simpa only [List.append_nil] using Kind.more (hs2 := []) (x := q) (by omega) hkind, ?_, ?_, by rw [hyk, List.length_append]; omega, ?_, ?_, fun hf j q' hj hq' => hyW hf j q' (back j q' hj hq'), fun hf j q' hj hq' => hyL hf j q' (back j q' hj hq'), fun hf j q' hj hq' => hyW2 hf j q' (back j q' hj hq'), fun hf j q' hj hq' => hyL2 hf j q' (back j q' hj hq')⟩
      · intro j p hj hp
        obtain ⟨q', hq'⟩ : ∃ q', rs[j]? = some q' := ⟨rs[j]'(by omega), List.getElem?_eq_getElem (by omega)⟩
        obtain ⟨p', hp', h1, _⟩ := hpairs j q' hq'
        have : p' = p := by
          have hp'' : ops[j]? = some p' := by simpa using hp'
          rw [hp] at hp''; cases hp''; rfl
        subst this
        simpa [Bef] using h1
      · intro j q' hj hq' he
        obtain ⟨p', hp', _, h2⟩ := hpairs j q' (back j q' hj hq')
        rw [hyk]
        simpa [Bef] using h2 he
      · intro c hc
        rw [hyk] at hc
        obtain ⟨j, q', h1, h2, h3⟩ := hmore c hc
        exact ⟨j, q', h1, getElem?_left h2, h3⟩
      · intro he j q' hj hq' he'
        have := x.bound j q' (back j q' hj hq') he'
        have := (hyE he).1
        omega

theorem stepD_ok {i : Nat} {o : Oper} {os : List Oper} {rs : List Rec} {hs hs' : List AH} {r : Rec} {h0 : AH} (x : Sound P G n ext orc sq ops ms env0 h0 i rs hs) (hos : ops.toList.drop i = o :: os) (h : stepD P G ext sq orc n ops ms env0 i o os rs hs = some (r, hs')) :
    Sound P G n ext orc sq ops ms env0 h0 (i + 1) (rs ++ [r]) hs' := by
  have ho : ops[i]? = some o := by
    have := congrArg (·[0]?) hos
    simpa using this
  have hos' : ops.toList.drop (i + 1) = os := by
    rw [← List.drop_drop, hos]; rfl
  have hlen := x.len
  unfold stepD at h
  simp only at h
  split at h
  case h_2 => cases h
  rename_i H hpk hH
  simp only [Bool.and_eq_true] at hpk
  obtain ⟨hdst, hpk⟩ := hpk
  have mk := mk_ok x hos hdst hpk hH
  split at h
  · rename_i hw
    cases h
    have := mk ⟨o.dst, undef, countE rs 0 (ms.getD i 0), false, false, true, false, 0, none, false⟩ [] rfl rfl (.off hw rfl rfl rfl rfl rfl rfl rfl) (fun he => by cases he) (fun _ => rfl) (fun he => by cases he) (fun he => by cases he) (fun he => by cases he) (fun he => by cases he)
    simpa using this
  · rename_i hw
    split at h
    · rename_i b kv s hsf
      cases h
      obtain ⟨hsq, hs65, hsb⟩ := sideF_ok hsf
      have := mk ⟨o.dst, kv (s + i), countE rs 0 (ms.getD i 0), false, false, true, false, 0, some b, false⟩ [] rfl rfl (.side hw s b kv hsq hs65 hsb rfl rfl rfl rfl rfl rfl rfl) (fun he => by cases he) (fun _ => rfl) (fun he => by cases he) (fun he => by cases he) (fun he => by cases he) (fun he => by cases he)
      simpa using this
    split at h
    · rename_i hlf
      split at h
      · rename_i v hop
        cases h
        have := mk ⟨o.dst, v, countE rs 0 (ms.getD i 0), false, false, true, false, 0, none, true⟩ [] rfl rfl (.alike hw (loadF_ok hlf) H (by simpa using hH) hop rfl rfl rfl rfl rfl rfl) (fun he => by cases he) (fun _ => rfl) (fun he => by cases he) (fun he => by cases he) (fun he => by cases he) (fun he => by cases he)
        simpa using this
      · cases h
    split at h
    · rename_i v hfree
      cases h
      unfold freeF at hfree
      split at hfree
      · have := mk ⟨o.dst, v, countE rs 0 (ms.getD i 0), false, false, true, false, 0, none, false⟩ [] rfl rfl (.free hw H (by simpa using hH) hfree rfl rfl rfl rfl rfl rfl) (fun he => by cases he) (fun _ => rfl) (fun he => by cases he) (fun he => by cases he) (fun he => by cases he) (fun he => by cases he)
        simpa using this
      · cases hfree
    · split at h
      case h_2 => cases h
      rename_i hallw
      simp only [Bool.and_eq_true] at hallw
      have haw := allE_ok _ _ hallw.1
      have haq : ∀ (j : Nat) (q : Rec), rs[j]? = some q → q.fw = true → Nat.testBit (ms.getD i 0) j = true ∨ countE rs 0 (ms.getD i 0) ≤ q.lq := by
        intro j q hq hf
        cases hb : Nat.ble (countE rs 0 (ms.getD i 0)) q.lq with
        | true => exact .inr (ble_iff.1 hb)
        | false => exact .inl (by simpa using allE_ok _ _ hallw.2 j q hq (by simp only [hf, hb]; rfl))
      split at h
      · rename_i v hop
        cases h
        have := mk ⟨o.dst, v, countE rs 0 (ms.getD i 0), false, false, false, false, 0, none, false⟩ [] rfl rfl (.keep hw H (by simpa using hH) hop rfl rfl rfl rfl rfl rfl) (fun he => by cases he) (fun _ => rfl) (fun _ j q hq hp => by simpa using haw j q hq hp) (fun he => by cases he) (fun _ => haq) (fun he => by cases he)
        simpa using this
      · rename_i v h1 hop
        split at h
        case h_2 => cases h
        rename_i hk
        have hk' := beq_iff.1 hk
        cases h
        refine mk ⟨o.dst, v, countE rs 0 (ms.getD i 0), true, false, false, false, 0, none, false⟩ [_] rfl rfl (.grow hw H h1 (getElem?_left hH) hop ?_ rfl rfl rfl rfl rfl rfl) (fun _ => ⟨hk', rfl⟩) (fun he => by cases he) (fun _ j q hq hp => by simpa using haw j q hq hp) (fun he => by cases he) (fun _ => haq) (fun he => by cases he)
        simp only
        rw [hk', List.getElem?_append_right (by omega)]
        simp
      · split at h
        · rename_i q hfq
          split at h
          case h_2 => cases h
          rename_i H0 hq hk
          simp only [Bool.and_eq_true] at hk
          have hk' := beq_iff.1 hk.1
          have hqk := ble_iff.1 hk.2.1
          have hnq : ∀ (j : Nat) (p : Rec), rs[j]? = some p → p.free = false → Nat.testBit (ms.getD i 0) j = true ∨ p.k ≤ q := by
            intro j p hp hf
            cases hb : Nat.ble p.k q with
            | true => exact .inr (ble_iff.1 hb)
            | false => exact .inl (by simpa using allE_ok _ _ hk.2.2 j p hp (by simp only [hf, hb]; rfl))
          split at h
          case h_2 => cases h
          rename_i v h1 hlk hop
          cases h
          refine mk ⟨o.dst, v, countE rs 0 (ms.getD i 0), true, false, false, true, q, none, false⟩ [_] rfl rfl (.fresh hw H H0 h1 (getElem?_left hH) (getElem?_left hq) hqk (ble_iff.1 hlk) hop ?_ rfl rfl rfl rfl rfl rfl) (fun _ => ⟨hk', rfl⟩) (fun he => by cases he) (fun _ j q hq hp => by simpa using haw j q hq hp) (fun he => by cases he) (fun _ => haq) (fun _ => hnq)
          simp only
          rw [hk', List.getElem?_append_right (by omega)]
          simp
        · split at h
          case h_2 => cases h
          rename_i hk
          simp only [Bool.and_eq_true] at hk
          have hk' := beq_iff.1 hk.1
          have hnf := allE_ok _ _ hk.2
          split at h
          case h_2 => cases h
          rename_i v ho' hop
          cases h
          refine mk ⟨o.dst, v, countE rs 0 (ms.getD i 0), true, true, false, false, 0, none, false⟩ [_] rfl rfl (.write hw H ho' (getElem?_left hH) hop ?_ rfl rfl rfl rfl rfl rfl) (fun _ => ⟨hk', rfl⟩) (fun he => by cases he) (fun _ j q hq hp => by simpa using haw j q hq hp) (fun _ j q hq hp => by simpa using hnf j q hq (by simp [hp])) (fun _ => haq) (fun he => by cases he)
          simp only
          rw [hk', List.getElem?_append_right (by omega)]
          simp
  · cases h

theorem seenL_mem {m s : Nat} : ∀ {l : List (Nat × Blk)} {p : Nat × Blk}, p ∈ seenL m s l → p ∈ l ∧ Nat.testBit m (p.1 - s) = true
  | (q, b) :: l, p, hp => by
    simp only [seenL] at hp
    split at hp
    · rename_i hb
      rcases List.mem_cons.1 hp with rfl | hp
      · exact ⟨by simp, hb⟩
      · obtain ⟨h1, h2⟩ := seenL_mem hp
        exact ⟨by simp [h1], h2⟩
    · obtain ⟨h1, h2⟩ := seenL_mem hp
      exact ⟨by simp [h1], h2⟩
theorem seenL_pair {m s : Nat} {R : Nat × Blk → Nat × Blk → Prop} : ∀ {l : List (Nat × Blk)}, l.Pairwise R → (seenL m s l).Pairwise R
  | [], _ => by simp [seenL]
  | (q, b) :: l, h => by
    rw [List.pairwise_cons] at h
    simp only [seenL]
    split
    · exact List.pairwise_cons.2 ⟨fun p hp => h.1 p (seenL_mem hp).1, seenL_pair h.2⟩
    · exact seenL_pair h.2
theorem restL_mem {m s : Nat} : ∀ {l : List (Nat × Blk)} {p : Nat × Blk}, p ∈ restL m s l → p ∈ l ∧ Nat.testBit m (p.1 - s) = false
  | (q, b) :: l, p, hp => by
    simp only [restL] at hp
    split at hp
    · obtain ⟨h1, h2⟩ := restL_mem hp
      exact ⟨by simp [h1], h2⟩
    · rename_i hb
      rcases List.mem_cons.1 hp with rfl | hp
      · exact ⟨by simp, hb⟩
      · obtain ⟨h1, h2⟩ := restL_mem hp
        exact ⟨by simp [h1], h2⟩
theorem restL_pair {m s : Nat} {R : Nat × Blk → Nat × Blk → Prop} : ∀ {l : List (Nat × Blk)}, l.Pairwise R → (restL m s l).Pairwise R
  | [], _ => by simp [restL]
  | (q, b) :: l, h => by
    rw [List.pairwise_cons] at h
    simp only [restL]
    split
    · exact restL_pair h.2
    · exact List.pairwise_cons.2 ⟨fun p hp => h.1 p (restL_mem hp).1, restL_pair h.2⟩

/-- What an operation may look at, out of what has not been entered. -/
theorem SideNow.seen {rs : List Rec} {sd : List (Nat × Blk)} (h : SideNow sq ms rs sd) : SideOf sq ms rs rs.length (seenS (ms.getD rs.length 0) sq sd) := by
  unfold seenS
  cases hsq : sq with
  | none => exact ⟨List.Pairwise.nil, fun p hp => by cases hp⟩
  | some s =>
    refine ⟨seenL_pair h.1, fun p hp => ?_⟩
    obtain ⟨h1, h2⟩ := seenL_mem hp
    obtain ⟨s', i1, r1, g1, g2, g3, g4, g5⟩ := h.2 p h1
    rw [hsq] at g1; cases g1
    refine ⟨s, i1, r1, rfl, (List.getElem?_eq_some_iff.1 g2).1, g2, g3, g4, ?_, fun ie re _ => g5 ie re⟩
    unfold Bef
    rw [← h2]
    congr 1
    omega

theorem SideNow.keep {rs : List Rec} {sd : List (Nat × Blk)} {r : Rec} (h : SideNow sq ms rs sd) (hr : enR r = false) : SideNow sq ms (rs ++ [r]) sd := by
  refine ⟨h.1, fun p hp => ?_⟩
  obtain ⟨s, i1, r1, g1, g2, g3, g4, g5⟩ := h.2 p hp
  refine ⟨s, i1, r1, g1, getElem?_left g2, g3, g4, fun ie re h1 h2 => ?_⟩
  rcases getElem?_snoc h1 with h1 | ⟨_, rfl⟩
  · exact g5 ie re h1 h2
  · rw [hr] at h2; cases h2

theorem SideNow.next (x : Ord ops ms) {rs : List Rec} {sd : List (Nat × Blk)} {r : Rec} (h : SideNow sq ms rs sd) (hr : enR r = false) (hlen : rs.length ≤ ops.size) : SideNow sq ms (rs ++ [r]) (nextS sq sd rs.length r) := by
  unfold nextS
  split
  · exact h.keep hr
  · rename_i s
    split
    · rename_i b hb
      refine ⟨?_, fun p hp => ?_⟩
      · refine List.pairwise_append.2 ⟨h.1, by simp, fun p hp q hq => ?_⟩
        simp only [List.mem_singleton] at hq
        subst hq
        obtain ⟨s', i1, r1, g1, g2, g3, g4, g5⟩ := h.2 p hp
        cases g1
        have := (List.getElem?_eq_some_iff.1 g2).1
        simp only
        omega
      · rcases List.mem_append.1 hp with hp | hp
        · exact (h.keep hr).2 p hp
        · simp only [List.mem_singleton] at hp
          subst hp
          refine ⟨s, rs.length, r, rfl, by simp, hb, rfl, fun ie re h1 h2 hbf => ?_⟩
          have hie : ie < rs.length := by
            rcases getElem?_snoc h1 with h1 | ⟨_, rfl⟩
            · exact (List.getElem?_eq_some_iff.1 h1).1
            · rw [hr] at h2; cases h2
          have := x.lt ie rs.length (by omega) hbf
          omega
    · exact h.keep hr

theorem SideNow.rest {rs : List Rec} {sd : List (Nat × Blk)} {r : Rec} (h : SideNow sq ms rs sd) : SideNow sq ms (rs ++ [r]) (restS (ms.getD rs.length 0) sq sd) := by
  unfold restS
  cases hsq : sq with
  | none =>
    refine ⟨h.1, fun p hp => ?_⟩
    obtain ⟨s, i1, r1, g1, _⟩ := h.2 p hp
    rw [hsq] at g1; cases g1
  | some s =>
    refine ⟨restL_pair h.1, fun p hp => ?_⟩
    obtain ⟨h1, h2⟩ := restL_mem hp
    obtain ⟨s', i1, r1, g1, g2, g3, g4, g5⟩ := h.2 p h1
    rw [hsq] at g1; cases g1
    refine ⟨s, i1, r1, rfl, getElem?_left g2, g3, g4, fun ie re h3 h4 hb => ?_⟩
    rcases getElem?_snoc h3 with h3 | ⟨rfl, rfl⟩
    · exact g5 ie re h3 h4 hb
    · unfold Bef at hb
      rw [show p.1 - s = i1 by omega] at h2
      rw [h2] at hb; cases hb

theorem seenD_ok {i : Nat} {o : Oper} {os : List Oper} {rs : List Rec} {hs hs' : List AH} {r : Rec} {h0 : AH} {sd : List (Nat × Blk)} (x : Sound P G n ext orc sq ops ms env0 h0 i rs hs) (hN : SideNow sq ms rs sd) (hos : ops.toList.drop i = o :: os) (h : seenD P G ext sq orc n ops ms env0 i o os rs hs sd = some (r, hs')) :
    Sound P G n ext orc sq ops ms env0 h0 (i + 1) (rs ++ [r]) hs' ∧ enR r = false := by
  have hlen := x.len
  have hsee := hN.seen
  rw [hlen] at hsee
  unfold seenD at h
  simp only at h
  split at h
  case h_2 => cases h
  rename_i H hpk hH
  simp only [Bool.and_eq_true] at hpk
  obtain ⟨hdst, hpk⟩ := hpk
  have mk := mk_ok x hos hdst hpk hH
  split at h
  case h_2 => cases h
  rename_i hw hallw hk
  simp only [Bool.and_eq_true] at hallw
  have haw := allE_ok _ _ hallw.1
  have haq : ∀ (j : Nat) (q : Rec), rs[j]? = some q → q.fw = true → Nat.testBit (ms.getD i 0) j = true ∨ countE rs 0 (ms.getD i 0) ≤ q.lq := by
    intro j q hq hf
    cases hb : Nat.ble (countE rs 0 (ms.getD i 0)) q.lq with
    | true => exact .inr (ble_iff.1 hb)
    | false => exact .inl (by simpa using allE_ok _ _ hallw.2 j q hq (by simp only [hf, hb]; rfl))
  have hk' := beq_iff.1 hk
  split at h
  case h_2 => cases h
  rename_i v ho hop
  cases h
  refine ⟨mk ⟨o.dst, v, countE rs 0 (ms.getD i 0), true, false, false, false, 0, none, false⟩ [_] rfl rfl (.seen hw _ hsee H ho (getElem?_left hH) hop ?_ rfl rfl rfl rfl rfl rfl) (fun _ => ⟨hk', rfl⟩) (fun he => by cases he) (fun _ j q hq hp => by simpa using haw j q hq hp) (fun he => by cases he) (fun _ => haq) (fun he => by cases he), rfl⟩
  simp only
  rw [hk', List.getElem?_append_right (by omega)]
  simp

theorem enterD_ok {i : Nat} {o : Oper} {os : List Oper} {rs : List Rec} {hs hs' : List AH} {r : Rec} {h0 : AH} {sd : List (Nat × Blk)} (x : Sound P G n ext orc sq ops ms env0 h0 i rs hs) (hN : SideNow sq ms rs sd) (hos : ops.toList.drop i = o :: os) (h : enterD P G ext sq orc n ops ms env0 i o os rs hs sd = some (r, hs')) :
    Sound P G n ext orc sq ops ms env0 h0 (i + 1) (rs ++ [r]) hs' := by
  have hlen := x.len
  have hsee := hN.seen
  rw [hlen] at hsee
  unfold enterD at h
  simp only at h
  split at h
  case h_2 => cases h
  rename_i H hpk hH
  simp only [Bool.and_eq_true] at hpk
  obtain ⟨hdst, hpk⟩ := hpk
  have mk := mk_ok x hos hdst hpk hH
  split at h
  case h_2 => cases h
  rename_i hw hallw hk
  simp only [Bool.and_eq_true] at hallw hk
  have haw := allE_ok _ _ hallw.1
  have hnf := allE_ok _ _ hk.2
  have haq : ∀ (j : Nat) (q : Rec), rs[j]? = some q → q.fw = true → Nat.testBit (ms.getD i 0) j = true ∨ countE rs 0 (ms.getD i 0) ≤ q.lq := by
    intro j q hq hf
    cases hb : Nat.ble (countE rs 0 (ms.getD i 0)) q.lq with
    | true => exact .inr (ble_iff.1 hb)
    | false => exact .inl (by simpa using allE_ok _ _ hallw.2 j q hq (by simp only [hf, hb]; rfl))
  have hk' := beq_iff.1 hk.1
  split at h
  case h_2 => cases h
  rename_i v ho hop
  cases h
  refine mk ⟨o.dst, v, countE rs 0 (ms.getD i 0), true, true, false, false, 1, none, false⟩ [_] rfl rfl (.enter hw _ hsee H ho (getElem?_left hH) hop ?_ rfl rfl rfl rfl rfl rfl rfl) (fun _ => ⟨hk', rfl⟩) (fun he => by cases he) (fun _ j q hq hp => by simpa using haw j q hq hp) (fun _ j q hq hp => by simpa using hnf j q hq (by simp [hp])) (fun _ => haq) (fun he => by cases he)
  simp only
  rw [hk', List.getElem?_append_right (by omega)]
  simp

theorem stepD_en {i : Nat} {o : Oper} {os : List Oper} {rs : List Rec} {hs hs' : List AH} {r : Rec} (h : stepD P G ext sq orc n ops ms env0 i o os rs hs = some (r, hs')) : enR r = false := by
  unfold stepD at h
  simp only at h
  unfold enR
  repeat' split at h
  all_goals first | (cases h; done) | (cases h; rfl) | (cases h; simp)

theorem drawGo_ok {h0 : AH} (xo : Ord ops ms) : ∀ (os : List Oper) (i : Nat) (rs : List Rec) (hs : List AH) (sd : List (Nat × Blk)) (RS : List Rec) (HS : List AH) (SD : List (Nat × Blk)), ops.toList.drop i = os → Sound P G n ext orc sq ops ms env0 h0 i rs hs → SideNow sq ms rs sd → DrawGo P G ext sq orc n ops ms env0 i os rs hs sd RS HS SD →
    Sound P G n ext orc sq ops ms env0 h0 (i + os.length) RS HS ∧ SideNow sq ms RS SD
  | [], i, rs, hs, sd, RS, HS, SD, _, x, hN, h => by
    simp only [DrawGo] at h
    obtain ⟨rfl, rfl, rfl⟩ := h
    exact ⟨by simpa using x, hN⟩
  | o :: os, i, rs, hs, sd, RS, HS, SD, hd, x, hN, h => by
    simp only [DrawGo] at h
    obtain ⟨r, hs1, sd1, hst, h⟩ := h
    have hlen := x.len
    have hlt : i < ops.size := by
      have := congrArg List.length hd
      simp at this
      omega
    have h1 : Sound P G n ext orc sq ops ms env0 h0 (i + 1) (rs ++ [r]) hs1 ∧ SideNow sq ms (rs ++ [r]) sd1 := by
      rcases hst with ⟨h1, rfl⟩ | ⟨h1, rfl⟩ | ⟨h1, rfl⟩
      · refine ⟨stepD_ok x hd h1, ?_⟩
        have := hN.next xo (stepD_en h1) (by omega)
        rwa [hlen] at this
      · obtain ⟨a, b⟩ := seenD_ok x hN hd h1
        exact ⟨a, hN.keep b⟩
      · refine ⟨enterD_ok x hN hd h1, ?_⟩
        have := hN.rest (r := r)
        rwa [hlen] at this
    have hd' : ops.toList.drop (i + 1) = os := by
      rw [← List.drop_drop, hd]; rfl
    have := drawGo_ok xo os (i + 1) _ _ _ RS HS SD hd' h1.1 h1.2 h
    rw [List.length_cons, show i + (os.length + 1) = i + 1 + os.length from by omega]
    exact this

theorem side_start : SideNow sq ms [] [] := ⟨List.Pairwise.nil, fun p hp => by cases hp⟩

theorem sound_start (h0 : AH) : Sound P G n ext orc sq ops ms env0 h0 0 [] [h0] :=
  ⟨rfl, rfl, Nat.le_refl _, fun c hc => by simp at hc, fun j r hr => by simp at hr, fun j r hr => by simp at hr⟩

end
end Go.Proofs.YtibffohcmegooaaGreatDoor.V
