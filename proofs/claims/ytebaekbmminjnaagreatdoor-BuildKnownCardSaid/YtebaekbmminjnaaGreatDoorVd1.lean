/- A statement whose order is open: which operations stand ahead of which, and the slots as each sees them. Conditions: none. -/
import Derived.Test.YtebaekbmminjnaaGreatDoorVl
namespace Go.Proofs.YtebaekbmminjnaaGreatDoor.V
set_option linter.all false
open Go

/-- Operation j stands ahead of operation i. -/
def Bef (ms : List Nat) (i j : Nat) : Prop := Nat.testBit (ms.getD i 0) j = true

theorem maskOf_ok {ms : List Nat} {i : Nat} : ∀ (es : List Edge) (m : Nat), maskOf ms i es = some m →
    (∀ e ∈ es, Region.binds .any e = true → e.on < i) ∧ ∀ j, Nat.testBit m j = true ↔ ∃ e ∈ es, Region.binds .any e = true ∧ (j = e.on ∨ Nat.testBit (ms.getD e.on 0) j = true)
  | [], m, h => by
    simp only [maskOf, Option.some.injEq] at h
    subst h
    simp
  | e :: es, m, h => by
    simp only [maskOf] at h
    split at h
    case h_2 => cases h
    rename_i m1 hm1
    obtain ⟨h1, h2⟩ := maskOf_ok es m1 hm1
    split at h
    · rename_i hb
      split at h
      · rename_i hlt
        simp only [Option.some.injEq] at h
        subst h
        refine ⟨?_, ?_⟩
        · intro e' he' hb'
          rcases List.mem_cons.1 he' with rfl | he'
          · exact Nat.blt_eq ▸ hlt
          · exact h1 e' he' hb'
        · intro j
          simp only [Nat.testBit_or, Nat.testBit_two_pow, Bool.or_eq_true, decide_eq_true_eq, h2, List.mem_cons]
          constructor
          · rintro ((⟨e', he', hb', hj⟩ | hj) | hj)
            · exact ⟨e', .inr he', hb', hj⟩
            · exact ⟨e, .inl rfl, hb, .inl hj.symm⟩
            · exact ⟨e, .inl rfl, hb, .inr hj⟩
          · rintro ⟨e', rfl | he', hb', hj⟩
            · rcases hj with hj | hj
              · exact .inl (.inr hj.symm)
              · exact .inr hj
            · exact .inl (.inl ⟨e', he', hb', hj⟩)
      · cases h
    · rename_i hb
      simp only [Option.some.injEq] at h
      subst h
      refine ⟨?_, ?_⟩
      · intro e' he' hb'
        rcases List.mem_cons.1 he' with rfl | he'
        · rw [hb] at hb'; cases hb'
        · exact h1 e' he' hb'
      · intro j
        rw [h2]
        constructor
        · rintro ⟨e', he', hr⟩
          exact ⟨e', List.mem_cons_of_mem _ he', hr⟩
        · rintro ⟨e', he', hb', hj⟩
          rcases List.mem_cons.1 he' with rfl | he'
          · rw [hb] at hb'; cases hb'
          · exact ⟨e', he', hb', hj⟩

theorem masksB_go : ∀ (os : List Oper) (ms0 ms : List Nat), masksB os ms0 = some ms → ms.length = ms0.length + os.length ∧ (∀ i, i < ms0.length → ms.getD i 0 = ms0.getD i 0) ∧
    ∀ i o, ms0.length ≤ i → os[i - ms0.length]? = some o → (∀ e ∈ o.after.toList, Region.binds .any e = true → e.on < i) ∧
      ∀ j, Bef ms i j ↔ ∃ e ∈ o.after.toList, Region.binds .any e = true ∧ (j = e.on ∨ Bef ms e.on j)
  | [], ms0, ms, h => by
    simp only [masksB, Option.some.injEq] at h
    subst h
    exact ⟨rfl, fun _ _ => rfl, fun i o _ ho => by simp at ho⟩
  | o :: os, ms0, ms, h => by
    simp only [masksB] at h
    split at h
    case h_2 => cases h
    rename_i m hm
    obtain ⟨h1, h2, h3⟩ := masksB_go os (ms0 ++ [m]) ms h
    simp only [List.length_append, List.length_cons, List.length_nil] at h1 h2 h3
    have hpre : ∀ i, i < ms0.length → ms.getD i 0 = ms0.getD i 0 := by
      intro i hi
      rw [h2 i (by omega)]
      simp [List.getD_eq_getElem?_getD, List.getElem?_append_left hi]
    refine ⟨by simp only [List.length_cons]; omega, hpre, ?_⟩
    intro i o' hi ho
    by_cases he : i = ms0.length
    · subst he
      simp at ho
      subst ho
      obtain ⟨g1, g2⟩ := maskOf_ok _ _ hm
      refine ⟨g1, ?_⟩
      intro j
      have hmi : ms.getD ms0.length 0 = m := by
        rw [h2 _ (by omega)]
        simp [List.getD_eq_getElem?_getD]
      unfold Bef
      rw [hmi, g2]
      constructor
      · rintro ⟨e, he, hb, hj⟩
        exact ⟨e, he, hb, by rwa [hpre _ (g1 e he hb)]⟩
      · rintro ⟨e, he, hb, hj⟩
        exact ⟨e, he, hb, by rwa [hpre _ (g1 e he hb)] at hj⟩
    · refine h3 i o' (by omega) ?_
      rw [show i - ms0.length = (i - (ms0.length + 1)) + 1 from by omega] at ho
      simpa using ho

/-- The order of a statement's operations. -/
structure Ord (ops : Array Oper) (ms : List Nat) : Prop where
  edge : ∀ (i : Nat) (o : Oper) (e : Edge), ops[i]? = some o → e ∈ o.after.toList → Region.binds .any e = true → e.on < i ∧ Bef ms i e.on
  dir : ∀ (i j : Nat) (o : Oper), ops[i]? = some o → Bef ms i j → ∃ e ∈ o.after.toList, Region.binds .any e = true ∧ (j = e.on ∨ Bef ms e.on j)
  up : ∀ (i j : Nat) (o : Oper) (e : Edge), ops[i]? = some o → e ∈ o.after.toList → Region.binds .any e = true → Bef ms e.on j → Bef ms i j

theorem Ord.of {ops : Array Oper} {ms : List Nat} (h : masksB ops.toList [] = some ms) : Ord ops ms := by
  obtain ⟨_, _, h3⟩ := masksB_go _ _ _ h
  have h3' : ∀ (i : Nat) (o : Oper), ops[i]? = some o → _ := fun i o ho => h3 i o (Nat.zero_le _) (by simpa using ho)
  refine ⟨fun i o e ho he hb => ⟨(h3' i o ho).1 e he hb, ((h3' i o ho).2 _).2 ⟨e, he, hb, .inl rfl⟩⟩, fun i j o ho hj => ((h3' i o ho).2 j).1 hj, fun i j o e ho he hb hj => ((h3' i o ho).2 j).2 ⟨e, he, hb, .inr hj⟩⟩

section
variable {ops : Array Oper} {ms : List Nat}

theorem some_of_lt {i : Nat} (hi : i < ops.size) : ∃ o, ops[i]? = some o := ⟨ops[i], Array.getElem?_eq_getElem hi⟩

theorem Ord.lt (x : Ord ops ms) : ∀ (i j : Nat), i < ops.size → Bef ms i j → j < i := by
  intro i
  induction i using Nat.strongRecOn with
  | ind i ih =>
    intro j hi hj
    obtain ⟨o, ho⟩ := some_of_lt hi
    obtain ⟨e, he, hb, hj⟩ := x.dir i j o ho hj
    have h1 := (x.edge i o e ho he hb).1
    rcases hj with rfl | hj
    · exact h1
    · have := ih e.on h1 j (by omega) hj
      omega

theorem Ord.trans (x : Ord ops ms) : ∀ (r i j : Nat), r < ops.size → Bef ms r i → Bef ms i j → Bef ms r j := by
  intro r
  induction r using Nat.strongRecOn with
  | ind r ih =>
    intro i j hr hi hj
    obtain ⟨o, ho⟩ := some_of_lt hr
    obtain ⟨e, he, hb, hi⟩ := x.dir r i o ho hi
    have h1 := (x.edge r o e ho he hb).1
    rcases hi with rfl | hi
    · exact x.up r j o e ho he hb hj
    · exact x.up r j o e ho he hb (ih e.on h1 i j (by omega) hi hj)

/-- What is listed holds all that stands ahead of it. -/
theorem Ord.closed (x : Ord ops ms) {S : Nat → Bool} (hS : ∀ (i : Nat) (o : Oper) (e : Edge), S i = true → ops[i]? = some o → e ∈ o.after.toList → Region.binds .any e = true → S e.on = true) :
    ∀ (i j : Nat), i < ops.size → S i = true → Bef ms i j → S j = true := by
  intro i
  induction i using Nat.strongRecOn with
  | ind i ih =>
    intro j hi hs hj
    obtain ⟨o, ho⟩ := some_of_lt hi
    obtain ⟨e, he, hb, hj⟩ := x.dir i j o ho hj
    have h1 := (x.edge i o e ho he hb).1
    have h2 := hS i o e hs ho he hb
    rcases hj with rfl | hj
    · exact h2
    · exact ih e.on h1 j (by omega) h2 hj

end

/-! The slots. -/
section
variable {n : Nat}

theorem lt12 {d : Nat} (hn : n ≤ 4096) (h : d < n) : d < 2 ^ 12 := by
  have : (2 : Nat) ^ 12 = 4096 := by decide
  omega

theorem hideB_get {env : T (Option Value)} {d : Option Tmp} (hf : env.fits 12) (hn : n ≤ 4096) :
    (hideB n env d).fits 12 ∧ ∀ t, t < n → (hideB n env d).get t = if d = some t then none else env.get t := by
  cases d with
  | none => exact ⟨hf, fun t _ => by simp [hideB]⟩
  | some d =>
    simp only [hideB]
    by_cases hd : (d : Nat) < n
    · rw [blt_iff.2 hd]
      have hd : (d : Nat) < n := hd
      refine ⟨T.fits_set 12 _ _ _ hf, fun t ht => ?_⟩
      rw [T.get_set 12 _ _ _ _ hf (lt12 hn (by assumption)) (lt12 hn (by assumption))]
      by_cases he : t = d
      · simp [he]
      · have : ¬ (d = t) := fun h => he h.symm
        simp [he, this]
    · rw [blt_no hd]
      refine ⟨hf, fun t ht => ?_⟩
      have : ¬ (d = t) := fun h => hd (h ▸ ht)
      simp [this]

/-- The last of a list's records that writes a slot. -/
def LastW (rs : List Rec) (t i : Nat) (r : Rec) : Prop := rs[i]? = some r ∧ r.dst = some t ∧ ∀ (i' : Nat) (r' : Rec), i < i' → rs[i']? = some r' → r'.dst ≠ some t

def NoW (rs : List Rec) (t : Nat) : Prop := ∀ (i : Nat) (r : Rec), rs[i]? = some r → r.dst ≠ some t

theorem LastW.cons {rs : List Rec} {t i : Nat} {r q : Rec} (h : LastW rs t i r) : LastW (q :: rs) t (i + 1) r := by
  refine ⟨by simpa using h.1, h.2.1, ?_⟩
  intro i' r' hi hr
  cases i' with
  | zero => omega
  | succ i' => exact h.2.2 i' r' (by omega) (by simpa using hr)

theorem lastW_zero {rs : List Rec} {t : Nat} {q : Rec} (h : NoW rs t) (hq : q.dst = some t) : LastW (q :: rs) t 0 q := by
  refine ⟨rfl, hq, ?_⟩
  intro i' r' hi hr
  cases i' with
  | zero => omega
  | succ i' => exact h i' r' (by simpa using hr)

theorem noW_cons {rs : List Rec} {t : Nat} {q : Rec} (h : NoW rs t) (hq : q.dst ≠ some t) : NoW (q :: rs) t := by
  intro i r hr
  cases i with
  | zero => simp at hr; subst hr; exact hq
  | succ i => exact h i r (by simpa using hr)

theorem envB_get (hn : n ≤ 4096) {m : Nat} : ∀ (rs : List Rec) (j : Nat) (env : T (Option Value)), env.fits 12 →
    (envB n m rs j env).fits 12 ∧ ∀ t v, t < n → (envB n m rs j env).get t = some v →
      (∃ i r, LastW rs t i r ∧ Nat.testBit m (j + i) = true ∧ r.v = v) ∨ (NoW rs t ∧ env.get t = some v)
  | [], j, env, hf => ⟨hf, fun t v _ h => .inr ⟨fun i r hr => by simp at hr, h⟩⟩
  | r :: rs, j, env, hf => by
    simp only [envB]
    split
    · rename_i hb
      cases hd : r.dst with
      | none =>
        obtain ⟨h1, h2⟩ := envB_get hn rs (j + 1) env hf
        refine ⟨h1, fun t v ht hg => ?_⟩
        rcases h2 t v ht hg with ⟨i, q, hq, hm, hv⟩ | ⟨hno, hv⟩
        · exact .inl ⟨i + 1, q, hq.cons, by rw [show j + (i + 1) = j + 1 + i from by omega]; exact hm, hv⟩
        · exact .inr ⟨noW_cons hno (by rw [hd]; simp), hv⟩
      | some d =>
        simp only
        by_cases hdn : (d : Nat) < n
        · rw [blt_iff.2 hdn]
          obtain ⟨h1, h2⟩ := envB_get hn rs (j + 1) (T.set 12 env d (some r.v)) (T.fits_set 12 _ _ _ hf)
          refine ⟨h1, fun t v ht hg => ?_⟩
          rcases h2 t v ht hg with ⟨i, q, hq, hm, hv⟩ | ⟨hno, hv⟩
          · exact .inl ⟨i + 1, q, hq.cons, by rw [show j + (i + 1) = j + 1 + i from by omega]; exact hm, hv⟩
          · rw [T.get_set 12 _ _ _ _ hf (lt12 hn (by assumption)) (lt12 hn (by assumption))] at hv
            by_cases he : t = d
            · rw [if_pos he] at hv
              cases hv
              exact .inl ⟨0, r, lastW_zero hno (by rw [hd, he]), hb, rfl⟩
            · rw [if_neg he] at hv
              exact .inr ⟨noW_cons hno (by rw [hd]; simp; exact fun h => he h.symm), hv⟩
        · rw [blt_no hdn]
          obtain ⟨h1, h2⟩ := envB_get hn rs (j + 1) env hf
          refine ⟨h1, fun t v ht hg => ?_⟩
          rcases h2 t v ht hg with ⟨i, q, hq, hm, hv⟩ | ⟨hno, hv⟩
          · exact .inl ⟨i + 1, q, hq.cons, by rw [show j + (i + 1) = j + 1 + i from by omega]; exact hm, hv⟩
          · exact .inr ⟨noW_cons hno (by rw [hd]; simp; exact fun h => hdn (h ▸ ht)), hv⟩
    · obtain ⟨g1, g2⟩ := hideB_get (d := r.dst) hf hn
      obtain ⟨h1, h2⟩ := envB_get hn rs (j + 1) (hideB n env r.dst) g1
      refine ⟨h1, fun t v ht hg => ?_⟩
      rcases h2 t v ht hg with ⟨i, q, hq, hm, hv⟩ | ⟨hno, hv⟩
      · exact .inl ⟨i + 1, q, hq.cons, by rw [show j + (i + 1) = j + 1 + i from by omega]; exact hm, hv⟩
      · rw [g2 t ht] at hv
        split at hv
        · cases hv
        · rename_i hd
          exact .inr ⟨noW_cons hno hd, hv⟩

theorem hideLater_get (hn : n ≤ 4096) {i : Nat} {ms : List Nat} : ∀ (os : List Oper) (j : Nat) (env : T (Option Value)), env.fits 12 →
    (hideLater n i ms os j env).fits 12 ∧ ∀ t v, t < n → (hideLater n i ms os j env).get t = some v →
      env.get t = some v ∧ ∀ q o, os[q]? = some o → o.dst = some t → Bef ms (j + q) i
  | [], j, env, hf => ⟨hf, fun t v _ h => ⟨h, fun q o ho => by simp at ho⟩⟩
  | o :: os, j, env, hf => by
    simp only [hideLater]
    split
    · rename_i hb
      obtain ⟨h1, h2⟩ := hideLater_get hn os (j + 1) env hf
      refine ⟨h1, fun t v ht hg => ?_⟩
      obtain ⟨g1, g2⟩ := h2 t v ht hg
      refine ⟨g1, fun q p hp hd => ?_⟩
      cases q with
      | zero => exact hb
      | succ q => rw [show j + (q + 1) = j + 1 + q from by omega]; exact g2 q p (by simpa using hp) hd
    · obtain ⟨e1, e2⟩ := hideB_get (d := o.dst) hf hn
      obtain ⟨h1, h2⟩ := hideLater_get hn os (j + 1) (hideB n env o.dst) e1
      refine ⟨h1, fun t v ht hg => ?_⟩
      obtain ⟨g1, g2⟩ := h2 t v ht hg
      rw [e2 t ht] at g1
      split at g1
      · cases g1
      · rename_i hne
        refine ⟨g1, fun q p hp hd => ?_⟩
        cases q with
        | zero => simp at hp; subst hp; exact absurd hd hne
        | succ q => rw [show j + (q + 1) = j + 1 + q from by omega]; exact g2 q p (by simpa using hp) hd

theorem putAll_get (hn : n ≤ 4096) : ∀ (rs : List Rec) (env : T (Option Value)), env.fits 12 → (∀ (i : Nat) (r : Rec) (d : Nat), rs[i]? = some r → r.dst = some d → d < n) →
    (putAll n rs env).fits 12 ∧ ∀ t v, t < n → (putAll n rs env).get t = some v → (∃ i r, LastW rs t i r ∧ r.v = v) ∨ (NoW rs t ∧ env.get t = some v)
  | [], env, hf, _ => ⟨hf, fun t v _ h => .inr ⟨fun i r hr => by simp at hr, h⟩⟩
  | r :: rs, env, hf, hd => by
    simp only [putAll]
    have hd' : ∀ (i : Nat) (q : Rec) (d : Nat), rs[i]? = some q → q.dst = some d → d < n := fun i q d hq => hd (i + 1) q d (by simpa using hq)
    cases hr : r.dst with
    | none =>
      obtain ⟨h1, h2⟩ := putAll_get hn rs env hf hd'
      refine ⟨h1, fun t v ht hg => ?_⟩
      rcases h2 t v ht hg with ⟨i, q, hq, hv⟩ | ⟨hno, hv⟩
      · exact .inl ⟨i + 1, q, hq.cons, hv⟩
      · exact .inr ⟨noW_cons hno (by rw [hr]; simp), hv⟩
    | some d =>
      have hdn : d < n := hd 0 r d rfl hr
      obtain ⟨h1, h2⟩ := putAll_get hn rs (T.set 12 env d (some r.v)) (T.fits_set 12 _ _ _ hf) hd'
      refine ⟨h1, fun t v ht hg => ?_⟩
      rcases h2 t v ht hg with ⟨i, q, hq, hv⟩ | ⟨hno, hv⟩
      · exact .inl ⟨i + 1, q, hq.cons, hv⟩
      · rw [T.get_set 12 _ _ _ _ hf (lt12 hn (by assumption)) (lt12 hn (by assumption))] at hv
        by_cases he : t = d
        · rw [if_pos he] at hv
          cases hv
          exact .inl ⟨0, r, lastW_zero hno (by rw [hr, he]), rfl⟩
        · rw [if_neg he] at hv
          exact .inr ⟨noW_cons hno (by rw [hr]; simp; exact fun h => he h.symm), hv⟩

end
end Go.Proofs.YtebaekbmminjnaaGreatDoor.V
