/- What package-level variables hold, as the small machine's first memory: cells and blocks out of the listed data, and their relation to any world in which the data are read. Conditions: none. -/
import Derived.Test.YtibffohcmegooaaGreatDoorVl
import Derived.OpenShut
namespace Go.Proofs.YtibffohcmegooaaGreatDoor.V
set_option linter.all false
open Go

/-! The cells of a datum at a type, and the blocks that they lead to, numbered from n on. Bools, numbers, strings, nil, pointers, slices that are not empty, structs, arrays. -/
mutual
def gD (P : Program) (t : TypeId) (n : Nat) : DataW Unit → Option (List Value × List (List Value))
  | .lit l => match P.underlying t, l with
    | some .bool, .bool b => some ([.bool b], [])
    | some (.int _), .int k z => some ([.int k z], [])
    | some (.float _), .float k b => some ([.float k b], [])
    | some .string, .string bs => some ([.string ⟨bs.toArray⟩], [])
    | _, _ => none
  | .nil => match P.underlying t with
    | some (.pointer _) => some ([.pointer none], [])
    | some (.slice _) => some ([.slice none 0 0], [])
    | _ => none
  | .ptr d => match P.underlying t with
    | some (.pointer e) => match gD P e (n + 1) d with
      | some (v :: vs, bs) => some ([.pointer (some ⟨n, 0, none⟩)], (v :: vs) :: bs)
      | _ => none
    | _ => none
  | .slice es sp => match P.underlying t, sp with
    | some (.slice e), [] => match gAll P e (n + 1) es with
      | some (v :: vs, bs) => some ([.slice (some ⟨n, 0, none⟩) es.length es.length], (v :: vs) :: bs)
      | _ => none
    | _, _ => none
  | .agg ps => match P.underlying t with
    | some (.struct fs) => match gEach P (fs.toList.map fun f => (f.type, f.offset)) 0 n ps with
      | some x => match Nat.beq x.1.length (P.cellsOf t) with | true => some x | false => none
      | none => none
    | some (.array k e) => match gAll P e n ps with
      | some x => match Nat.beq ps.length k, Nat.beq x.1.length (P.cellsOf t) with | true, true => some x | _, _ => none
      | none => none
    | _ => none
  | _ => none
def gAll (P : Program) (e : TypeId) (n : Nat) : List (DataW Unit) → Option (List Value × List (List Value))
  | [] => some ([], [])
  | d :: r => match gD P e n d with
    | some x => match Nat.beq x.1.length (P.cellsOf e) with
      | true => match gAll P e (n + x.2.length) r with
        | some y => some (x.1 ++ y.1, x.2 ++ y.2)
        | none => none
      | false => none
    | none => none
def gEach (P : Program) : List (TypeId × Nat) → Nat → Nat → List (DataW Unit) → Option (List Value × List (List Value))
  | [], _, _, [] => some ([], [])
  | f :: fs, o, n, d :: r => match gD P f.1 n d with
    | some x => match Nat.beq f.2 o, Nat.beq x.1.length (P.cellsOf f.1) with
      | true, true => match gEach P fs (o + x.1.length) (n + x.2.length) r with
        | some y => some (x.1 ++ y.1, x.2 ++ y.2)
        | none => none
      | _, _ => none
    | none => none
  | _, _, _, _ => none
end

section
variable {P : Program} {w : World}

abbrev rdD (P : Program) (w : World) := DataW.trod (fun _ => ()) P w 0 (fun _ => true) false

/-- The blocks' places: as many as there are blocks, and what they hold once the numbers from n on stand for them. -/
def Places (w : World) (n : Nat) (bs : List (List Value)) (ls : List Loc) : Prop :=
  ls.length = bs.length ∧ ∀ μ : Mu, (∀ i l, ls[i]? = some l → μ (n + i) = some l) → ∀ (i : Nat) (c : List Value) (l : Loc), bs[i]? = some c → ls[i]? = some l → BR μ false (.cells ⟨c⟩ .no) l w

/-- The cells are those, once the numbers from n on stand for the places. -/
def Reads (n : Nat) (ls : List Loc) (vs cs : List Value) : Prop := ∀ μ : Mu, (∀ i l, ls[i]? = some l → μ (n + i) = some l) → VRL μ vs cs

theorem Places.nil {n : Nat} : Places w n [] [] := ⟨rfl, fun _ _ i c l h => by simp at h⟩
theorem at_left {n : Nat} {a b : List Loc} {μ : Mu} (h : ∀ i l, (a ++ b)[i]? = some l → μ (n + i) = some l) : ∀ i l, a[i]? = some l → μ (n + i) = some l := fun i l hl => h i l (by
  rw [List.getElem?_append_left (List.getElem?_eq_some_iff.1 hl).1]; exact hl)
theorem at_right {n : Nat} {a b : List Loc} {μ : Mu} (h : ∀ i l, (a ++ b)[i]? = some l → μ (n + i) = some l) : ∀ i l, b[i]? = some l → μ (n + a.length + i) = some l := fun i l hl => by
  rw [Nat.add_assoc]
  refine h (a.length + i) l ?_
  rw [List.getElem?_append_right (by omega), Nat.add_sub_cancel_left]
  exact hl
theorem Places.append {n : Nat} {a b : List (List Value)} {la lb : List Loc} (h : Places w n a la) (k : Places w (n + a.length) b lb) : Places w n (a ++ b) (la ++ lb) := by
  refine ⟨by simp [h.1, k.1], fun μ hμ i c l hc hl => ?_⟩
  have e := h.1
  by_cases hi : i < a.length
  · rw [List.getElem?_append_left hi] at hc
    rw [List.getElem?_append_left (by omega)] at hl
    exact h.2 μ (at_left hμ) i c l hc hl
  · rw [List.getElem?_append_right (by omega)] at hc
    rw [List.getElem?_append_right (by omega), e] at hl
    exact k.2 μ (by rw [← e]; exact at_right hμ) (i - a.length) c l hc hl
theorem Places.cons {n : Nat} {c : List Value} {b : List (List Value)} {l : Loc} {lb : List Loc} (h : ∀ μ : Mu, (∀ i l', lb[i]? = some l' → μ (n + 1 + i) = some l') → BR μ false (.cells ⟨c⟩ .no) l w) (k : Places w (n + 1) b lb) :
    Places w n (c :: b) (l :: lb) := by
  refine ⟨by simp [k.1], fun μ hμ i c' l' hc hl => ?_⟩
  have hμ' : ∀ i l', lb[i]? = some l' → μ (n + 1 + i) = some l' := fun i l' hl' => by
    rw [show n + 1 + i = n + (i + 1) from by omega]; exact hμ (i + 1) l' (by simpa using hl')
  cases i with
  | zero => simp at hc hl; subst hc hl; exact h μ hμ'
  | succ i => exact k.2 μ hμ' i c' l' (by simpa using hc) (by simpa using hl)

theorem mapM_cons_some {α β : Type} {f : α → Option β} {x : α} {xs : List α} {ys : List β} (h : (x :: xs).mapM f = some ys) : ∃ y zs, f x = some y ∧ xs.mapM f = some zs ∧ ys = y :: zs := by
  rw [List.mapM_cons] at h
  cases hx : f x with
  | none => rw [hx] at h; simp at h
  | some y =>
    rw [hx] at h
    cases hs : xs.mapM f with
    | none => rw [hs] at h; simp at h
    | some zs =>
      rw [hs] at h
      exact ⟨y, zs, rfl, rfl, by simpa using h.symm⟩

theorem mapM_at {α β : Type} {f : α → Option β} : ∀ {xs : List α} {ys : List β}, xs.mapM f = some ys → ys.length = xs.length ∧ ∀ (j : Nat) (x : α), xs[j]? = some x → ∃ y, f x = some y ∧ ys[j]? = some y
  | [], ys, h => by simp at h; subst h; exact ⟨rfl, fun j x hx => by simp at hx⟩
  | x :: xs, ys, h => by
    obtain ⟨y, zs, h1, h2, rfl⟩ := mapM_cons_some h
    obtain ⟨h3, h4⟩ := mapM_at h2
    refine ⟨by simp [h3], fun j u hu => ?_⟩
    cases j with
    | zero => simp at hu; subst hu; exact ⟨y, h1, rfl⟩
    | succ j => obtain ⟨z, h5, h6⟩ := h4 j u (by simpa using hu); exact ⟨z, h5, by simpa using h6⟩

/-- A row of cells that is read lies in one block. -/
theorem row_at {a : Addr} {m : Nat} {cs : List Value} (h : w.cells? 0 a m = some cs) (hm : 0 < m) :
    a.spot = none ∧ cs.length = m ∧ ∃ el k, w.shape? a.block = some (el, k) ∧ a.off + m ≤ k ∧ ∀ (j : Nat) (v : Value), cs[j]? = some v → w.cell? ⟨a.block, a.off + j, none⟩ = some v := by
  unfold World.cells? at h
  rw [if_pos (Nat.zero_le _)] at h
  obtain ⟨h1, h2⟩ := mapM_at h
  have hat : ∀ j, j < m → ∃ y, w.cell? (a.add j) = some y ∧ cs[j]? = some y := fun j hj => h2 j j (by simp [hj])
  have hl : cs.length = m := by simpa using h1
  obtain ⟨b, off, sp⟩ := a
  have hspot : sp = none := by
    obtain ⟨y, hy, _⟩ := hat 0 hm
    unfold World.cell? Addr.add at hy
    cases sp with
    | none => rfl
    | some k => simp at hy; split at hy <;> simp at hy
  subst hspot
  refine ⟨rfl, hl, ?_⟩
  obtain ⟨y, hy, _⟩ := hat (m - 1) (by omega)
  rw [add_plain] at hy
  unfold World.cell? at hy
  simp only at hy
  split at hy
  case h_2 => cases hy
  rename_i c el fr hc
  have hy' : c[off + (m - 1)]? = some y := by simpa using hy
  refine ⟨el, c.size, by unfold World.shape?; rw [hc], by have := (Array.getElem?_eq_some_iff.1 hy').1; show off + m ≤ c.size; omega, ?_⟩
  intro j v hv
  have hj : j < m := by rw [← hl]; exact (List.getElem?_eq_some_iff.1 hv).1
  obtain ⟨z, hz, hz'⟩ := hat j hj
  rw [hv] at hz'; cases hz'
  rw [add_plain] at hz
  exact hz

/-- A row of which all is read, as a block's place. -/
theorem BR.of_row {a : Addr} {m : Nat} {cs c : List Value} {μ : Mu} (h : w.cells? 0 a m = some cs) (hm : 0 < m) (hv : VRL μ c cs) {el : TypeId} {k : Nat} (hk : w.shape? a.block = some (el, k)) : BR μ false (.cells ⟨c⟩ .no) ⟨a.block, a.off, k, 0⟩ w := by
  obtain ⟨_, hl, el', k', h1, h2, h3⟩ := row_at h hm
  rw [hk] at h1; cases h1
  refine ⟨rfl, ⟨el, hk, trivial⟩, by have := hv.length; simp only [List.size_toArray]; omega, ?_, fun h => by cases h⟩
  intro j v hj
  obtain ⟨v', h4, h5⟩ := hv.at (k := j) (v := v) (by simpa using hj)
  exact ⟨v', h3 j v' h4, h5⟩

theorem trod_float' {fuel : Nat} {t : TypeId} {cs : List Value} {x : DataW Unit × List MemPlace} {k : FloatKind} (ht : P.underlying t = some (.float k)) (h : rdD P w fuel t cs = some x) : ∃ n, cs = [.float k n] ∧ x = (.lit (.float k n), []) := by
  cases fuel with
  | zero => simp [rdD, DataW.trod] at h
  | succ n =>
    unfold rdD DataW.trod at h
    rw [ht] at h
    split at h <;> simp_all

theorem lit_ok {l : Lit} {t : TypeId} {n fuel : Nat} {x : List Value × List (List Value)} {cs : List Value} {p : List MemPlace} (h : gD P t n (.lit l) = some x) (hr : rdD P w fuel t cs = some (.lit l, p)) : x = (cs, []) ∧ pureL cs = true := by
  unfold gD at h
  split at h
  · rename_i b hu
    cases h
    obtain ⟨b', rfl, he⟩ := DataW.trod_bool hu hr
    cases he
    exact ⟨rfl, rfl⟩
  · rename_i k k' z hu
    cases h
    obtain ⟨b', rfl, he, _⟩ := DataW.trod_int hu hr
    cases he
    exact ⟨rfl, rfl⟩
  · rename_i k k' z hu
    cases h
    obtain ⟨b', rfl, he⟩ := trod_float' hu hr
    cases he
    exact ⟨rfl, rfl⟩
  · rename_i bs hu
    cases h
    obtain ⟨s', rfl, he, _⟩ := DataW.trod_string hu hr
    cases he
    exact ⟨by obtain ⟨⟨l⟩⟩ := s'; rfl, rfl⟩
  · cases h

theorem nil_ok {t : TypeId} {n fuel : Nat} {x : List Value × List (List Value)} {cs : List Value} {p : List MemPlace} (h : gD P t n .nil = some x) (hr : rdD P w fuel t cs = some (.nil, p)) : x = (cs, []) ∧ pureL cs = true := by
  unfold gD at h
  split at h
  · rename_i e hu
    cases h
    rcases DataW.trod_pointer hu hr with ⟨rfl, _⟩ | ⟨a, cs', y, m, _, _, he, _, _⟩
    · exact ⟨rfl, rfl⟩
    · cases he
  · rename_i e hu
    cases h
    rcases DataW.trod_slice hu hr with ⟨rfl, _⟩ | ⟨a, len, cap, el, rest, m, _, _, he, _⟩
    · exact ⟨rfl, rfl⟩
    · cases he
  · cases h

/-- Numbers from n on stand for the places. -/
def muOf (n : Nat) (ls : List Loc) : Mu := fun q => if n ≤ q then ls[q - n]? else none
theorem muOf_at (n : Nat) (ls : List Loc) : ∀ i l, ls[i]? = some l → muOf n ls (n + i) = some l := fun i l h => by
  unfold muOf
  rw [if_pos (by omega), Nat.add_sub_cancel_left]
  exact h

/-- Pieces, one behind the other. -/
def cat (piece : Nat → List Value) : Nat → Nat → List Value
  | _, 0 => []
  | i, k + 1 => piece i ++ cat piece (i + 1) k

theorem cat_rows {cs : List Value} {c : Nat} : ∀ (k i : Nat), cat (fun i => (cs.drop (i * c)).take c) i k = (cs.drop (i * c)).take (k * c)
  | 0, i => by simp [cat]
  | k + 1, i => by
    simp only [cat, cat_rows k (i + 1)]
    rw [Nat.succ_mul k, Nat.add_comm (k * c) c, List.take_add, List.drop_drop, Nat.succ_mul]

theorem add_add (a : Addr) (i j : Nat) : (a.add i).add j = a.add (i + j) := by
  unfold Addr.add
  by_cases hi : i = 0
  · subst hi; simp
  · by_cases hj : j = 0
    · subst hj; simp
    · rw [if_neg hi, if_neg hj, if_neg (by omega)]
      simp [Nat.add_assoc]

theorem mapM_split {α β : Type} {f : α → Option β} : ∀ {xs ys : List α} {a b : List β}, xs.mapM f = some a → ys.mapM f = some b → (xs ++ ys).mapM f = some (a ++ b)
  | [], ys, a, b, h, k => by simp at h; subst h; simpa using k
  | x :: xs, ys, a, b, h, k => by
    obtain ⟨y, zs, h1, h2, rfl⟩ := mapM_cons_some h
    have := mapM_split h2 k
    rw [List.cons_append, List.mapM_cons, h1, this]
    rfl

theorem cells_split {a : Addr} {m k : Nat} {x y : List Value} (h : w.cells? 0 a m = some x) (h' : w.cells? 0 (a.add m) k = some y) : w.cells? 0 a (m + k) = some (x ++ y) := by
  unfold World.cells? at h h' ⊢
  rw [if_pos (Nat.zero_le _)] at h h' ⊢
  rw [List.range_add]
  refine mapM_split h ?_
  rw [List.mapM_map]
  have e : ((fun i => w.cell? (a.add i)) ∘ fun x => m + x) = fun i => w.cell? ((a.add m).add i) := by funext i; simp only [Function.comp, add_add]
  rw [e]
  exact h'

theorem cells_cat {a : Addr} {c : Nat} : ∀ (k i : Nat), (∀ j, j < k → ∃ pc, w.cells? 0 (a.add ((i + j) * c)) c = some pc) → w.cells? 0 (a.add (i * c)) (k * c) = some (cat (fun i => (w.cells? 0 (a.add (i * c)) c).getD []) i k)
  | 0, i, _ => by simp [World.cells?, cat]
  | k + 1, i, h => by
    obtain ⟨pc, hpc⟩ := h 0 (by omega)
    rw [Nat.add_zero] at hpc
    have ih := cells_cat k (i + 1) (fun j hj => by
      obtain ⟨q, hq⟩ := h (j + 1) (by omega)
      exact ⟨q, by rw [show i + 1 + j = i + (j + 1) from by omega]; exact hq⟩)
    rw [Nat.succ_mul i, ← add_add] at ih
    have := cells_split hpc ih
    rw [Nat.succ_mul k, Nat.add_comm (k * c) c, this]
    simp only [cat, hpc, Option.getD_some]

mutual
theorem gD_ok : ∀ (d : DataW Unit) (t : TypeId) (n : Nat) (x : List Value × List (List Value)), gD P t n d = some x → ∀ (fuel : Nat) (cs : List Value) (p : List MemPlace), rdD P w fuel t cs = some (d, p) →
    ∃ ls, Places w n x.2 ls ∧ Reads n ls x.1 cs
  | .lit l, t, n, x, h, fuel, cs, p, hr => by
    obtain ⟨rfl, hp⟩ := lit_ok h hr
    exact ⟨[], Places.nil, fun μ _ => VRL.of_pure hp⟩
  | .nil, t, n, x, h, fuel, cs, p, hr => by
    obtain ⟨rfl, hp⟩ := nil_ok h hr
    exact ⟨[], Places.nil, fun μ _ => VRL.of_pure hp⟩
  | .ptr d, t, n, x, h, fuel, cs, p, hr => by
    unfold gD at h
    split at h
    case h_2 => cases h
    rename_i e hu
    split at h
    case h_2 => cases h
    rename_i v vs bs hg
    cases h
    rcases DataW.trod_pointer hu hr with ⟨_, he⟩ | ⟨a, cs', y, m, rfl, rfl, he, hcells, hy⟩
    · cases he
    · cases he
      obtain ⟨ls, h1, h2⟩ := gD_ok _ e (n + 1) _ hg m cs' y.2 hy
      have hlen := (h2 (muOf (n + 1) ls) (muOf_at (n + 1) ls)).length
      have hm : 0 < P.cellsOf e := by
        have h3 : cs'.length = P.cellsOf e := by
          unfold World.cells? at hcells
          rw [if_pos (Nat.zero_le _)] at hcells
          simpa using (mapM_at hcells).1
        simp at hlen
        omega
      obtain ⟨hsp, _, el, k, hk, _, _⟩ := row_at hcells hm
      refine ⟨⟨a.block, a.off, k, 0⟩ :: ls, Places.cons (fun μ hμ => BR.of_row hcells hm (h2 μ hμ) hk) h1, fun μ hμ => VRL.cons ?_ VRL.nil⟩
      simp only [VR]
      refine ⟨⟨a.block, a.off, k, 0⟩, trivial, by simpa using hμ 0 _ rfl, ?_⟩
      obtain ⟨ab, ao, asp⟩ := a
      simp only at hsp
      subst hsp
      rfl
  | .slice es sp, t, n, x, h, fuel, cs, p, hr => by
    unfold gD at h
    split at h
    case h_2 => cases h
    rename_i e hu
    split at h
    case h_2 => cases h
    rename_i v vs bs hg
    cases h
    rcases DataW.trod_slice hu hr with ⟨_, he⟩ | ⟨a, len, cap, el, rest, m, rfl, rfl, he, _, hcap, _, hlen, hel, hrest, _⟩
    · cases he
    · simp only [Prod.mk.injEq, DataW.slice.injEq] at he
      obtain ⟨⟨rfl, hr0⟩, _⟩ := he
      have hr1 : rest.length = 0 := by
        have : (rest.map (·.1)).length = 0 := by rw [← hr0]; rfl
        simpa using this
      have hcl : cap = len := by have := (hrest rfl).1; omega
      subst hcl
      obtain ⟨ls, h1, h2, h3⟩ := gAll_ok _ e (n + 1) _ hg m (fun i => (w.cells? 0 (a.add (i * P.cellsOf e)) (P.cellsOf e)).getD []) 0 (by
        intro i d hdi
        rw [List.getElem?_map, Option.map_eq_some_iff] at hdi
        obtain ⟨z, hz, rfl⟩ := hdi
        have hi : i < cap := by rw [← hlen]; exact (List.getElem?_eq_some_iff.1 hz).1
        have hb := (hel i hi).trans hz
        rw [Option.bind_eq_some_iff] at hb
        obtain ⟨pc, hpc, hb⟩ := hb
        exact ⟨z.2, by rw [Nat.zero_add, hpc]; exact hb⟩)
      rw [List.length_map, hlen] at h2 h3
      have hrow : w.cells? 0 a (cap * P.cellsOf e) = some (cat (fun i => (w.cells? 0 (a.add (i * P.cellsOf e)) (P.cellsOf e)).getD []) 0 cap) := by
        have := cells_cat (w := w) (a := a) (c := P.cellsOf e) cap 0 (fun i hi => by
          have hz : el[i]? = some (el[i]'(by omega)) := List.getElem?_eq_getElem _
          have hb := (hel i (by omega)).trans hz
          rw [Option.bind_eq_some_iff] at hb
          obtain ⟨pc, hpc, _⟩ := hb
          exact ⟨pc, by rw [Nat.zero_add]; exact hpc⟩)
        simpa [Addr.add] using this
      have hm : 0 < cap * P.cellsOf e := by rw [← h3]; simp
      obtain ⟨hsp, _, el', k, hk, _, _⟩ := row_at hrow hm
      refine ⟨⟨a.block, a.off, k, 0⟩ :: ls, Places.cons (fun μ hμ => BR.of_row hrow hm (h2 μ hμ) hk) h1, fun μ hμ => VRL.cons ?_ VRL.nil⟩
      simp only [VR]
      refine ⟨⟨a.block, a.off, k, 0⟩, cap, trivial, by simpa using hμ 0 _ rfl, ?_, fun _ => by simp [hlen], fun h => absurd rfl h⟩
      obtain ⟨ab, ao, asp⟩ := a
      simp only at hsp
      subst hsp
      simp [hlen]
  | .agg ps, t, n, x, h, fuel, cs, p, hr => by
    unfold gD at h
    split at h
    · rename_i fs hu
      split at h
      case h_2 => cases h
      rename_i y hy
      split at h
      case h_2 => cases h
      rename_i hlen
      cases h
      obtain ⟨xs, m, rfl, he, hl, hxl, hf⟩ := DataW.trod_struct hu hr
      cases he
      obtain ⟨ls, h1, h2⟩ := gEach_ok _ (fs.toList.map fun f => (f.type, f.offset)) 0 n x hy m cs (by
        intro i f d hfi hdi
        rw [List.getElem?_map, Option.map_eq_some_iff] at hfi
        obtain ⟨g, hg, rfl⟩ := hfi
        rw [List.getElem?_map, Option.map_eq_some_iff] at hdi
        obtain ⟨z, hz, rfl⟩ := hdi
        exact ⟨z.2, (hf i g (by simpa using hg)).trans hz⟩)
      refine ⟨ls, h1, ?_⟩
      rw [List.drop_zero, beq_iff.1 hlen, ← hl, List.take_length] at h2
      exact h2
    · rename_i k e hu
      split at h
      case h_2 => cases h
      rename_i y hy
      split at h
      case h_2 => cases h
      rename_i hk hlen
      cases h
      obtain ⟨xs, m, rfl, he, hl, hxl, hf⟩ := DataW.trod_array hu hr
      cases he
      obtain ⟨ls, h1, h2, h3⟩ := gAll_ok _ e n x hy m (fun i => (cs.drop (i * P.cellsOf e)).take (P.cellsOf e)) 0 (by
        intro i d hdi
        rw [List.getElem?_map, Option.map_eq_some_iff] at hdi
        obtain ⟨z, hz, rfl⟩ := hdi
        have hi : i < k := by rw [← hxl]; exact (List.getElem?_eq_some_iff.1 hz).1
        exact ⟨z.2, by rw [Nat.zero_add]; exact (hf i hi).trans hz⟩)
      refine ⟨ls, h1, ?_⟩
      rw [cat_rows, Nat.zero_mul, List.drop_zero] at h2
      have : (List.map (fun x => x.fst) xs).length * P.cellsOf e = cs.length := by rw [← h3, beq_iff.1 hlen, hl]
      rw [this, List.take_length] at h2
      exact h2
    · cases h
  | .iface _ _, t, n, x, h, _, _, _, _ => by unfold gD at h; cases h
  | .map _, t, n, x, h, _, _, _, _ => by unfold gD at h; cases h
  | .held _, t, n, x, h, _, _, _, _ => by unfold gD at h; cases h
theorem gAll_ok : ∀ (es : List (DataW Unit)) (e : TypeId) (n : Nat) (x : List Value × List (List Value)), gAll P e n es = some x → ∀ (fuel : Nat) (piece : Nat → List Value) (i0 : Nat), (∀ (i : Nat) (d : DataW Unit), es[i]? = some d → ∃ p, rdD P w fuel e (piece (i0 + i)) = some (d, p)) →
    ∃ ls, Places w n x.2 ls ∧ Reads n ls x.1 (cat piece i0 es.length) ∧ x.1.length = es.length * P.cellsOf e
  | [], e, n, x, h, fuel, piece, i0, hp => by
    simp only [gAll, Option.some.injEq] at h
    subst h
    exact ⟨[], Places.nil, fun μ _ => VRL.nil, by simp⟩
  | d :: r, e, n, x, h, fuel, piece, i0, hp => by
    simp only [gAll] at h
    split at h
    case h_2 => cases h
    rename_i x1 h1
    split at h
    case h_2 => cases h
    rename_i hlen
    split at h
    case h_2 => cases h
    rename_i y hy
    cases h
    obtain ⟨p, hr⟩ := hp 0 d rfl
    obtain ⟨la, a1, a2⟩ := gD_ok d e n x1 h1 fuel _ p hr
    obtain ⟨lb, b1, b2, b3⟩ := gAll_ok r e (n + x1.2.length) y hy fuel piece (i0 + 1) (fun i d' hd' => by
      obtain ⟨p', hp'⟩ := hp (i + 1) d' (by simpa using hd')
      exact ⟨p', by rw [show i0 + 1 + i = i0 + (i + 1) from by omega]; exact hp'⟩)
    refine ⟨la ++ lb, a1.append b1, fun μ hμ => ?_, by simp only [List.length_append, List.length_cons, b3, beq_iff.1 hlen, Nat.succ_mul]; omega⟩
    simp only [List.length_cons, cat]
    refine VRL.append ?_ (b2 μ (by rw [← a1.1]; exact at_right hμ))
    exact a2 μ (at_left hμ)
theorem gEach_ok : ∀ (ps : List (DataW Unit)) (fs : List (TypeId × Nat)) (o n : Nat) (x : List Value × List (List Value)), gEach P fs o n ps = some x → ∀ (fuel : Nat) (cs : List Value), (∀ (i : Nat) (f : TypeId × Nat) (d : DataW Unit), fs[i]? = some f → ps[i]? = some d → ∃ p, rdD P w fuel f.1 ((cs.drop f.2).take (P.cellsOf f.1)) = some (d, p)) →
    ∃ ls, Places w n x.2 ls ∧ Reads n ls x.1 ((cs.drop o).take x.1.length)
  | [], [], o, n, x, h, fuel, cs, hp => by
    simp only [gEach, Option.some.injEq] at h
    subst h
    exact ⟨[], Places.nil, fun μ _ => by simpa using VRL.nil⟩
  | [], _ :: _, o, n, x, h, fuel, cs, hp => by simp [gEach] at h
  | _ :: _, [], o, n, x, h, fuel, cs, hp => by simp [gEach] at h
  | d :: r, f :: fs, o, n, x, h, fuel, cs, hp => by
    simp only [gEach] at h
    split at h
    case h_2 => cases h
    rename_i x1 h1
    split at h
    case h_2 => cases h
    rename_i ho hlen
    split at h
    case h_2 => cases h
    rename_i y hy
    cases h
    obtain ⟨p, hr⟩ := hp 0 f d rfl rfl
    obtain ⟨la, a1, a2⟩ := gD_ok d f.1 n x1 h1 fuel _ p hr
    obtain ⟨lb, b1, b2⟩ := gEach_ok r fs (o + x1.1.length) (n + x1.2.length) y hy fuel cs (fun i f' d' hf' hd' => hp (i + 1) f' d' (by simpa using hf') (by simpa using hd'))
    refine ⟨la ++ lb, a1.append b1, fun μ hμ => ?_⟩
    rw [List.length_append, List.take_add, List.drop_drop]
    refine VRL.append ?_ (b2 μ (by rw [← a1.1]; exact at_right hμ))
    have := a2 μ (at_left hμ)
    rw [beq_iff.1 ho, ← beq_iff.1 hlen] at this
    exact this
end

end
end Go.Proofs.YtibffohcmegooaaGreatDoor.V
