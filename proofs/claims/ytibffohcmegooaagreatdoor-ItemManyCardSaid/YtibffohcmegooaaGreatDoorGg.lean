/- ItemMany: rows that are filled, rows that grow. Conditions: none. -/
import Derived.Test.YtibffohcmegooaaGreatDoorGf
namespace Go.Proofs.YtibffohcmegooaaGreatDoor.V
set_option linter.all false
open Go
noncomputable section

/-- So many items like this one. -/
def Many (C : List Value) (n : Nat) (x : List Value) : Prop := ∀ j, j < n → ∀ k, k < 8 → C[8 * j + k]? = x[k]?
theorem take8 {C x : List Value} {o : Nat} (hx : x.length = 8) (h : ∀ k, k < 8 → C[o + k]? = x[k]?) : (C.drop o).take 8 = x := by
  apply List.ext_getElem?
  intro k
  rw [List.getElem?_take]
  by_cases hk : k < 8
  · rw [if_pos hk, List.getElem?_drop]
    exact h k hk
  · rw [if_neg hk, List.getElem?_eq_none (by omega)]
theorem Many.put {C x : List Value} {n : Nat} (hx : x.length = 8) (hl : 8 * n + 8 ≤ C.length) (h : Many C n x) : Many (putL ⟨C⟩ (8 * n) x).toList (n + 1) x := by
  intro j hj k hk
  have e : (putL ⟨C⟩ (8 * n) x).toList[8 * j + k]? = (putL ⟨C⟩ (8 * n) x)[8 * j + k]? := by simp
  rw [e, putL_at x ⟨C⟩ (8 * n) (by rw [hx]; exact hl)]
  by_cases hjn : j = n
  · subst hjn
    rw [if_pos (by omega)]
    congr 1
    omega
  · rw [if_neg (by omega)]
    have := h j (by omega) k hk
    simpa using this
theorem Many.app {C x : List Value} {n : Nat} (hx : x.length = 8) (hl : C.length = n * 8) (h : Many C n x) : Many (C ++ x) (n + 1) x := by
  intro j hj k hk
  by_cases hjn : j = n
  · subst hjn
    rw [List.getElem?_append_right (by omega)]
    congr 1
    omega
  · rw [List.getElem?_append_left (by omega)]
    exact h j (by omega) k hk
/-- Such a row, or what stands behind its first ones. -/
theorem Many.row {C x : List Value} {N n o K b : Nat} {h : AH} {g : Gw} (hx : x.length = 8) (hm : Many C N x) (hl : 8 * N ≤ C.length) (hn : o + n ≤ N) (hb : b < K) (hg : h.get b = some (.cells ⟨C⟩ g)) : Row K 8 h (some ⟨b, 8 * o, none⟩) (List.replicate n x) := by
  intro i y hy
  obtain ⟨hi, rfl⟩ : i < n ∧ x = y := by
    rw [List.getElem?_replicate] at hy
    split at hy
    · rename_i hi
      exact ⟨hi, by simpa using hy⟩
    · cases hy
  refine ⟨b, 8 * o, ⟨C⟩, g, rfl, hb, hg, by show _ ≤ C.length; omega, take8 hx fun k hk => ?_⟩
  have := hm (o + i) (by omega) k hk
  rw [show 8 * o + i * 8 + k = 8 * (o + i) + k by omega]
  exact this

theorem flat_at : ∀ (xs : List (List Value)) (i : Nat) (x : List Value), (∀ x ∈ xs, x.length = 8) → xs[i]? = some x → (xs.flatten.drop (i * 8)).take 8 = x ∧ i * 8 + 8 ≤ xs.flatten.length
  | [], i, x, _, h => by simp at h
  | y :: xs, 0, x, hl, h => by
    simp at h; subst h
    have := hl y (List.mem_cons_self ..)
    refine ⟨?_, by rw [List.flatten_cons, List.length_append]; omega⟩
    rw [Nat.zero_mul, List.drop_zero, List.flatten_cons, List.take_append_of_le_length (by omega), List.take_of_length_le (by omega)]
  | y :: xs, i + 1, x, hl, h => by
    have hy := hl y (List.mem_cons_self ..)
    obtain ⟨h1, h2⟩ := flat_at xs i x (fun z hz => hl z (List.mem_cons_of_mem _ hz)) (by simpa using h)
    refine ⟨?_, by rw [List.flatten_cons, List.length_append]; omega⟩
    rw [List.flatten_cons, List.drop_append, List.drop_of_length_le (by omega), List.nil_append, show (i + 1) * 8 - y.length = i * 8 by omega]
    exact h1
theorem flat_row {xs : List (List Value)} {K b : Nat} {h : AH} {g : Gw} (hl : ∀ x ∈ xs, x.length = 8) (hb : b < K) (hg : h.get b = some (.cells ⟨xs.flatten⟩ g)) : Row K 8 h (some ⟨b, 0, none⟩) xs := by
  intro i x hx
  obtain ⟨h1, h2⟩ := flat_at xs i x hl hx
  exact ⟨b, 0, _, g, rfl, hb, hg, by show _ ≤ xs.flatten.length; omega, by rw [Nat.zero_add]; exact h1⟩

theorem sumF_rep {α : Type} (f : α → Nat) (x : α) : ∀ n, sumF f (List.replicate n x) = n * f x
  | 0 => by simp [sumF]
  | n + 1 => by
    rw [List.replicate_succ]
    simp only [sumF, sumF_rep f x n, Nat.succ_mul]
    omega
theorem fold_app {σ : Type} : ∀ (a b : List (σ → Option σ)) (s : σ), foldO (a ++ b) s = (match foldO a s with | some s' => foldO b s' | none => none)
  | [], _, _ => rfl
  | g :: a, b, s => by
    simp only [List.cons_append, foldO]
    cases g s with
    | none => rfl
    | some s' => exact fold_app a b s'
/-- So many atoms more. -/
theorem fold_gA (k : Int) (s : ByteArray) : ∀ (m : Nat) (A : List (Int × ByteArray)), foldO (List.replicate (m + 1) (gA k s)) A = if A.length + (m + 1) ≤ 65536 ∧ byA A + (m + 1) * bl s ≤ 4194304 then some (A ++ List.replicate (m + 1) (k, s)) else none
  | 0, A => by
    simp only [List.replicate, foldO, gA]
    by_cases hc : A.length + 1 ≤ 65536 ∧ byA A + bl s ≤ 4194304
    · rw [if_pos hc, if_pos (by omega)]
    · rw [if_neg hc, if_neg (by omega)]
  | m + 1, A => by
    rw [List.replicate_succ]
    simp only [foldO, gA]
    have e1 : (m + 1 + 1) * bl s = (m + 1) * bl s + bl s := Nat.succ_mul _ _
    by_cases hc : A.length + 1 ≤ 65536 ∧ byA A + bl s ≤ 4194304
    · rw [if_pos hc]
      simp only
      have ih := fold_gA k s m (A ++ [(k, s)])
      rw [show (gA k s) = (fun A => if A.length + 1 ≤ 65536 ∧ byA A + bl s ≤ 4194304 then some (A ++ [(k, s)]) else none) from rfl] at ih
      rw [show (gA k s) = (fun A => if A.length + 1 ≤ 65536 ∧ byA A + bl s ≤ 4194304 then some (A ++ [(k, s)]) else none) from rfl]
      rw [ih, byA_app]
      simp only [List.length_append, List.length_cons, List.length_nil]
      by_cases hd : A.length + (m + 1 + 1) ≤ 65536 ∧ byA A + (m + 1 + 1) * bl s ≤ 4194304
      · rw [if_pos (by omega), if_pos hd, List.append_assoc]
        rfl
      · rw [if_neg (by omega), if_neg hd]
    · rw [if_neg hc, if_neg (by omega)]

/-- Onto a full row of another kind. -/
theorem appendS_no {P : Program} {h : AH} {t elem : TypeId} {i : TypeInfo} {z : Value} {e : Nat} (hok : HOK h) (h1 : P.underlying t = some (.slice elem)) (h3 : P.info? elem = some i) (h4 : zeroOf P elem = some z) (h5 : z.cells.size = i.size) (h6 : i.size = e + 1)
    {b2 c2 : Nat} {c : List Value} {g : Gw} (hb2 : h.get b2 = some (.cells ⟨c⟩ g)) (hc : c.length = e + 1) {b k : Nat} {cs : List Value} (hb : h.get b = some (.cells ⟨cs⟩ .no)) (hcs : cs.length = k * (e + 1)) (hbig : (k + 1) * (i.bytes + 1) ≤ 1099511627776) (hn : h.next < 16777216) :
    ∃ h', appendB P h #[t, t] (sl b k) (.slice (some ⟨b2, 0, none⟩) 1 c2) = some (sl h.next (k + 1), some h') ∧ New h h' (.cells ⟨cs ++ c⟩ (.up e (some elem))) := by
  obtain ⟨h', e1, e2⟩ := hok.new hn (.cells ⟨cs ++ c⟩ (.up e (some elem)))
  refine ⟨h', ?_, e2⟩
  have hx : ((⟨c⟩ : Array Value).toList.drop 0).take (1 * i.size) = c := by
    rw [List.drop_zero, Nat.one_mul, List.take_of_length_le (by rw [h6, ← hc]; exact Nat.le_refl _)]
  have hsz : 0 + 1 * i.size ≤ (⟨c⟩ : Array Value).size := by
    show _ ≤ c.length
    omega
  have hf : firstB h i.size 1 (.slice (some ⟨b2, 0, none⟩) 1 c2) = some c := by
    unfold firstB
    simp only [hb2, ble_iff.2 hsz]
    rw [hx]
  have hcap : Nat.ble (k + 1) k = false := by
    cases hb : Nat.ble (k + 1) k with
    | false => rfl
    | true => have := ble_iff.1 hb; omega
  have hz : Nat.beq i.size 0 = false := by rw [h6]; rfl
  have hlen : Nat.beq c.length (1 * i.size) = true := beq_iff.2 (by omega)
  have hk : Nat.ble (0 + k * i.size) (⟨cs⟩ : Array Value).size = true := ble_iff.2 (by show _ ≤ cs.length; rw [hcs, h6]; omega)
  have htk : (List.drop 0 (⟨cs⟩ : Array Value).toList).take (k * i.size) = cs := by
    rw [List.drop_zero]
    exact List.take_of_length_le (by rw [h6, hcs]; exact Nat.le_refl _)
  unfold appendB
  simp only [List.getElem?_toArray, List.getElem?_cons_zero, List.getElem?_cons_succ, h1, h3, h4, lenB, isIntD, beq_iff.2 h5, ble_iff.2 hbig, hf, hlen, hz]
  cases c with
  | nil => simp at hc
  | cons v vs =>
    unfold appendTo
    simp only [hb, hcap, hk]
    unfold newB
    rw [htk, h6]
    simp only [gwOf]
    rw [e1]

end
end Go.Proofs.YtibffohcmegooaaGreatDoor.V
