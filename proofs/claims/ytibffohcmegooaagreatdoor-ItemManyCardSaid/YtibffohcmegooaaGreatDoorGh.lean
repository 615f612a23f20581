/- Rows of atoms that are alike, alone and in an array. Conditions: none. -/
import Derived.Test.YtibffohcmegooaaGreatDoorGg
namespace Go.Proofs.YtibffohcmegooaaGreatDoor.V
set_option linter.all false
open Go
noncomputable section

section
variable {P : Program} {G : Nat} {ext : FuncId → Option Ext} {base : Orc} {σ : Type} {K L : Nat} {h0 : AH} {fv : Value} {St : σ → AH → Prop}

theorem HoldsAt.more {D D' w w' : Nat} {x : List Value} {g : σ → Option σ} (h : HoldsAt P G ext base K h0 L D w fv St x g) (hD : D ≤ D') (hw : w ≤ w') : HoldsAt P G ext base K h0 L D' w' fv St x g := by
  intro d hh s hd ho hn hs
  obtain ⟨v, h', e1, e2, e3, e4, e5⟩ := h d hh s (by omega) ho (by omega) hs
  exact ⟨v, h', e1, e2, e3, e4.more hw, e5⟩
theorem Has1At.more {D D' w w' : Nat} {x : List Value} {g : σ → Option σ} (h : Has1At P G ext base K h0 L D w fv St x g) (hD : D ≤ D') (hw : w ≤ w') : Has1At P G ext base K h0 L D' w' fv St x g := by
  intro d hh s q gq hd ho hn hs a b c e
  obtain ⟨v, h', e1, e2, e3, e4, e5⟩ := h d hh s q gq (by omega) ho (by omega) hs a b c e
  exact ⟨v, h', e1, e2, e3, e4.more hw, e5⟩
theorem HasAt.more {D D' w w' : Nat} {x : Value} {g : σ → Option σ} (h : HasAt P G ext base K h0 L D w fv St x g) (hD : D ≤ D') (hw : w ≤ w') : HasAt P G ext base K h0 L D' w' fv St x g := by
  intro d hh s hd ho hn hs
  obtain ⟨v, h', e1, e2, e3, e4, e5⟩ := h d hh s (by omega) ho (by omega) hs
  exact ⟨v, h', e1, e2, e3, e4.more hw, e5⟩

theorem fold_gU : ∀ n, foldO (List.replicate n (gU false)) () = some ()
  | 0 => rfl
  | n + 1 => by
    rw [List.replicate_succ]
    simp only [foldO, gU]
    exact fold_gU n
theorem gU_some : gU false = some := by
  funext u
  rfl

theorem rep_add (E : Alike P Tryz.prog base walkG) {e N c : Nat} {p : Option Addr} {k : Int} {s : ByteArray} (hN : N ≤ 1000000) (hr : Row K 8 h0 p (List.replicate N (itA k s))) (hs : bl s ≤ 1048576) : AddAt P G ext base K h0 e (.slice p N c) N (N * bl s) := by
  have h := add_ok (G := G) (ext := ext) (e := e) (c := c) (L := List.replicate N (itA k s, 1, bl s)) E (by simpa using hN) (by simpa using hr) (fun q hq => by
    obtain ⟨_, rfl⟩ := List.mem_replicate.1 hq
    exact .atom e k s hs)
  rw [List.length_replicate, sumF_rep, sumF_rep] at h
  have e1 : N * n8 (itA k s, 1, bl s) = N := by simp [n8]
  have e2 : N * b8 (itA k s, 1, bl s) = N * bl s := rfl
  rw [e1, e2] at h
  exact h

theorem rep_seq (E : Alike P Tryz.prog base walkG) {N c : Nat} {p : Option Addr} {k : Int} {s : ByteArray} (hN : N ≤ 1000000) (hr : Row K 8 h0 p (List.replicate N (itA k s))) (hv : ∀ h : AH, h.fl = true → base 32 [atm k s] h = some (.bool true, none)) : SeqAt P G ext base K h0 5 (N + 20) (.slice p N c) (fun _ => decide (N ≤ 65536)) := by
  have h := seq_ok (G := G) (ext := ext) (c := c) (D := 1) (m := 0) (D' := 5) (m' := N + 20) (L := List.replicate N (itA k s, 1, fun _ => true)) E (by simpa using hN) (by simpa using hr) (fun q hq => by
    obtain ⟨_, rfl⟩ := List.mem_replicate.1 hq
    exact .atom k s hv) (by rw [sumF_rep]; show N * 1 + 0 + 10 ≤ _; omega) (by omega) (by omega)
  rw [List.length_replicate] at h
  have e1 : (fun dp : Int => decide (N ≤ 65536) && (List.replicate N (itA k s, 1, fun _ : Int => true)).all (rS dp)) = fun _ => decide (N ≤ 65536) := by
    funext dp
    have : (List.replicate N (itA k s, 1, fun _ : Int => true)).all (rS dp) = true := by
      rw [List.all_eq_true]
      intro q hq
      obtain ⟨_, rfl⟩ := List.mem_replicate.1 hq
      rfl
    rw [this, Bool.and_true]
  rw [e1] at h
  exact h

theorem rep_one (E : Alike P Tryz.prog base walkG) {N c : Nat} {p : Option Addr} {k : Int} {s : ByteArray} (hKL : K ≤ L) (hN : N ≤ 1000000) (hr : Row K 8 h0 p (List.replicate N (itA k s))) : HasAt P G ext base K h0 L 5 (N * 10 + 5) f1V (fun _ _ => True) (.slice p N c) (foldO (List.replicate N (gU false))) := by
  have h := has_ok (G := G) (ext := ext) (base := base) (h0 := h0) (c := c) (D := 2) (w := 10) (R := List.replicate N (itA k s, gU false)) E (asks1 hKL) (by simpa using hN) (by simpa using hr) (fun q hq => by
    obtain ⟨_, rfl⟩ := List.mem_replicate.1 hq
    exact has1_leaf E (asks1 hKL) (by omega) rfl (at1_ok E (.inl ⟨rfl, rfl⟩)))
  rw [List.length_replicate, List.map_replicate] at h
  exact h

theorem rep_two (E : Alike P Tryz.prog base walkG) {N c bo bt y : Nat} {p : Option Addr} {k : Int} {s : ByteArray} (hKL : K ≤ L) (hN : N ≤ 1000000) (hr : Row K 8 h0 p (List.replicate N (itA k s))) (hy : bo ≠ y) (hKo : K ≤ bo) (hKy : K ≤ y) (hoL : bo < L) (hyL : y < L) (hbl : bl s ≤ 4194304) (hb0 : 0 < bl s) :
    HasAt P G ext base K h0 L 5 (N * 15 + 5) (f2V bo bt y) (StA P L bo y) (.slice p N c) (foldO (List.replicate N (gA k s))) := by
  have h := has_ok (G := G) (ext := ext) (base := base) (h0 := h0) (c := c) (D := 2) (w := 15) (R := List.replicate N (itA k s, gA k s)) E (asks2 (P := P) (bo := bo) (bt := bt) (y := y) hKL) (by simpa using hN) (by simpa using hr) (fun q hq => by
    obtain ⟨_, rfl⟩ := List.mem_replicate.1 hq
    exact has1_leaf E (asks2 hKL) (by omega) rfl (at2_atom E hy hKo hKy hoL hyL hbl hb0))
  rw [List.length_replicate, List.map_replicate] at h
  exact h
end

section
variable {P : Program} {G : Nat} {ext : FuncId → Option Ext} {base : Orc} {K : Nat} {h0 : AH}

/-- An array of two rows, then atoms. -/
theorem top_add (E : Alike P Tryz.prog base walkG) {N1 N2 c1 c2 cm m c : Nat} {p1 p2 pm p : Option Addr} {k k' : Int} {s s' : ByteArray} (hN1 : N1 ≤ 100000) (hN2 : N2 ≤ 100000) (hm : m ≤ 100) (hr1 : Row K 8 h0 p1 (List.replicate N1 (itA k s))) (hr2 : Row K 8 h0 p2 (List.replicate N2 (itA k s))) (hs : bl s ≤ 1048576) (hs' : bl s' ≤ 1048576)
    (hrm : Row K 1 h0 pm [[.slice p1 N1 c1], [.slice p2 N2 c2]]) (hr : Row K 8 h0 p (itM (.slice pm 2 cm) :: List.replicate m (itA k' s'))) : AddAt P G ext base K h0 1 (.slice p (m + 1) c) (3 + N1 + N2 + m) ((N1 + N2) * bl s + m * bl s') := by
  have h := add_ok (G := G) (ext := ext) (e := 1) (c := c) (L := (itM (.slice pm 2 cm), 1 + (1 + N1) + (1 + N2), N1 * bl s + N2 * bl s) :: List.replicate m (itA k' s', 1, bl s')) E (by simp; omega) (by simpa using hr) (fun q hq => by
    rcases List.mem_cons.1 hq with rfl | hq
    · exact .arr2 0 pm cm _ _ _ _ _ _ hrm (rep_add E (by omega) hr1 hs) (rep_add E (by omega) hr2 hs)
    · obtain ⟨_, rfl⟩ := List.mem_replicate.1 hq
      exact .atom 1 k' s' hs')
  rw [List.length_cons, List.length_replicate] at h
  simp only [sumF, sumF_rep] at h
  have e1 : n8 (itM (.slice pm 2 cm), 1 + (1 + N1) + (1 + N2), N1 * bl s + N2 * bl s) + m * n8 (itA k' s', 1, bl s') = 3 + N1 + N2 + m := by
    show 1 + (1 + N1) + (1 + N2) + m * 1 = _
    omega
  have e2 : b8 (itM (.slice pm 2 cm), 1 + (1 + N1) + (1 + N2), N1 * bl s + N2 * bl s) + m * b8 (itA k' s', 1, bl s') = (N1 + N2) * bl s + m * bl s' := by
    show N1 * bl s + N2 * bl s + m * bl s' = _
    rw [Nat.add_mul]
  rw [e1, e2] at h
  exact h

theorem top_seq (E : Alike P Tryz.prog base walkG) {N1 N2 c1 c2 cm m c : Nat} {p1 p2 pm p : Option Addr} {k k' : Int} {s s' : ByteArray} (hN1 : N1 ≤ 65536) (hN2 : N2 ≤ 65536) (hm : m ≤ 100) (hr1 : Row K 8 h0 p1 (List.replicate N1 (itA k s))) (hr2 : Row K 8 h0 p2 (List.replicate N2 (itA k s)))
    (hv : ∀ h : AH, h.fl = true → base 32 [atm k s] h = some (.bool true, none)) (hv' : ∀ h : AH, h.fl = true → base 32 [atm k' s'] h = some (.bool true, none))
    (hrm : Row K 1 h0 pm [[.slice p1 N1 c1], [.slice p2 N2 c2]]) (hr : Row K 8 h0 p (itM (.slice pm 2 cm) :: List.replicate m (itA k' s'))) : ∃ r : Int → Bool, r 200 = true ∧ SeqAt P G ext base K h0 7 70000 (.slice p (m + 1) c) r := by
  have hq1 := rep_seq (G := G) (ext := ext) (c := c1) E (by omega) hr1 hv
  have hq2 := rep_seq (G := G) (ext := ext) (c := c2) E (by omega) hr2 hv
  have hq1' : SeqAt P G ext base K h0 5 65600 (.slice p1 N1 c1) (fun _ => decide (N1 ≤ 65536)) := fun d h dp c a1 a2 a3 a4 a5 a6 a7 a8 a9 => hq1 d h dp c a1 a2 a3 a4 (by omega) a6 a7 a8 a9
  have hq2' : SeqAt P G ext base K h0 5 65600 (.slice p2 N2 c2) (fun _ => decide (N2 ≤ 65536)) := fun d h dp c a1 a2 a3 a4 a5 a6 a7 a8 a9 => hq2 d h dp c a1 a2 a3 a4 (by omega) a6 a7 a8 a9
  have h := seq_ok (G := G) (ext := ext) (c := c) (D := 5) (m := 65600) (D' := 7) (m' := 70000) (L := (itM (.slice pm 2 cm), 1, fun dp => decide (dp > 0) && (decide (N1 ≤ 65536) && decide (N2 ≤ 65536))) :: List.replicate m (itA k' s', 1, fun _ => true)) E (by simp; omega) (by simpa using hr) (fun q hq => by
    rcases List.mem_cons.1 hq with rfl | hq
    · exact .arr2 pm cm _ _ _ _ hrm hq1' hq2'
    · obtain ⟨_, rfl⟩ := List.mem_replicate.1 hq
      exact .atom k' s' hv') (by simp only [sumF, sumF_rep]; show 1 + m * 1 + 65600 + 10 ≤ _; omega) (by omega) (by omega)
  rw [List.length_cons, List.length_replicate] at h
  refine ⟨_, ?_, h⟩
  show (decide (m + 1 ≤ 65536) && List.all _ _) = true
  rw [decide_eq_true (by omega), Bool.true_and, List.all_eq_true]
  intro q hq
  rcases List.mem_cons.1 hq with rfl | hq
  · show (decide ((200 : Int) > 0) && (decide (N1 ≤ 65536) && decide (N2 ≤ 65536))) = true
    rw [decide_eq_true (by omega), decide_eq_true hN1, decide_eq_true hN2]
    rfl
  · obtain ⟨_, rfl⟩ := List.mem_replicate.1 hq
    rfl

theorem top_one (E : Alike P Tryz.prog base walkG) {L N1 N2 c1 c2 cm m c : Nat} {p1 p2 pm p : Option Addr} {k k' : Int} {s s' : ByteArray} (hKL : K ≤ L) (hN1 : N1 ≤ 32768) (hN2 : N2 ≤ 32768) (hm : m ≤ 2) (hr1 : Row K 8 h0 p1 (List.replicate N1 (itA k s))) (hr2 : Row K 8 h0 p2 (List.replicate N2 (itA k s)))
    (hrm : Row K 1 h0 pm [[.slice p1 N1 c1], [.slice p2 N2 c2]]) (hr : Row K 8 h0 p (itM (.slice pm 2 cm) :: List.replicate m (itA k' s'))) :
    HasAt P G ext base K h0 L 12 3000000 f1V (fun _ _ => True) (.slice p (m + 1) c) (foldO (foldO [foldO (List.replicate N1 (gU false)), foldO (List.replicate N2 (gU false))] :: List.replicate m (gU false))) := by
  have hq1 := has11_ok E (asks1 hKL) ((rep_one (G := G) (ext := ext) (base := base) (c := c1) (L := L) E hKL (by omega) hr1).more (D' := 5) (w' := 327685) (by omega) (by omega))
  have hq2 := has11_ok E (asks1 hKL) ((rep_one (G := G) (ext := ext) (base := base) (c := c2) (L := L) E hKL (by omega) hr2).more (D' := 5) (w' := 327685) (by omega) (by omega))
  have ha : HoldsAt P G ext base K h0 L 1 8 f1V (fun (_ : Unit) _ => True) (itM (.slice pm 2 cm)) some := by
    rw [← gU_some]
    exact (at1_ok E (.inr (.inr (.inr (.inl ⟨rfl, rfl⟩))))).more (Nat.le_refl _) (by omega)
  have hq := has1_arr2 E (asks1 hKL) hrm hq1 hq2 ha
  have h := has_ok (G := G) (ext := ext) (base := base) (h0 := h0) (c := c) (D := 9) (w := 655383) (R := (itM (.slice pm 2 cm), foldO [foldO (List.replicate N1 (gU false)), foldO (List.replicate N2 (gU false))]) :: List.replicate m (itA k' s', gU false)) E (asks1 hKL) (by simp; omega) (by simpa using hr) (fun q hq' => by
    rcases List.mem_cons.1 hq' with rfl | hq'
    · exact hq.more (by omega) (by omega)
    · obtain ⟨_, rfl⟩ := List.mem_replicate.1 hq'
      exact (has1_leaf E (asks1 hKL) (by omega) rfl (at1_ok E (.inl ⟨rfl, rfl⟩))).more (by omega) (by omega))
  rw [List.length_cons, List.length_replicate, List.map_cons, List.map_replicate] at h
  exact h.more (by omega) (by omega)

theorem top_two (E : Alike P Tryz.prog base walkG) {L N1 N2 c1 c2 cm m c bo bt y : Nat} {p1 p2 pm p : Option Addr} {k k' : Int} {s s' : ByteArray} (hKL : K ≤ L) (hN1 : N1 ≤ 32768) (hN2 : N2 ≤ 32768) (hm : m ≤ 2) (hr1 : Row K 8 h0 p1 (List.replicate N1 (itA k s))) (hr2 : Row K 8 h0 p2 (List.replicate N2 (itA k s)))
    (hrm : Row K 1 h0 pm [[.slice p1 N1 c1], [.slice p2 N2 c2]]) (hr : Row K 8 h0 p (itM (.slice pm 2 cm) :: List.replicate m (itA k' s'))) (hy : bo ≠ y) (hKo : K ≤ bo) (hKy : K ≤ y) (hoL : bo < L) (hyL : y < L) (hbl : bl s ≤ 4194304) (hb0 : 0 < bl s) (hbl' : bl s' ≤ 4194304) (hb0' : 0 < bl s') :
    HasAt P G ext base K h0 L 12 3000000 (f2V bo bt y) (StA P L bo y) (.slice p (m + 1) c) (foldO (foldO [foldO (List.replicate N1 (gA k s)), foldO (List.replicate N2 (gA k s))] :: List.replicate m (gA k' s'))) := by
  have hq1 := has11_ok E (asks2 (P := P) (bo := bo) (bt := bt) (y := y) hKL) ((rep_two (G := G) (ext := ext) (base := base) (c := c1) (L := L) (bt := bt) E hKL (by omega) hr1 hy hKo hKy hoL hyL hbl hb0).more (D' := 5) (w' := 491525) (by omega) (by omega))
  have hq2 := has11_ok E (asks2 (P := P) (bo := bo) (bt := bt) (y := y) hKL) ((rep_two (G := G) (ext := ext) (base := base) (c := c2) (L := L) (bt := bt) E hKL (by omega) hr2 hy hKo hKy hoL hyL hbl hb0).more (D' := 5) (w' := 491525) (by omega) (by omega))
  have ha : HoldsAt P G ext base K h0 L 1 8 (f2V bo bt y) (StA P L bo y) (itM (.slice pm 2 cm)) some := (at2_arr E rfl).more (Nat.le_refl _) (by omega)
  have hq := has1_arr2 E (asks2 (P := P) (bo := bo) (bt := bt) (y := y) hKL) hrm hq1 hq2 ha
  have h := has_ok (G := G) (ext := ext) (base := base) (h0 := h0) (c := c) (D := 9) (w := 983063) (R := (itM (.slice pm 2 cm), foldO [foldO (List.replicate N1 (gA k s)), foldO (List.replicate N2 (gA k s))]) :: List.replicate m (itA k' s', gA k' s')) E (asks2 (P := P) (bo := bo) (bt := bt) (y := y) hKL) (by simp; omega) (by simpa using hr) (fun q hq' => by
    rcases List.mem_cons.1 hq' with rfl | hq'
    · exact hq.more (by omega) (by omega)
    · obtain ⟨_, rfl⟩ := List.mem_replicate.1 hq'
      exact (has1_leaf E (asks2 hKL) (by omega) rfl (at2_atom E hy hKo hKy hoL hyL hbl' hb0')).more (by omega) (by omega))
  rw [List.length_cons, List.length_replicate, List.map_cons, List.map_replicate] at h
  exact h.more (by omega) (by omega)
end

end
end Go.Proofs.YtibffohcmegooaaGreatDoor.V
