/- The small machine's conversions that lay or read bytes. Conditions: none. -/
import Derived.Test.YtebaekbmminjnaaGreatDoorVk
import Derived.Laws.IdiomStrings
namespace Go.Proofs.YtebaekbmminjnaaGreatDoor.V
set_option linter.all false
open Go

section
variable {P : Program} {Z : AH} {G n : Nat} {μ : Mu} {h : AH} {w : World}

/-- A new row of cells with a mark behind its end. -/
theorem new_marked (x : HR Z G μ h w) {c : Array Value} {c' rest : Array Value} {g : Gw} {kv : Nat → Value} {v : Value} {ho : Option AH} (el : TypeId) (hn : newB h (.cells c g) kv = some (v, ho)) (hc : VRL μ c.toList c'.toList) (hfit : g.fit el 0 := by trivial) :
    ∃ (ν : Mu) (h' : AH), ho = some h' ∧ v = kv h.next ∧ ν h.next = some ⟨w.heap.size, 0, (c' ++ rest).size, g.e⟩ ∧ HR Z G ν h' (w.alloc (.cells (c' ++ rest) el ((c' ++ rest).size, (c' ++ rest).size + 1))) ∧ FR h μ w h' ν (w.alloc (.cells (c' ++ rest) el ((c' ++ rest).size, (c' ++ rest).size + 1))) := by
  unfold newB at hn
  split at hn
  case h_2 => cases hn
  rename_i i h' hnew
  cases hn
  have hat : (w.alloc (.cells (c' ++ rest) el ((c' ++ rest).size, (c' ++ rest).size + 1))).heap[w.heap.size]? = some (.cells (c' ++ rest) el ((c' ++ rest).size, (c' ++ rest).size + 1)) := by
    show (w.heap.push _)[w.heap.size]? = _
    simp
  obtain ⟨rfl, ν, h1, h2, h3⟩ := HR.new x hnew (.cells (c' ++ rest) el ((c' ++ rest).size, (c' ++ rest).size + 1)) (c' ++ rest).size g.e (by
    intro ν hle
    refine ⟨rfl, ⟨el, by unfold World.shape?; rw [hat], hfit⟩, ?_, ?_, ?_⟩
    · have := hc.length
      simp at this ⊢
      omega
    · intro k u hu
      obtain ⟨u', hu', hr⟩ := hc.at (k := k) (v := u) (by simpa using hu)
      refine ⟨u', ?_, hr.mono hle⟩
      have hu'' : c'[k]? = some u' := by simpa using hu'
      have hlt : k < c'.size := (Array.getElem?_eq_some_iff.1 hu'').1
      unfold World.cell?
      rw [hat]
      simp only [Nat.zero_add, Option.isSome_none, Bool.false_eq_true, if_false]
      rw [Array.getElem?_append_left hlt]
      exact hu''
    · intro _ k hk
      unfold World.frozen?
      rw [hat]
      simp only [Bool.and_eq_false_iff, decide_eq_false_iff_not]
      exact .inl (by simp only at hk; omega))
  exact ⟨ν, h', rfl, rfl, h1, h2, h3⟩

theorem pureL_bytes : ∀ l : List UInt8, pureL (l.map fun b => Value.int .u8 b.toNat) = true
  | [] => rfl
  | b :: l => by simp only [List.map_cons, pureL, pureV, pureL_bytes l, Bool.and_self]

theorem bytesB_ok (x : HR Z G μ h w) {src dst e : TypeId} {s : ByteArray} {v : Value} {ho : Option AH} (hs : P.underlying src = some .string) (hd : P.underlying dst = some (.slice e)) (he : P.underlying e = some (.int .u8))
    (hb : newB h (.cells (s.data.toList.map fun b => Value.int .u8 b.toNat).toArray (.up 0 (some e))) (fun b => .slice (some ⟨b, 0, none⟩) s.data.toList.length s.data.toList.length) = some (v, ho)) :
    ∃ v' w', (convert src dst (.string s)).run P w = .ok v' w' ∧ Owe Z G μ h w v ho v' w' := by
  obtain ⟨ν, h', rfl, rfl, g1, g2, g3⟩ := new_marked (c' := s.data.map (fun b => Value.int .u8 b.toNat)) (rest := Array.replicate (grownCap w s.size 0 e - s.size) (.int .u8 0)) x.drew e hb
    (by simpa using VRL.of_pure (pureL_bytes s.data.toList))
  refine ⟨_, _, run_bytes_of_string w src dst e s hs hd he, ν, ?_, g2, (FR.drew h μ w).trans g3⟩
  have hsz : s.data.toList.length = s.size := by simp
  have hge := grownCap_ge w s.size 0 e
  have h2 : s.data.size = s.size := rfl
  simp only [VR]
  refine ⟨_, grownCap w s.size 0 e, trivial, g1, (by rw [hsz]; rfl), (fun h => by cases h), fun _ => ⟨Nat.le_refl _, by rw [hsz]; exact hge, ?_⟩⟩
  simp only [Gw.e, Nat.zero_add, Nat.mul_one, Array.size_append, Array.size_map, Array.size_replicate, h2]
  omega

theorem pureL_append : ∀ (a b : List Value), pureL (a ++ b) = (pureL a && pureL b)
  | [], b => by simp [pureL]
  | x :: a, b => by simp only [List.cons_append, pureL, pureL_append a b, Bool.and_assoc]

theorem runesFrom_pure (s : ByteArray) : ∀ (k i : Nat) (acc : Array Value), pureL acc.toList = true → pureL (Conv.runesFrom s k i acc).toList = true
  | 0, _, acc, h => h
  | k + 1, i, acc, h => by
    unfold Conv.runesFrom
    split
    · exact runesFrom_pure s k _ _ (by simp only [Array.toList_push, pureL_append, h, pureL, pureV, Bool.and_self])
    · exact h

theorem runesB_ok (x : HR Z G μ h w) {src dst e : TypeId} {s : ByteArray} {v : Value} {ho : Option AH} (hs : P.underlying src = some .string) (hd : P.underlying dst = some (.slice e)) (he : P.underlying e = some (.int .i32))
    (hb : runesB h (runesL s) = some (v, ho)) :
    ∃ v' w', (convert src dst (.string s)).run P w = .ok v' w' ∧ Owe Z G μ h w v ho v' w' := by
  have hpure : pureL (runesL s) = true := runesFrom_pure s _ _ _ rfl
  have hsz : s.data.toList.length = s.size := by simp
  have hrl : (Conv.runesFrom s s.size 0 #[]) = (runesL s).toArray := by unfold runesL; rw [hsz]
  unfold runesB at hb
  obtain ⟨ν, h', rfl, rfl, g1, g2, g3⟩ := new_cells (c' := (runesL s).toArray) (rest := Array.replicate (grownCap w (runesL s).length 0 e - (runesL s).length) (.int .i32 0)) x.drew e hb
    (by simpa using VRL.of_pure hpure)
  refine ⟨.slice (some ⟨w.heap.size, 0, none⟩) (runesL s).length (grownCap w (runesL s).length 0 e), _, ?_, ν, ?_, g2, (FR.drew h μ w).trans g3⟩
  · simp only [convert, Sem.run_bind, run_underlying hs, run_underlying hd, run_underlying he, Result.andThen_ok, Conv.stringToRunes, hrl]
    have hn : (runesL s).toArray.size = (runesL s).length := by simp
    rw [hn]
    rfl
  · have hge := grownCap_ge w (runesL s).length 0 e
    simp only [VR]
    refine ⟨_, grownCap w (runesL s).length 0 e, trivial, g1, rfl, (fun h => by cases h), fun _ => ⟨Nat.le_refl _, hge, ?_⟩⟩
    simp only [Gw.e, Nat.zero_add, Nat.mul_one, Array.size_append, List.size_toArray, Array.size_replicate]
    omega

theorem bytesIn_ok : ∀ {cs : List Value} {l : List UInt8}, bytesIn cs = some l → ∃ ns : List Int, cs = ns.map (Value.int .u8) ∧ l = ns.map fun n => UInt8.ofNat n.toNat
  | [], l, h => by simp only [bytesIn, Option.some.injEq] at h; subst h; exact ⟨[], rfl, rfl⟩
  | .int .u8 n :: r, l, h => by
    simp only [bytesIn] at h
    split at h
    case h_2 => cases h
    rename_i l' hl
    cases h
    obtain ⟨ns, h1, h2⟩ := bytesIn_ok hl
    exact ⟨n :: ns, by rw [h1]; rfl, by rw [h2]; rfl⟩

theorem foldl_push : ∀ (ns : List Int) (r : ByteArray), ns.foldl (fun r n => r.push (UInt8.ofNat n.toNat)) r = ⟨r.data ++ (ns.map fun n => UInt8.ofNat n.toNat).toArray⟩
  | [], r => by simp
  | n :: ns, r => by
    simp only [List.foldl_cons, List.map_cons]
    rw [foldl_push ns]
    simp [ByteArray.push]

theorem add_plain (b off j : Nat) : (⟨b, off, none⟩ : Addr).add j = ⟨b, off + j, none⟩ := by
  unfold Addr.add
  split
  · rename_i h; subst h; rfl
  · rfl

theorem textB_ok (x : HR Z G μ h w) {src dst e : TypeId} {v v' : Value} {l : List UInt8} (hs : P.underlying src = some (.slice e)) (hd : P.underlying dst = some .string) (he : P.underlying e = some (.int .u8))
    (hb : textB h v = some l) (hv : VR μ v v') : (convert src dst v').run P w = .ok (.string ⟨l.toArray⟩) w := by
  unfold textB at hb
  split at hb
  · cases hb
    simp only [VR] at hv
    subst hv
    rw [run_convert_bytes_string w src dst e none _ _ hs he hd]
    rfl
  · rename_i a n c
    split at hb
    case h_2 => cases hb
    rename_i cs g hsp hi
    split at hb
    case h_2 => cases hb
    rename_i hle
    simp only [VR] at hv
    obtain ⟨L, c', _, hL, rfl, _, _⟩ := hv
    obtain ⟨L2, l', hL2, _, hlen, hr, hc⟩ := row_of x hi a.off n (ble_iff.1 hle)
    rw [hL] at hL2; cases hL2
    obtain ⟨ns, h1, h2⟩ := bytesIn_ok hb
    rw [h1] at hr
    have hp : pureL (ns.map (Value.int .u8)) = true := by
      clear h1 h2 hr
      induction ns with
      | nil => rfl
      | cons n ns ih => simpa [pureL, pureV] using ih
    have hl' : l' = ns.map (Value.int .u8) := (VRL.pure hp).1 hr
    subst hl'
    rw [run_convert_bytes_string w src dst e _ _ _ hs he hd]
    have hld := run_loadCells_list (P := P) w ⟨L.b, L.o + a.off, none⟩ (ns.map (Value.int .u8)) (fun j v hj => by
      have := hc j v hj
      rw [add_plain]; exact this)
    rw [hlen] at hld
    rw [run_bytesToString w _ _ _ ns hld, foldl_push, h2]
    simp
  · cases hb

end
end Go.Proofs.YtebaekbmminjnaaGreatDoor.V
