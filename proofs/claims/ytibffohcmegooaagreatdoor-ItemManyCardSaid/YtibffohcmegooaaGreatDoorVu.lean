/- The small machine's conversions that lay or read bytes. Conditions: none. -/
import Derived.Test.YtibffohcmegooaaGreatDoorVk
import Derived.Laws.IdiomStrings
import Derived.Lib.UnsafeStr
import Derived.Lib.MakeNoZero
namespace Go.Proofs.YtibffohcmegooaaGreatDoor.V
set_option linter.all false
open Go

section
variable {P : Program} {Z : AH} {G n : Nat} {μ : Mu} {h : AH} {w : World}

/-- A new row of cells with a mark behind its end. -/
theorem new_marked (x : HR Z G μ h w) {c : Array Value} {c' rest : Array Value} {g : Gw} {kv : Nat → Value} {v : Value} {ho : Option AH} (el : TypeId) (hn : newB h (.cells c g) kv = some (v, ho)) (hc : VRL μ c.toList c'.toList) (hfit : g.fit el 0 := by trivial) :
    ∃ (ν : Mu) (h' : AH), ho = some h' ∧ v = kv h.next ∧ ν h.next = some ⟨w.heap.size, 0, (c' ++ rest).size, g.e⟩ ∧ HR Z G ν h' (w.alloc (.cells (c' ++ rest) el ((c' ++ rest).size, (c' ++ rest).size + 1))) ∧ FR h μ w h' ν (w.alloc (.cells (c' ++ rest) el ((c' ++ rest).size, (c' ++ rest).size + 1))) := by
  unfold newB at hn
  split at hn
  case h_2 => cases hn
  rename_i i h' hnew
  cases hn
  have hat : (w.alloc (.cells (c' ++ rest) el ((c' ++ rest).size, (c' ++ rest).size + 1))).heap[w.heap.size]? = some (.cells (c' ++ rest) el ((c' ++ rest).size, (c' ++ rest).size + 1)) := by
    show (w.heap.push _)[w.heap.size]? = _
    simp
  obtain ⟨rfl, ν, h1, h2, h3⟩ := HR.new x hnew (.cells (c' ++ rest) el ((c' ++ rest).size, (c' ++ rest).size + 1)) (c' ++ rest).size g.e (by
    intro ν hle
    refine ⟨rfl, ⟨el, by unfold World.shape?; rw [hat], hfit⟩, ?_, ?_, ?_⟩
    · have := hc.length
      simp at this ⊢
      omega
    · intro k u hu
      obtain ⟨u', hu', hr⟩ := hc.at (k := k) (v := u) (by simpa using hu)
      refine ⟨u', ?_, hr.mono hle⟩
      have hu'' : c'[k]? = some u' := by simpa using hu'
      have hlt : k < c'.size := (Array.getElem?_eq_some_iff.1 hu'').1
      unfold World.cell?
      rw [hat]
      simp only [Nat.zero_add, Option.isSome_none, Bool.false_eq_true, if_false]
      rw [Array.getElem?_append_left hlt]
      exact hu''
    · intro _ k hk
      unfold World.frozen?
      rw [hat]
      simp only [Bool.and_eq_false_iff, decide_eq_false_iff_not]
      exact .inl (by simp only at hk; omega))
  exact ⟨ν, h', rfl, rfl, h1, h2, h3⟩

theorem pureL_bytes : ∀ l : List UInt8, pureL (l.map fun b => Value.int .u8 b.toNat) = true
  | [] => rfl
  | b :: l => by simp only [List.map_cons, pureL, pureV, pureL_bytes l, Bool.and_self]

theorem bytesB_ok (x : HR Z G μ h w) {src dst e : TypeId} {s : ByteArray} {v : Value} {ho : Option AH} (hs : P.underlying src = some .string) (hd : P.underlying dst = some (.slice e)) (he : P.underlying e = some (.int .u8))
    (hb : newB h (.cells (s.data.toList.map fun b => Value.int .u8 b.toNat).toArray (.up 0 (some e))) (fun b => .slice (some ⟨b, 0, none⟩) s.data.toList.length s.data.toList.length) = some (v, ho)) :
    ∃ v' w', (convert src dst (.string s)).run P w = .ok v' w' ∧ Owe Z G μ h w v ho v' w' := by
  obtain ⟨ν, h', rfl, rfl, g1, g2, g3⟩ := new_marked (c' := s.data.map (fun b => Value.int .u8 b.toNat)) (rest := Array.replicate (grownCap w s.size 0 e - s.size) (.int .u8 0)) x.drew e hb
    (by simpa using VRL.of_pure (pureL_bytes s.data.toList))
  refine ⟨_, _, run_bytes_of_string w src dst e s hs hd he, ν, ?_, g2, (FR.drew h μ w).trans g3⟩
  have hsz : s.data.toList.length = s.size := by simp
  have hge := grownCap_ge w s.size 0 e
  have h2 : s.data.size = s.size := rfl
  simp only [VR]
  refine ⟨_, grownCap w s.size 0 e, trivial, g1, (by rw [hsz]; rfl), (fun h => by cases h), fun _ => ⟨Nat.le_refl _, by rw [hsz]; exact hge, ?_⟩⟩
  simp only [Gw.e, Nat.zero_add, Nat.mul_one, Array.size_append, Array.size_map, Array.size_replicate, h2]
  omega

theorem pureL_append : ∀ (a b : List Value), pureL (a ++ b) = (pureL a && pureL b)
  | [], b => by simp [pureL]
  | x :: a, b => by simp only [List.cons_append, pureL, pureL_append a b, Bool.and_assoc]

theorem runesFrom_pure (s : ByteArray) : ∀ (k i : Nat) (acc : Array Value), pureL acc.toList = true → pureL (Conv.runesFrom s k i acc).toList = true
  | 0, _, acc, h => h
  | k + 1, i, acc, h => by
    unfold Conv.runesFrom
    split
    · exact runesFrom_pure s k _ _ (by simp only [Array.toList_push, pureL_append, h, pureL, pureV, Bool.and_self])
    · exact h

theorem runesB_ok (x : HR Z G μ h w) {src dst e : TypeId} {s : ByteArray} {v : Value} {ho : Option AH} (hs : P.underlying src = some .string) (hd : P.underlying dst = some (.slice e)) (he : P.underlying e = some (.int .i32))
    (hb : runesB h (runesL s) = some (v, ho)) :
    ∃ v' w', (convert src dst (.string s)).run P w = .ok v' w' ∧ Owe Z G μ h w v ho v' w' := by
  have hpure : pureL (runesL s) = true := runesFrom_pure s _ _ _ rfl
  have hsz : s.data.toList.length = s.size := by simp
  have hrl : (Conv.runesFrom s s.size 0 #[]) = (runesL s).toArray := by unfold runesL; rw [hsz]
  unfold runesB at hb
  obtain ⟨ν, h', rfl, rfl, g1, g2, g3⟩ := new_cells (c' := (runesL s).toArray) (rest := Array.replicate (grownCap w (runesL s).length 0 e - (runesL s).length) (.int .i32 0)) x.drew e hb
    (by simpa using VRL.of_pure hpure)
  refine ⟨.slice (some ⟨w.heap.size, 0, none⟩) (runesL s).length (grownCap w (runesL s).length 0 e), _, ?_, ν, ?_, g2, (FR.drew h μ w).trans g3⟩
  · simp only [convert, Sem.run_bind, run_underlying hs, run_underlying hd, run_underlying he, Result.andThen_ok, Conv.stringToRunes, hrl]
    have hn : (runesL s).toArray.size = (runesL s).length := by simp
    rw [hn]
    rfl
  · have hge := grownCap_ge w (runesL s).length 0 e
    simp only [VR]
    refine ⟨_, grownCap w (runesL s).length 0 e, trivial, g1, rfl, (fun h => by cases h), fun _ => ⟨Nat.le_refl _, hge, ?_⟩⟩
    simp only [Gw.e, Nat.zero_add, Nat.mul_one, Array.size_append, List.size_toArray, Array.size_replicate]
    omega

theorem bytesIn_ok : ∀ {cs : List Value} {l : List UInt8}, bytesIn cs = some l → ∃ ns : List Int, cs = ns.map (Value.int .u8) ∧ l = ns.map fun n => UInt8.ofNat n.toNat
  | [], l, h => by simp only [bytesIn, Option.some.injEq] at h; subst h; exact ⟨[], rfl, rfl⟩
  | .int .u8 n :: r, l, h => by
    simp only [bytesIn] at h
    split at h
    case h_2 => cases h
    rename_i l' hl
    cases h
    obtain ⟨ns, h1, h2⟩ := bytesIn_ok hl
    exact ⟨n :: ns, by rw [h1]; rfl, by rw [h2]; rfl⟩

theorem foldl_push : ∀ (ns : List Int) (r : ByteArray), ns.foldl (fun r n => r.push (UInt8.ofNat n.toNat)) r = ⟨r.data ++ (ns.map fun n => UInt8.ofNat n.toNat).toArray⟩
  | [], r => by simp
  | n :: ns, r => by
    simp only [List.foldl_cons, List.map_cons]
    rw [foldl_push ns]
    simp [ByteArray.push]

theorem add_plain (b off j : Nat) : (⟨b, off, none⟩ : Addr).add j = ⟨b, off + j, none⟩ := by
  unfold Addr.add
  split
  · rename_i h; subst h; rfl
  · rfl

theorem textB_ok (x : HR Z G μ h w) {src dst e : TypeId} {v v' : Value} {l : List UInt8} (hs : P.underlying src = some (.slice e)) (hd : P.underlying dst = some .string) (he : P.underlying e = some (.int .u8))
    (hb : textB h v = some l) (hv : VR μ v v') : (convert src dst v').run P w = .ok (.string ⟨l.toArray⟩) w := by
  unfold textB at hb
  split at hb
  · cases hb
    simp only [VR] at hv
    subst hv
    rw [run_convert_bytes_string w src dst e none _ _ hs he hd]
    rfl
  · rename_i a n c
    split at hb
    case h_2 => cases hb
    rename_i cs g hsp hi
    split at hb
    case h_2 => cases hb
    rename_i hle
    simp only [VR] at hv
    obtain ⟨L, c', _, hL, rfl, _, _⟩ := hv
    obtain ⟨L2, l', hL2, _, hlen, hr, hc⟩ := row_of x hi a.off n (ble_iff.1 hle)
    rw [hL] at hL2; cases hL2
    obtain ⟨ns, h1, h2⟩ := bytesIn_ok hb
    rw [h1] at hr
    have hp : pureL (ns.map (Value.int .u8)) = true := by
      clear h1 h2 hr
      induction ns with
      | nil => rfl
      | cons n ns ih => simpa [pureL, pureV] using ih
    have hl' : l' = ns.map (Value.int .u8) := (VRL.pure hp).1 hr
    subst hl'
    rw [run_convert_bytes_string w src dst e _ _ _ hs he hd]
    have hld := run_loadCells_list (P := P) w ⟨L.b, L.o + a.off, none⟩ (ns.map (Value.int .u8)) (fun j v hj => by
      have := hc j v hj
      rw [add_plain]; exact this)
    rw [hlen] at hld
    rw [run_bytesToString w _ _ _ ns hld, foldl_push, h2]
    simp
  · cases hb

end
end Go.Proofs.YtibffohcmegooaaGreatDoor.V

namespace Go.Proofs.YtibffohcmegooaaGreatDoor.V
set_option linter.all false
open Go

theorem rowAt_mono {p : Program} {fits : TypeId → Bool} {d e count count' off n : Nat} (hc : count ≤ count') (h : rowAt p fits d e count off n = true) : rowAt p fits d e count' off n = true := by
  cases d with
  | zero => cases h
  | succ d =>
    simp only [rowAt] at h ⊢
    split at h
    · cases h
    · rename_i hs
      rw [if_neg hs]
      simp only [Bool.or_eq_true, Bool.and_eq_true, decide_eq_true_eq] at h ⊢
      rcases h with ⟨⟨h1, h2⟩, h3⟩ | ⟨h1, h2⟩
      · exact .inl ⟨⟨h1, by omega⟩, h3⟩
      · exact .inr ⟨by omega, h2⟩

theorem liesAt_mono {p : Program} : ∀ {d e count count' off u n : Nat}, count ≤ count' → liesAt p d e count off u n = true → liesAt p d e count' off u n = true
  | 0, _, _, _, _, _, _, _, h => by cases h
  | d + 1, e, count, count', off, u, n, hc, h => by
    simp only [liesAt, Bool.or_eq_true] at h ⊢
    rcases h with h | h
    · exact .inl (rowAt_mono hc h)
    · right
      split at h
      · exact liesAt_mono hc h
      · cases h

section
variable {P : Program} {Z : AH} {G : Nat} {μ : Mu} {h : AH} {w : World}

/-- The type of a row that is known. -/
theorem typed_at (x : HR Z G μ h w) {i : Nat} {c : Array Value} {g : Gw} {t : TypeId} (hi : h.get i = some (.cells c g)) (ht : g.type = some t) : ∃ l, μ i = some l ∧ l.o = 0 ∧ w.shape? l.b = some (t, l.n) ∧ c.size ≤ l.n := by
  obtain ⟨l, hl, h1, ⟨el, h2, h3⟩, h4, _⟩ := x.blk i _ hi
  have : el = t ∧ l.o = 0 := by
    cases g with
    | no => cases ht
    | ty u => cases ht; exact h3
    | up e u =>
      cases u with
      | none => cases ht
      | some u => cases ht; exact h3
  obtain ⟨rfl, h5⟩ := this
  exact ⟨l, hl, h5, h2, by omega⟩

theorem variablesAt_ok {b o n : Nat} {t u : TypeId} {ln cs : Nat} (hs : w.shape? b = some (t, ln)) (hc : cs ≤ ln) (hl : liesAt P P.depth t (cs / P.cellsOf t) o u n = true) :
    (variablesAt ⟨b, o, none⟩ u n).run P w = .ok true w := by
  have h1 : liesAt P P.depth t (ln / P.cellsOf t) o u n = true := liesAt_mono (Nat.div_le_div_right hc) hl
  unfold variablesAt
  simp only [Sem.run_bind, run_program, Result.andThen_ok, run_shape, hs, Sem.run_pure, h1]

theorem seenAt_ok {b o : Nat} {el : TypeId} {n : Nat} (hs : w.shape? b = some (el, n)) : (Conv.seenAt ⟨b, o, none⟩).run P w = .ok ⟨b, o, none⟩ w := by
  unfold Conv.seenAt viewAt
  simp only [Sem.run_bind, run_shape, hs, Result.andThen_ok, Option.isSome_some, if_true, Sem.run_pure]

theorem cellsIn_ok {b : Nat} {el : TypeId} {n : Nat} (hs : w.shape? b = some (el, n)) : (cellsIn b).run P w = .ok (some n) w := by
  unfold cellsIn
  simp only [Sem.run_bind, run_shape, hs, Result.andThen_ok, Sem.run_pure]

theorem toUnsafe_ok (x : HR Z G μ h w) {src dst t : TypeId} {a : Addr} {c : Array Value} {g : Gw} {n : Nat} (hs : P.underlying src = some (.pointer t)) (hd : P.underlying dst = some .unsafePointer)
    (hi : h.get a.block = some (.cells c g)) (hsz : szOf P t = some (n + 1)) (hlt : a.off < c.size) {v' : Value} (hv : VR μ (.pointer (some a)) v') : (convert src dst v').run P w = .ok v' w := by
  simp only [VR] at hv
  obtain ⟨l, _, hl, rfl⟩ := hv
  obtain ⟨l', hl', h1, ⟨el, h2, _⟩, h4, _⟩ := x.blk _ _ hi
  rw [hl] at hl'; cases hl'
  have hno : ¬ (l.n ≤ l.o + a.off) := by omega
  simp only [convert, Sem.run_bind, run_underlying hs, run_underlying hd, Result.andThen_ok, Conv.unsafePointer, seenAt_ok h2, cellsIn_ok h2, run_sizeOf hsz]
  simp [hno]

theorem ofUnsafe_ok (x : HR Z G μ h w) {src dst u t : TypeId} {a : Addr} {c : Array Value} {g : Gw} (hs : P.underlying src = some .unsafePointer) (hd : P.underlying dst = some (.pointer u))
    (hi : h.get a.block = some (.cells c g)) (ht : g.type = some t) (hl : liesAt P P.depth t (c.size / P.cellsOf t) a.off u 1 = true) {k : Nat} (hk : szOf P u = some k) {v' : Value} (hv : VR μ (.pointer (some a)) v') : (convert src dst v').run P w = .ok v' w := by
  simp only [VR] at hv
  obtain ⟨l, _, hl', rfl⟩ := hv
  obtain ⟨l2, hl2, h0, h1, h2⟩ := typed_at x hi ht
  rw [hl'] at hl2; cases hl2
  rw [h0, Nat.zero_add]
  simp only [convert, Sem.run_bind, run_underlying hs, run_underlying hd, Result.andThen_ok, Conv.unsafePointer, seenAt_ok h1, run_sizeOf hk, variablesAt_ok h1 h2 hl]
  simp

theorem run_loadRow (b : Nat) : ∀ (ns : List Int) (off : Nat) (acc : ByteArray), (∀ j v, (ns.map (Value.int .u8))[j]? = some v → w.cell? ⟨b, off + j, none⟩ = some v) →
    (loadBytes ⟨b, off, none⟩ acc ns.length).run P w = .ok ⟨acc.data ++ (ns.map fun n => UInt8.ofNat n.toNat).toArray⟩ w
  | [], off, acc, _ => by simp [loadBytes]
  | n :: ns, off, acc, hc => by
    have h0 : w.cell? ⟨b, off, none⟩ = some (.int .u8 n) := by simpa using hc 0 (.int .u8 n) (by simp)
    have hl : (load ⟨b, off, none⟩ : Sem Value).run P w = .ok (.int .u8 n) w := by
      simp [load, Sem.run, h0]
    simp only [List.length_cons, loadBytes, Sem.run_bind, hl, Result.andThen_ok, add_plain]
    rw [run_loadRow b ns (off + 1) _ (fun j v hj => by
      have := hc (j + 1) v (by simpa using hj)
      rw [show off + 1 + j = off + (j + 1) from by omega]; exact this)]
    simp [ByteArray.push]

/-- A string over a row: its cells are frozen; the row is let go of. -/
theorem unsafeStrB_ok (x : HR Z G μ h w) {ts : Array TypeId} {ty pt : TypeId} {a : Addr} {n : Nat} {v : Value} {ho : Option AH} (h0 : ts[0]? = some pt) (hb : unsafeStrB P h pt a (n + 1) = some (v, ho)) (h63 : ((n + 1 : Nat) : Int) ≤ IntKind.i64.max)
    {v' : Value} (hv : VR μ (.pointer (some a)) v') : ∃ u' w', (Builtin.unsafeString_ ts ty #[v', .int .i64 ((n + 1 : Nat) : Int)]).run P w = .ok u' w' ∧ Owe Z G μ h w v ho u' w' := by
  unfold unsafeStrB at hb
  split at hb
  case h_2 => cases hb
  rename_i e c g hp hsp hi
  split at hb
  case h_2 => cases hb
  rename_i t ht
  split at hb
  case h_2 => cases hb
  rename_i hlies hmay hle
  split at hb
  case h_2 => cases hb
  rename_i l hl
  simp only [Option.some.injEq, Prod.mk.injEq] at hb
  obtain ⟨rfl, rfl⟩ := hb
  simp only [VR] at hv
  obtain ⟨L, _, hL, rfl⟩ := hv
  obtain ⟨L2, hL2, g0, g1, g2⟩ := typed_at x hi ht
  rw [hL] at hL2; cases hL2
  obtain ⟨L3, hL3, _, _, hin, hcells, _⟩ := x.blk _ _ hi
  rw [hL] at hL3; cases hL3
  obtain ⟨ns, hns, rfl⟩ := bytesIn_ok hl
  have hle' := ble_iff.1 hle
  have hlen : ns.length = n + 1 := by
    have := congrArg List.length hns
    simp only [List.length_take, List.length_drop, Array.length_toList, List.length_map] at this
    omega
  have hload : (loadBytes ⟨L.b, a.off, none⟩ .empty (n + 1)).run P w = .ok ⟨(ns.map fun n => UInt8.ofNat n.toNat).toArray⟩ w := by
    have := run_loadRow (P := P) (w := w) L.b ns a.off .empty (fun j v hj => by
      rw [← hns, List.getElem?_take] at hj
      split at hj
      · rw [List.getElem?_drop] at hj
        have hj' : c[a.off + j]? = some v := by simpa using hj
        obtain ⟨v2, h3, h4⟩ := hcells _ _ hj'
        rw [g0, Nat.zero_add] at h3
        have hpv : pureV v = true := by
          have : v ∈ ns.map (Value.int .u8) := by
            rw [← hns]
            refine List.mem_of_getElem? (i := j) ?_
            rw [List.getElem?_take, if_pos (by assumption), List.getElem?_drop]
            exact hj
          obtain ⟨q, _, rfl⟩ := List.mem_map.1 this
          rfl
        rw [h3, (VR.pure hpv).1 h4]
      · cases hj)
    rw [hlen] at this
    simpa using this
  have hfz : ∀ k, k ≠ L.b → (w.freeze ⟨L.b, a.off, none⟩ (n + 1)).heap[k]? = w.heap[k]? := by
    intro k hk
    unfold World.freeze
    rw [if_neg (by omega)]
    simp only
    rw [Array.getElem?_modify, if_neg (fun h => hk h.symm)]
  have hput := HR.put (w' := w.freeze ⟨L.b, a.off, none⟩ (n + 1)) x (b := none) hmay hi hL (by unfold World.freeze; rw [if_neg (by omega)]; simp) hfz (by unfold World.freeze; rw [if_neg (by omega)]) (by unfold World.freeze; rw [if_neg (by omega)]) (by unfold World.freeze; rw [if_neg (by omega)]) (fun bb h => by cases h)
  refine ⟨_, _, ?_, μ, VR.of_pure rfl, hput.1, hput.2⟩
  have hel : (elemOf pt).run P w = .ok e w := by
    unfold elemOf
    simp only [Sem.run_bind, run_underlying hp, Result.andThen_ok, Sem.run_pure]
  rw [g0, Nat.zero_add]
  have hdef : ∀ m : Int, Builtin.unsafeString_ ts ty #[.pointer (some ⟨L.b, a.off, none⟩), .int .i64 m] =
      (do
        let n ← asInt (.int .i64 m)
        let some pt := ts[0]? | stuck "unsafe.String: no argument types"
        if n < 0 then runtimePanic (.error "unsafe.String: len out of range")
        if n > IntKind.i64.max then unsupported (.unsafePointer "String: a length above the largest int")
        if n = 0 then pure (.string .empty)
        else if ← variablesAt ⟨L.b, a.off, none⟩ (← elemOf pt) n.toNat then do
          let s ← loadBytes ⟨L.b, a.off, none⟩ .empty n.toNat
          freeze ⟨L.b, a.off, none⟩ n.toNat
          pure (.string s)
        else unsupported (.unsafePointer "String: not so many bytes at ptr")) := fun _ => rfl
  rw [hdef]
  have hn0 : ¬ ((n + 1 : Nat) : Int) < 0 := by omega
  have hn1 : ¬ ((n + 1 : Nat) : Int) > IntKind.i64.max := by omega
  have hn2 : ¬ ((n + 1 : Nat) : Int) = 0 := by omega
  have hv := variablesAt_ok (P := P) (w := w) g1 g2 hlies
  simp only [asInt, asIntOf, Sem.run_bind, Sem.run_pure, Result.andThen_ok, h0, if_neg hn0, if_neg hn1, if_neg hn2, hel, Int.toNat_natCast, hv, if_true, hload, run_freeze]

theorem noZeroB_ok (x : HR Z G μ h w) {fn : Func} {args args' : List Value} {v : Value} {ho : Option AH} (hb : noZeroB P fn h args = some (v, ho)) (hv : VRL μ args args') :
    ∃ u' w', (Extern.BytealgMakeNoZero.makeNoZero fn.params fn.resultTypes args'.toArray).run P w = .ok u' w' ∧ Owe Z G μ h w v ho u' w' := by
  unfold noZeroB at hb
  split at hb
  case h_2 => cases hb
  rename_i n r hres
  split at hb
  case h_2 => cases hb
  rename_i e hr
  split at hb
  case h_2 => cases hb
  rename_i hle hc
  have := (VRL.pure (μ := μ) (l := [.int .i64 (.ofNat (n + 1))]) rfl).1 hv
  subst this
  have hle' := ble_iff.1 hle
  obtain ⟨cs, h1, h2, _⟩ := Go.Lib.run_makeNoZero (P := P) w fn.params r e hr (n + 1) (by omega)
  obtain ⟨ν, h', rfl, rfl, g1, g2, g3⟩ := new_cells (c' := #[]) (rest := cs) x.drew.drew e hb (by simpa using VRL.nil) ⟨rfl, rfl⟩
  refine ⟨.slice (some ⟨w.heap.size, 0, none⟩) (n + 1) cs.size, w.drew.drew.alloc (.cells cs e), ?_, ν, ?_, by simpa using g2, by simpa using ((FR.drew h μ w).trans (FR.drew h μ w.drew)).trans g3⟩
  · rw [hres]
    exact h1
  · simp only [VR]
    refine ⟨_, cs.size, trivial, g1, rfl, (fun h => by cases h), fun _ => ⟨Nat.le_refl _, h2, ?_⟩⟩
    simp [Gw.e]

theorem cap_nil {ts : Array TypeId} {t el ty : TypeId} {n : Nat} (h0 : ts[0]? = some t) (hu : P.underlying t = some (.slice el)) : (Builtin.cap_ ts ty #[.slice none n 0]).run P w = .ok (.int .i64 0) w := by
  simp [Builtin.cap_, h0, run_underlying hu, goInt]

theorem copy_none {ts : Array TypeId} {t el ty : TypeId} {a b : Option Addr} {n c d k : Nat} (h0 : ts[0]? = some t) (hu : P.underlying t = some (.slice el)) (hs : szOf P el = some k) :
    (Builtin.copy_ ts ty #[.slice a n c, .slice b 0 d]).run P w = .ok (.int .i64 0) w := by
  cases a <;> cases b <;> simp [Builtin.copy_, h0, run_underlying hu, goInt, Builtin.lenOf, loadCellsFrom, run_sizeOf hs, Builtin.firstCells, loadCells, storeCells]

theorem sliceData_nil {ts : Array TypeId} {ty : TypeId} {n c : Nat} : (Builtin.unsafeSliceData_ ts ty #[.slice none n c]).run P w = .ok (.pointer none) w := rfl
theorem sliceData_some {ts : Array TypeId} {ty : TypeId} {a : Addr} {n c : Nat} (hc : c ≠ 0) : (Builtin.unsafeSliceData_ ts ty #[.slice (some a) n c]).run P w = .ok (.pointer (some a)) w := by
  have hdef : Builtin.unsafeSliceData_ ts ty #[.slice (some a) n c] = (if c ≠ 0 then pure (.pointer (some a)) else do
    if (← viewAt a.block).isSome then pure (.pointer (some a)) else pure (.pointer (some ⟨← newObj (.view a (← elemOf ty)), 0, none⟩))) := rfl
  rw [hdef, if_pos hc]
  rfl

theorem VR.ptr {p : Option Addr} {v' : Value} (h : VR μ (.pointer p) v') : ∃ q, v' = .pointer q := by
  cases p with
  | none => simp only [VR] at h; exact ⟨_, h⟩
  | some p => simp only [VR] at h; obtain ⟨l, _, _, h⟩ := h; exact ⟨_, h⟩

theorem unsafeStr_zero {ts : Array TypeId} {pt ty : TypeId} {p : Option Addr} (h0 : ts[0]? = some pt) : (Builtin.unsafeString_ ts ty #[.pointer p, .int .i64 0]).run P w = .ok (.string .empty) w := by
  have hmax : ¬ (0 : Int) > IntKind.i64.max := by decide
  cases p with
  | none =>
    have hdef : Builtin.unsafeString_ ts ty #[.pointer none, .int .i64 0] =
        (do
          let n ← asInt (.int .i64 0)
          let some _pt := ts[0]? | stuck "unsafe.String: no argument types"
          if n < 0 then runtimePanic (.error "unsafe.String: len out of range")
          if n > IntKind.i64.max then unsupported (.unsafePointer "String: a length above the largest int")
          if n = 0 then pure (.string .empty)
          else runtimePanic (.error "unsafe.String: ptr is nil and len is not zero")) := rfl
    rw [hdef]
    simp only [asInt, asIntOf, Sem.run_bind, Sem.run_pure, Result.andThen_ok, h0, if_neg hmax, Int.lt_irrefl, if_false, if_true]
  | some a =>
    have hdef : Builtin.unsafeString_ ts ty #[.pointer (some a), .int .i64 0] =
        (do
          let n ← asInt (.int .i64 0)
          let some pt := ts[0]? | stuck "unsafe.String: no argument types"
          if n < 0 then runtimePanic (.error "unsafe.String: len out of range")
          if n > IntKind.i64.max then unsupported (.unsafePointer "String: a length above the largest int")
          if n = 0 then pure (.string .empty)
          else if ← variablesAt a (← elemOf pt) n.toNat then do
            let s ← loadBytes a .empty n.toNat
            freeze a n.toNat
            pure (.string s)
          else unsupported (.unsafePointer "String: not so many bytes at ptr")) := rfl
    rw [hdef]
    simp only [asInt, asIntOf, Sem.run_bind, Sem.run_pure, Result.andThen_ok, h0, if_neg hmax, Int.lt_irrefl, if_false, if_true]

end
section
variable {P : Program} {μ : Mu} {w : World}
theorem typeAssertB_ok {v v' r : Value} {xt ta : TypeId} {ok : Bool} (hb : typeAssertB P ta ok v = some r) (hv : VR μ v v') : ∃ r', (Instr.typeAssert v' xt ta ok).run P w = .ok r' w ∧ VR μ r r' := by
  unfold typeAssertB at hb
  split at hb
  · cases hb
  · rename_i d t u hno hu
    simp only [VR] at hv
    obtain ⟨u', rfl, hv⟩ := hv
    split at hb
    · rename_i ht
      have ht' := beq_iff.1 ht
      subst ht'
      cases ok
      · cases hb
        refine ⟨u', ?_, hv⟩
        unfold Instr.typeAssert
        simp only [Sem.run_bind, run_underlying hu, Result.andThen_ok]
        cases d <;> first | exact absurd rfl (hno _) | (simp only [if_true]; rfl)
      · cases hb
        refine ⟨.tuple #[u', .bool true], ?_, VR.tuple_mk (VRL.cons hv (VRL.cons (VR.of_pure rfl) VRL.nil))⟩
        unfold Instr.typeAssert
        simp only [Sem.run_bind, run_underlying hu, Result.andThen_ok]
        cases d <;> first | exact absurd rfl (hno _) | (simp only [if_true]; rfl)
    · rename_i ht
      split at hb
      case h_2 => cases hb
      rename_i z hz
      cases hb
      obtain ⟨hz1, hz2, _⟩ := zeroOf_ok (w := w) hz
      have hne : ¬ t = ta := fun h => by rw [beq_iff.2 h] at ht; cases ht
      refine ⟨.tuple #[z, .bool false], ?_, VR.tuple_mk (VRL.cons (VR.of_pure hz2) (VRL.cons (VR.of_pure rfl) VRL.nil))⟩
      unfold Instr.typeAssert
      simp only [Sem.run_bind, run_underlying hu, Result.andThen_ok]
      cases d <;> first | exact absurd rfl (hno _) | (simp only [if_neg hne, if_true, Sem.run_bind, hz1, Result.andThen_ok, Sem.run_pure])
  · rename_i d hno hu
    simp only [VR] at hv
    subst hv
    split at hb
    case h_2 => cases hb
    rename_i z hz
    cases hb
    obtain ⟨hz1, hz2, _⟩ := zeroOf_ok (w := w) hz
    refine ⟨.tuple #[z, .bool false], ?_, VR.tuple_mk (VRL.cons (VR.of_pure hz2) (VRL.cons (VR.of_pure rfl) VRL.nil))⟩
    unfold Instr.typeAssert
    simp only [Sem.run_bind, run_underlying hu, Result.andThen_ok]
    cases d <;> first | exact absurd rfl (hno _) | (simp only [if_true, Sem.run_bind, hz1, Result.andThen_ok, Sem.run_pure])
  · cases hb
end
end Go.Proofs.YtibffohcmegooaaGreatDoor.V
