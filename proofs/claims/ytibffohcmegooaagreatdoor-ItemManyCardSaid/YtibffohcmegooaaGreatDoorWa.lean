/- The small machine's operations with what is asked of symbolic values as propositions ahead of what follows. Conditions: none. -/
import Derived.Test.YtibffohcmegooaaGreatDoorVn
namespace Go.Proofs.YtibffohcmegooaaGreatDoor.V
set_option linter.all false
open Go
noncomputable section

abbrev Ev := T (Option Value)

/-- A test: one way or the other. -/
abbrev brk (b : Bool) (A B : Prop) : Prop := match b with | true => A | false => B
theorem brk_ok {b : Bool} {A B : Prop} (h : brk b A B) : (b = true ∧ A) ∨ (b = false ∧ B) := by
  cases b
  · exact .inr ⟨rfl, h⟩
  · exact .inl ⟨rfl, h⟩
theorem brk_of {b : Bool} {A B : Prop} (h1 : b = true → A) (h2 : b = false → B) : brk b A B := by
  cases b
  · exact h2 rfl
  · exact h1 rfl

/-- A tree set, the answer laid out. -/
def T.setK {α : Type} (d : Nat) : T α → Nat → α → (T α → Prop) → Prop :=
  Nat.rec (motive := fun _ => T α → Nat → α → (T α → Prop) → Prop) (fun _ _ v k => k (.leaf v))
    (fun _ ih t n v k => T.casesOn (motive := fun _ => Prop) t
      (fun a => Nat.casesOn (motive := fun _ => Prop) n (k (.node v (.leaf a) (.leaf a))) (fun m => Bool.casesOn (motive := fun _ => Prop) (Nat.beq (m % 2) 1) (ih (.leaf a) (m / 2) v fun l' => k (.node a l' (.leaf a))) (ih (.leaf a) (m / 2) v fun r' => k (.node a (.leaf a) r'))))
      (fun a l r => Nat.casesOn (motive := fun _ => Prop) n (k (.node v l r)) (fun m => Bool.casesOn (motive := fun _ => Prop) (Nat.beq (m % 2) 1) (ih l (m / 2) v fun l' => k (.node a l' r)) (ih r (m / 2) v fun r' => k (.node a l r'))))) d
theorem T.setK_eq {α : Type} (d : Nat) : ∀ (t : T α) (n : Nat) (v : α) (k : T α → Prop), T.setK d t n v k ↔ k (T.set d t n v) := by
  induction d with
  | zero => intro t n v k; exact Iff.rfl
  | succ d ih =>
    intro t n v k
    cases t with
    | leaf a =>
      cases n with
      | zero => exact Iff.rfl
      | succ m =>
        show Bool.casesOn (motive := fun _ => Prop) (Nat.beq (m % 2) 1) _ _ ↔ k (Bool.casesOn (motive := fun _ => T α) (Nat.beq (m % 2) 1) _ _)
        cases Nat.beq (m % 2) 1
        · exact ih _ _ _ _
        · exact ih _ _ _ _
    | node a l r =>
      cases n with
      | zero => exact Iff.rfl
      | succ m =>
        show Bool.casesOn (motive := fun _ => Prop) (Nat.beq (m % 2) 1) _ _ ↔ k (Bool.casesOn (motive := fun _ => T α) (Nat.beq (m % 2) 1) _ _)
        cases Nat.beq (m % 2) 1
        · exact ih _ _ _ _
        · exact ih _ _ _ _

/-! Memory by what it answers. -/
structure HOK (h : AH) : Prop where
  fits : h.t.fits 24
  nxt : h.next ≤ 16777216

structure Upd (h h' : AH) (i : Nat) (b : Option Blk) : Prop where
  get : ∀ j, h'.get j = if j = i then b else h.get j
  next : h'.next = h.next
  lock : h'.lock = h.lock
  imp : h'.imp = h.imp
  fl : h'.fl = h.fl
  ok : HOK h'

structure New (h h' : AH) (b : Blk) : Prop where
  get : ∀ j, h'.get j = if j = h.next then some b else h.get j
  next : h'.next = h.next + 1
  lock : h'.lock = h.lock
  imp : h'.imp = h.imp
  fl : h'.fl = h.fl
  ok : HOK h'

theorem HOK.put {h : AH} (x : HOK h) {i : Nat} (hi : i < h.next) (b : Option Blk) : Upd h (h.put i b) i b := by
  have h2 := x.nxt
  refine ⟨fun j => ?_, rfl, rfl, rfl, rfl, ⟨T.fits_set 24 _ _ _ x.fits, x.nxt⟩⟩
  by_cases hjo : j < 16777216
  · unfold AH.get AH.put
    simp only [blt_iff.2 hjo]
    by_cases hj : j < h.next
    · simp only [blt_iff.2 hj]
      rw [T.get_set 24 _ _ _ _ x.fits (by simp; omega) (by simp; omega)]
    · have : j ≠ i := by omega
      simp only [blt_no hj, if_neg this]
  · rw [AH.get_old (by omega), AH.get_old (h := h) (by omega), if_neg (by omega)]
    rfl

theorem HOK.new {h : AH} (x : HOK h) (hlt : h.next < 16777216) (b : Blk) : ∃ h', h.new b = some (h.next, h') ∧ New h h' b := by
  unfold AH.new
  rw [blt_iff.2 hlt]
  refine ⟨_, rfl, fun j => ?_, rfl, rfl, rfl, rfl, ⟨T.fits_set 24 _ _ _ x.fits, by show h.next + 1 ≤ 16777216; omega⟩⟩
  by_cases hjo : j < 16777216
  · unfold AH.get
    simp only [blt_iff.2 hjo]
    by_cases hj : j < h.next + 1
    · simp only [blt_iff.2 hj]
      rw [T.get_set 24 _ _ _ _ x.fits (by simpa using hlt) (by simpa using hjo)]
      by_cases he : j = h.next
      · simp [he]
      · have h2 : Nat.blt j h.next = true := blt_iff.2 (by omega)
        simp [he, h2]
    · have h3 : j ≠ h.next := by omega
      simp [blt_no hj, blt_no (show ¬ j < h.next by omega), h3]
  · rw [AH.get_old (by omega), AH.get_old (h := h) (by omega), if_neg (by omega)]

theorem HOK.lt {h : AH} {i : Nat} {b : Blk} (hm : h.may i = true) (hg : h.get i = some b) : i < h.next := AH.may_lt hm (by rw [hg]; simp)

/-! Operations. -/
abbrev VK := Value → Option AH → Prop

section
variable (P : Program) (G : Nat) (ext : FuncId → Option Ext) (orc : Orc) (n fuel : Nat)

def evK (env : Ev) (x : Operand) (k : Value → Prop) : Prop := match ev G n env x with | some v => k v | none => False

/-- What is asked of the program's types. -/
def undK (t : TypeId) (k : TypeDesc → Prop) : Prop := ∃ d, P.underlying t = some d ∧ k d
def szK (t : TypeId) (k : Nat → Prop) : Prop := ∃ s, szOf P t = some s ∧ k s
def aggK (t : TypeId) (k : Bool → Prop) : Prop := ∃ b, isAggB P t = some b ∧ k b
def zeroK (t : TypeId) (k : Value → Prop) : Prop := ∃ z, zeroOf P t = some z ∧ k z

def partK (t : TypeId) (c : Array Value) (o : Nat) (k : Value → Prop) : Prop :=
  aggK P t fun b => szK P t fun m => match b with
    | true => o + m ≤ c.size ∧ ∃ l, (c.toList.drop o).take m = l ∧ k (.agg ⟨l⟩)
    | false => ∃ v, c.toList[o]? = some v ∧ k v

def loadK (h : AH) (t : TypeId) (a : Value) (k : Value → Prop) : Prop := match a with
  | .pointer (some a) => match a.spot with
    | none => ∃ c g, h.get a.block = some (.cells c g) ∧ partK P t c a.off k
    | _ => False
  | _ => False

def storeK (h : AH) (t : TypeId) (v a : Value) (k : AH → Prop) : Prop := match a with
  | .pointer (some a) => match a.spot with
    | none => ∃ c g, h.get a.block = some (.cells c g) ∧ h.may a.block = true ∧ szOf P t = some v.cells.size ∧ a.off + v.cells.size ≤ c.size ∧ v.cells.toList.all oneB = true ∧
        ∀ h', Upd h h' a.block (some (.cells (putL c a.off v.cells.toList) g)) → k h'
    | _ => False
  | _ => False

def newK (h : AH) (b : Blk) (f : Nat → Value) (k : VK) : Prop := h.next < 16777216 ∧ ∀ h', New h h' b → k (f h.next) (some h')

/-- Sums, differences and products of ints are asked not to overflow; other kinds wrap. -/
def ovK (ki : IntKind) (r : Int) (k : Value → Prop) : Prop := match ki with
  | .i64 => (-9223372036854775808 ≤ r ∧ r ≤ 9223372036854775807) ∧ k (.int .i64 r)
  | ki => k (.int ki (ki.wrap r))

/-- What is named by whoever asks. -/
def nameK {α : Type} (x : Option α) (k : α → Prop) : Prop := ∃ r, x = some r ∧ k r
def optK {α : Type} (x : Option α) (k : α → Prop) : Prop := match x with | some r => k r | none => False

/-- Compared with nil as a constant. -/
def nilEqK (t : TypeId) (y : Operand) (u v : Value) (k : Bool → Prop) : Prop := undK P t fun d => match nilKind d u, nilKind d v, nilConst y with
  | true, true, true => optK (isNilB u) k
  | _, _, _ => False

def binK (op : BinOp) (t : TypeId) (x y : Operand) (u v : Value) (k : Value → Prop) : Prop := match u, v with
  | .int ki a, .int kj b => match op with
    | .add => ki = kj ∧ ovK ki (a + b) k
    | .sub => ki = kj ∧ ovK ki (a - b) k
    | .mul => ki = kj ∧ ovK ki (a * b) k
    | .eql => ki = kj ∧ k (.bool (a == b))
    | .neq => ki = kj ∧ k (.bool (a != b))
    | .lss => ki = kj ∧ k (.bool (a < b))
    | .leq => ki = kj ∧ k (.bool (a ≤ b))
    | .gtr => ki = kj ∧ k (.bool (a > b))
    | .geq => ki = kj ∧ k (.bool (a ≥ b))
    | _ => nameK (binB P op t x y u v) k
  | .string a, .string b => match op with
    | .add => a.data.toList.length + b.data.toList.length ≤ 1099511627776 ∧ k (.string ⟨(a.data.toList ++ b.data.toList).toArray⟩)
    | .eql => k (.bool (bytesEq a.data.toList b.data.toList))
    | .neq => k (.bool (!bytesEq a.data.toList b.data.toList))
    | _ => nameK (binB P op t x y u v) k
  | .bool a, .bool b => match op with
    | .eql => undK P t fun d => match d with | .bool => k (.bool (a == b)) | _ => False
    | .neq => undK P t fun d => match d with | .bool => k (.bool (!(a == b))) | _ => False
    | _ => False
  | .pointer p, .pointer none => match op with
    | .eql => nilEqK P t y (.pointer p) (.pointer none) fun r => k (.bool r)
    | .neq => nilEqK P t y (.pointer p) (.pointer none) fun r => k (.bool (!r))
    | _ => False
  | _, _ => nameK (binB P op t x y u v) k

def indexK (t : TypeId) (x i : Value) (k : Value → Prop) : Prop := match i with
  | .int _ z => undK P t fun d => match d, x with
    | .string, .string s => (0 ≤ z ∧ z < s.data.toList.length) ∧ ∀ b, s.data.toList[z.toNat]? = some b → k (.int .u8 b.toNat)
    | .array m elem, .agg c => szK P elem fun size => (0 ≤ z ∧ z < m) ∧ partK P elem c (z.toNat * size) k
    | _, _ => False
  | _ => False

def indexAddrK (t : TypeId) (x i : Value) (k : Value → Prop) : Prop := match i with
  | .int _ z => undK P t fun d => match d, x with
    | .slice elem, .slice (some a) m _ => match a.spot with
      | none => szK P elem fun size => (0 ≤ z ∧ z < m) ∧ k (.pointer (some ⟨a.block, a.off + z.toNat * size, none⟩))
      | _ => False
    | .array m elem, .pointer (some a) => match a.spot with
      | none => szK P elem fun size => (0 ≤ z ∧ z < m) ∧ k (.pointer (some ⟨a.block, a.off + z.toNat * size, none⟩))
      | _ => False
    | _, _ => False
  | _ => False

def nextK (h : AH) (v : Value) (isString : Bool) (k : VK) : Prop := match v, isString with
  | .pointer (some ⟨i, 0, none⟩), true => ∃ s pos, h.get i = some (.iter s pos) ∧
      brk (Nat.blt pos s.data.toList.length) (h.may i = true ∧ ∀ h', Upd h h' i (some (.iter s (pos + (Utf8.decode s pos).2))) → k (.tuple #[.bool true, .int .i64 pos, .int .i32 (Utf8.decode s pos).1]) (some h'))
        (k (.tuple #[.bool false]) none)
  | _, _ => False

def fieldAddrK (s : TypeId) (x : Value) (f : Nat) (k : Value → Prop) : Prop := undK P s fun d => match d, x with
  | .struct fs, .pointer (some a) => match fs[f]?, a.spot with
    | some fd, none => ∃ m, szOf P fd.type = some m ∧ 0 < m ∧ k (.pointer (some ⟨a.block, a.off + fd.offset, none⟩))
    | _, _ => False
  | _, _ => False

def fieldK (t : TypeId) (x : Value) (f : Nat) (k : Value → Prop) : Prop := undK P t fun d => match d, x with
  | .struct fs, .agg c => match fs[f]? with
    | some fd => partK P fd.type c fd.offset k
    | none => False
  | _, _ => False

def boundK (len cap : Nat) (lo hi : Option Value) (k : Nat → Nat → Prop) : Prop := match hi with
  | some (.int _ z) => (0 ≤ z ∧ z ≤ cap) ∧ (match lo with
    | some (.int _ y) => (0 ≤ y ∧ y ≤ z) ∧ k y.toNat z.toNat
    | none => k 0 z.toNat
    | _ => False)
  | none => match lo with
    | some (.int _ y) => (0 ≤ y ∧ y ≤ len) ∧ k y.toNat len
    | none => k 0 len
    | _ => False
  | _ => False

def sliceK (h : AH) (t : TypeId) (x : Value) (lo hi : Option Value) (k : Value → Prop) : Prop := undK P t fun d => match d, x with
  | .string, .string s => boundK s.data.toList.length s.data.toList.length lo hi fun l hh => k (.string ⟨((s.data.toList.drop l).take (hh - l)).toArray⟩)
  | .slice elem, .slice (some a) m c => match a.spot with
    | none => szK P elem fun size => ∃ cs, h.get a.block = some (.cells cs .no) ∧ boundK m c lo hi fun l hh => k (.slice (match Nat.beq c l with | true => some a | false => some ⟨a.block, a.off + l * size, none⟩) (hh - l) (c - l))
    | _ => nameK (sliceB P h t x lo hi) k
  | _, _ => nameK (sliceB P h t x lo hi) k

def convK (h : AH) (src dst : TypeId) (v : Value) (k : VK) : Prop := undK P src fun ds => undK P dst fun dd => match dd, v with
  | .int ki, .int _ z => ∀ m, m = ki.wrap z → k (.int ki m) none
  | .string, .string s => k (.string s) none
  | _, _ => ∃ r ho, convB P h src dst v = some (r, ho) ∧ HOK (ho.getD h) ∧ k r ho

def placesK (l : List Field) : (List (Nat × Nat) → Prop) → Prop := List.rec (motive := fun _ => (List (Nat × Nat) → Prop) → Prop) (fun k => k []) (fun f _ ih k => szK P f.type fun s => ih fun r => k ((f.offset, s) :: r)) l

def buildK (t : TypeId) (parts : List (Nat × Value)) (k : Value → Prop) : Prop := zeroK P t fun z => undK P t fun d => match d with
  | .struct fs => placesK P fs.toList fun pl => nameK (fillB (fun i => pl[i]?) z.cells parts) fun c => k (.agg c)
  | .array _ elem => szK P elem fun size => nameK (fillB (fun i => some (i * size, size)) z.cells parts) fun c => k (.agg c)
  | _ => False

def buildSliceK (h : AH) (t : TypeId) (len : Nat) (parts : List (Nat × Value)) (k : VK) : Prop := undK P t fun d => match d with
  | .slice elem => szK P elem fun size => zeroK P elem fun z => z.cells.size = size ∧ len * size ≤ 16777216 ∧
      nameK (fillB (fun i => some (i * size, size)) (zerosB z.cells.toList len).toArray parts) fun c => newK h (.cells c .no) (fun i => .slice (some ⟨i, 0, none⟩) len len) k
  | _ => False

def ifaceK (t : TypeId) (v : Value) (k : Value → Prop) : Prop := undK P t fun d => match d with
  | .interface _ => False
  | _ => k (.iface t v)

def lenK (t : TypeId) (v : Value) (k : Value → Prop) : Prop := undK P t fun d => match d, v with
  | .string, .string s => k (.int .i64 s.data.toList.length)
  | .array m _, _ => k (.int .i64 m)
  | .slice _, .slice _ m _ => k (.int .i64 m)
  | .map _ _, .map none => k (.int .i64 0)
  | _, _ => False

def rangeK (h : AH) (t : TypeId) (v : Value) (k : VK) : Prop := undK P t fun d => match d, v with
  | .string, .string s => newK h (.iter s 0) ptrTo k
  | _, _ => False

def isLenC (c : Call) : Bool := match c.callee with | .builtin .len => true | _ => false

def callK (c : Call) (env : Ev) (h : AH) (k : VK) : Prop := optK (evs G n env c.args.toList) fun args => match c.callee with
  | .builtin b => match b, args with
    | .len, [v] => match c.argTypes.toList with | t :: _ => lenK P t v fun r => k r none | [] => False
    | _, _ => ∃ v ho, builtinB P h b c.argTypes args = some (v, ho) ∧ HOK (ho.getD h) ∧ k v ho
  | .value f => evK G n env f fun fv => ∃ v ho, callB P ext orc h fv args = some (v, ho) ∧ HOK (ho.getD h) ∧ k v ho
  | _ => False

/-- Any operation: by its answer. -/
def anyK (o : Oper) (env : Ev) (h : AH) (k : VK) : Prop := match opB P G ext orc n o env h with
  | some (v, none) => k v none
  | some (v, some h') => HOK h' ∧ k v (some h')
  | none => False
def oE (env : Ev) (x : Option Operand) (k : Option Value → Prop) : Prop := match x with
  | none => k none
  | some x => evK G n env x fun v => k (some v)

def opK (o : Oper) (env : Ev) (h : AH) (k : VK) : Prop := match o.op with
  | .pick c x y => evK G n env c fun v => match v with | .bool t => brk t (evK G n env x fun u => k u none) (evK G n env y fun u => k u none) | _ => False
  | .alloc t => zeroK P t fun z => newK h (.cells z.cells (tyOf P t)) ptrTo k
  | .box t x => evK G n env x fun v => newK h (.cells v.cells (tyOf P t)) ptrTo k
  | .build t ps => optK (partsOk G ps.toList n env) fun vs => buildK P t vs fun r => k r none
  | .buildSlice t len ps => optK (partsOk G ps.toList n env) fun vs => buildSliceK P h t len vs k
  | .load t x => evK G n env x fun a => loadK P h t a fun v => k v none
  | .binOp op t x y _ => evK G n env x fun u => evK G n env y fun v => binK P op t x y u v fun r => k r none
  | .convert s d x => evK G n env x fun v => convK P h s d v k
  | .makeInterface t x => evK G n env x fun v => ifaceK P t v fun r => k r none
  | .slice t x lo hi none => evK G n env x fun v => oE G n env lo fun l => oE G n env hi fun r => sliceK P h t v l r fun u => k u none
  | .fieldAddr s x f => evK G n env x fun v => fieldAddrK P s v f fun r => k r none
  | .field t x f => evK G n env x fun v => fieldK P t v f fun r => k r none
  | .index t x i => evK G n env x fun u => evK G n env i fun v => indexK P t u v fun r => k r none
  | .indexAddr t x i => evK G n env x fun u => evK G n env i fun v => indexAddrK P t u v fun r => k r none
  | .range t x => evK G n env x fun v => rangeK P h t v k
  | .next x b => evK G n env x fun v => nextK h v b k
  | .makeMap _ none => newK h (.map #[] 0) (fun i => .map (some i)) k
  | .makeSlice t l c => evK G n env l fun u => evK G n env c fun v => ∃ r ho, makeSliceB P h t u v = some (r, ho) ∧ HOK (ho.getD h) ∧ k r ho
  | .call c => callK P G ext orc n c env h k
  | _ => anyK P G ext orc n o env h k

def wantK (ops : Array Oper) (o : Oper) (env : Ev) (A B : Prop) : Prop := match o.guard with
  | none => A
  | some (j, want) => match (ops[j]?).bind (·.dst) with
    | some d => match Nat.blt d n with
      | true => match env.get d with | some (.bool b) => brk (b == want) A B | some _ => B | none => False
      | false => B
    | none => B

def putK (dst : Option Tmp) (v : Value) (env : Ev) (k : Ev → Prop) : Prop := match dst with
  | none => k env
  | some d => match Nat.blt d n with
    | true => T.setK 12 env d (some v) k
    | false => False

abbrev SK := Array Oper → Ev → AH → (Ev → AH → Prop) → Prop
def stepOpK (o : Oper) (ih : SK) : SK := fun ops env h k => wantK n ops o env
      (match o.op with
        | .store t x y => evK G n env x fun a => evK G n env y fun v => storeK P h t v a fun h' => putK n o.dst undef env fun env' => ih ops env' h' k
        | _ => opK P G ext orc n o env h fun v ho => putK n o.dst v env fun env' => match ho with | none => ih ops env' h k | some h' => ih ops env' h' k)
      (putK n o.dst undef env fun env' => ih ops env' h k)
def opsKA (l : List Oper) : SK := List.rec (motive := fun _ => SK) (fun _ env h k => k env h) (fun o _ ih => stepOpK P G ext orc n o ih) l
def opsK (ops : Array Oper) (l : List Oper) (env : Ev) (h : AH) (k : Ev → AH → Prop) : Prop := opsKA P G ext orc n l ops env h k

/-! Statements of open order, their effects in one chain, no writes. -/
/-- Operations that are run without memory. -/
def bareOp (env : Ev) (o : Oper) : Bool := match o.op with
  | .slice _ x _ _ _ => match ev G n env x with | some (.string _) => true | _ => false
  | .convert .. => false
  | op => freeOp op
/-- Operations that are run on locked memory, and would not run without memory. -/
def memOp (o : Oper) : Bool := match o.op with
  | .load .. | .alloc _ | .box .. | .buildSlice .. | .range .. | .next .. => true
  | .call c => match c.callee with | .value _ => true | _ => false
  | _ => false
/-- What is written stands there already. -/
def sameK (h : AH) (t : TypeId) (v a : Value) (k : Prop) : Prop := match a with
  | .pointer (some a) => match a.spot with
    | none => ∃ c g, h.get a.block = some (.cells c g) ∧ h.may a.block = true ∧ szOf P t = some v.cells.size ∧ a.off + v.cells.size ≤ c.size ∧ List.all v.cells.toList oneB = true ∧
        sameL v.cells.toList ((c.toList.drop a.off).take v.cells.size) = true ∧ k
    | _ => False
  | _ => False
/-- What is written is new. -/
def storeNewK (h : AH) (t : TypeId) (v a : Value) (k : AH → Prop) : Prop := match a with
  | .pointer (some a) => match a.spot with
    | none => ∃ c g, h.get a.block = some (.cells c g) ∧ h.may a.block = true ∧ szOf P t = some v.cells.size ∧ a.off + v.cells.size ≤ c.size ∧ List.all v.cells.toList oneB = true ∧
        sameL v.cells.toList ((c.toList.drop a.off).take v.cells.size) = false ∧ ∀ h', Upd h h' a.block (some (.cells (putL c a.off v.cells.toList) g)) → k h'
    | _ => False
  | _ => False
/-- A block that stood at all these times. -/
def elderK (a : Value) (hs : List AH) : Prop := match a with
  | .pointer (some a) => ∀ q ∈ hs, a.block < q.next
  | _ => False
theorem elder_no {b : Nat} : ∀ (hs : List AH) (q : Nat), (∀ h ∈ hs, b < h.next) → lastLe b hs q none = none
  | [], _, _ => rfl
  | h :: hs, q, hh => by
    have h1 : Nat.ble h.next b = false := by
      have := hh h (List.mem_cons_self ..)
      cases hb : Nat.ble h.next b with
      | false => rfl
      | true => have := ble_iff.1 hb; omega
    simp only [lastLe, h1]
def storeDrawK (m i kk : Nat) (o : Oper) (x : Way) (h : AH) (t : TypeId) (v a : Value) (k : Way → Prop) : Prop := match x.hs with
  | [_] => nfF m x.nf = true ∧ storeNewK P h t v a fun h' => k ⟨putF o.dst undef x.env, x.es ++ [(i, 1)], x.nf ++ [(i, kk)], x.hs ++ [h'], x.sd, x.al⟩
  | _ => (Nat.beq (kk + 1) x.hs.length && nfF m x.nf) = true ∧ elderK a x.hs ∧ storeNewK P h t v a fun h' => k ⟨putF o.dst undef x.env, x.es ++ [(i, 1)], x.nf ++ [(i, kk)], x.hs ++ [h'], x.sd, x.al⟩
/-- An operation by its own answer: on locked memory, or where memory is turned for good. -/
def ownK (m i kk : Nat) (o : Oper) (x : Way) (h : AH) (k : Way → Prop) : Prop :=
  wrF m kk x.es = true ∧ freeF P G ext orc n o x.env h = none ∧
  ((∃ v, opB P G ext orc n o x.env h.locked = some (v, none) ∧ k ⟨putF o.dst v x.env, x.es, x.nf ++ [(i, kk)], x.hs, x.sd, x.al⟩) ∨
   (Nat.beq (kk + 1) x.hs.length = true ∧ ∃ v h', opB P G ext orc n o x.env h.locked = some (v, some h') ∧ HOK h' ∧ k ⟨putF o.dst v x.env, x.es ++ [(i, 0)], x.nf ++ [(i, kk)], x.hs ++ [{ h' with lock := h.lock }], x.sd, x.al⟩) ∨
   (freshQ G n o x.env x.hs = none ∧ (Nat.beq (kk + 1) x.hs.length && nfF m x.nf) = true ∧ opB P G ext orc n o x.env h.locked = none ∧ ∃ v h', opB P G ext orc n o x.env h = some (v, some h') ∧ HOK h' ∧
     k ⟨putF o.dst v x.env, x.es ++ [(i, 1)], x.nf ++ [(i, kk)], x.hs ++ [h'], x.sd, x.al⟩))
def stepK (ops : Array Oper) (m i kk : Nat) (o : Oper) (x : Way) (k : Way → Prop) : Prop :=
  match chainF m kk x.es 0, x.hs[kk]? with
  | true, some h => wantK n ops o x.env
    (match o.op with
     | .store t y z => wrF m kk x.es = true ∧ evK G n x.env y fun a => evK G n x.env z fun v => sameK P h t v a (k ⟨putF o.dst undef x.env, x.es, x.nf ++ [(i, kk)], x.hs, x.sd, x.al⟩) ∨ storeDrawK P m i kk o x h t v a k
     | _ => match bareOp G n x.env o, memOp o with
      | true, _ => opK P G ext orc n o x.env h.bare fun v ho => match ho with | none => k ⟨putF o.dst v x.env, x.es, x.nf, x.hs, x.sd, x.al⟩ | some _ => False
      | false, true => wrF m kk x.es = true ∧ opK P G ext orc n o x.env h.locked fun v ho => match ho with
        | none => k ⟨putF o.dst v x.env, x.es, x.nf ++ [(i, kk)], x.hs, x.sd, x.al⟩
        | some h' => Nat.beq (kk + 1) x.hs.length = true ∧ k ⟨putF o.dst v x.env, x.es ++ [(i, 0)], x.nf ++ [(i, kk)], x.hs ++ [{ h' with lock := h.lock }], x.sd, x.al⟩
      | _, _ => ownK P G ext orc n m i kk o x h k)
    (k ⟨putF o.dst undef x.env, x.es, x.nf, x.hs, x.sd, x.al⟩)
  | _, _ => False
abbrev GK := List Nat → Nat → Way → (Way → Prop) → Prop
def stepGoK (ops : Array Oper) (o : Oper) (ih : GK) : GK := fun ms i x k => match ms with
  | [] => False
  | m :: ms => stepK P G ext orc n ops m i (cntF m x.es) o x fun y => ih ms (i + 1) y k
def goK (ops : Array Oper) (l : List Oper) : GK := List.rec (motive := fun _ => GK) (fun _ _ x k => k x) (fun o _ ih => stepGoK P G ext orc n ops o ih) l
def drawK (ops : Array Oper) (env : Ev) (h : AH) (k : Ev → AH → Prop) : Prop :=
  ∃ ms, masksB ops.toList [] = some ms ∧ statB n ops ops.toList [] ms = true ∧ goK P G ext orc n ops ops.toList ms 0 ⟨env, [], [], [h], [], []⟩ fun x => x.al = [] ∧ optK x.hs.getLast? fun h' => k x.env h'

abbrev CK := Out → Ev → AH → Prop
def loopK (body : Ev → AH → CK → Prop) (env : Ev) (h : AH) (k : CK) : Prop :=
  ∃ (I : Nat → Ev → AH → Prop) (m0 : Nat), m0 < fuel ∧ I m0 env h ∧ ∀ m env h, HOK h → I m env h → body env h fun out env' h' => match out with
    | .normal => ∃ m', m' < m ∧ I m' env' h'
    | out => k out env' h'

/-- So many rounds at most, one after the other. -/
def rollK (body : Ev → AH → CK → Prop) (r : Nat) : Ev → AH → CK → Prop := Nat.rec (motive := fun _ => Ev → AH → CK → Prop) (fun _ _ _ => False)
  (fun _ ih env h k => body env h fun out env' h' => match out with
    | .normal => ih env' h' k
    | out => k out env' h') r

abbrev KK := Ev → AH → CK → Prop
def kSkip : KK := fun env h k => k .normal env h
def kRegion (ops : Array Oper) (draw : Bool) : KK := fun env h k => match draw with
  | false => opsK P G ext orc n ops ops.toList env h fun env' h' => k .normal env' h'
  | true => drawK P G ext orc n ops env h fun env' h' => k .normal env' h'
def kSeq (a b : KK) : KK := fun env h k => a env h fun out env' h' => match out with
    | .normal => b env' h' k
    | out => k out env' h'
def kCond (c : Operand) (a b : KK) : KK := fun env h k => evK G n env c fun v => match v with
    | .bool t => brk t (a env h k) (b env h k)
    | _ => False
def kBlock (id : Nat) (c : KK) : KK := fun env h k => c env h fun out env' h' => match out with
    | .exit j => match Nat.beq j id with | true => k .normal env' h' | false => k (.exit j) env' h'
    | out => k out env' h'
def kLoop (c : KK) : KK := fun env h k => loopK fuel c env h k ∨ ∃ r, r < fuel ∧ rollK c r env h k
def stOK (s : LoopState) : Bool := match s with | .busy => false | _ => true
/-- A loop over a function: the record is laid, the function is called with the loop's yield; then the record is looked at and let go of. -/
def kFunc (f : Operand) (ps : Array Tmp) (x y : Code) : KK := fun env h k => noFunc x = true ∧ noFunc y = true ∧ h.lock ≤ h.next ∧ evK G n env f fun fv => h.next < 16777216 ∧ ∀ h1, New h h1 (.loop env n ps x y .ready none) →
  ∃ Q : AH → Prop, (∃ v h2, seqB P orc h1 fv (.func (.yield h.next) ⟨[]⟩ ⟨[]⟩) = some (v, some h2) ∧ HOK h2 ∧ Q h2) ∧ ∀ h2, HOK h2 → Q h2 →
    ∃ env0 n0 ps0 x0 y0 st pend, h2.get h.next = some (.loop env0 n0 ps0 x0 y0 st pend) ∧ stOK st = true ∧ h.next < h2.next ∧ optK (jumpOut pend) fun out => ∀ h3, Upd h2 h3 h.next none → k out env h3
def kExit (id : Nat) : KK := fun env h k => k (.exit id) env h
def kRet : KK := fun env h k => k .ret env h
def kNone : KK := fun _ _ _ => False
def codeK (c : Code) : KK := Code.rec (motive := fun _ => KK) kSkip (fun _ ops draw => kRegion P G ext orc n ops draw) (fun _ _ a b => kSeq a b) (fun c _ _ a b => kCond G n c a b) (fun id _ c => kBlock id c)
  (fun _ c => kLoop fuel c) (fun f ps x y _ _ => kFunc P G orc n f ps x y) (fun id => kExit id) (fun _ c => c) (fun _ => kSkip) (fun _ => kNone) kRet (fun _ => kNone) c
end

/-! What they say is so. -/
section
variable {P : Program} {G n fuel : Nat} {ext : FuncId → Option Ext} {orc : Orc}

theorem evK_ok {env : Ev} {x : Operand} {k : Value → Prop} (h : evK G n env x k) : ∃ v, ev G n env x = some v ∧ k v := by
  unfold evK at h
  split at h
  · rename_i v hv; exact ⟨v, hv, h⟩
  · exact h.elim

theorem nameK_ok {α : Type} {x : Option α} {k : α → Prop} (h : nameK x k) : ∃ r, x = some r ∧ k r := h
theorem optK_ok {α : Type} {x : Option α} {k : α → Prop} (h : optK x k) : ∃ r, x = some r ∧ k r := by
  unfold optK at h
  split at h
  · rename_i r; exact ⟨r, rfl, h⟩
  · exact h.elim

theorem partK_ok {t : TypeId} {c : Array Value} {o : Nat} {k : Value → Prop} (hk : partK P t c o k) : ∃ v, partB P t c o = some v ∧ k v := by
  obtain ⟨b, hb, m, hm, hk⟩ := hk
  unfold partB
  rw [hb, hm]
  cases b with
  | true =>
    simp only at hk ⊢
    obtain ⟨h1, l, rfl, h2⟩ := hk
    rw [ble_iff.2 h1]
    exact ⟨_, rfl, h2⟩
  | false =>
    obtain ⟨v, hv, h⟩ := hk
    exact ⟨v, hv, h⟩

theorem loadK_ok {h : AH} {t : TypeId} {a : Value} {k : Value → Prop} (hk : loadK P h t a k) : ∃ v, loadB P h t a = some v ∧ k v := by
  unfold loadK at hk
  split at hk
  case h_2 => exact hk.elim
  split at hk
  case h_2 => exact hk.elim
  rename_i a hs
  obtain ⟨c, g, hg, hp⟩ := hk
  obtain ⟨v, h1, h2⟩ := partK_ok hp
  refine ⟨v, ?_, h2⟩
  unfold loadB
  simp only [hs, hg]
  exact h1

theorem putL_same : ∀ (vs : List Value) (c : Array Value) (o : Nat), (∀ k, k < vs.length → c[o + k]? = vs[k]?) → putL c o vs = c
  | [], _, _, _ => rfl
  | v :: vs, c, o, h => by
    have h0 := h 0 (by simp)
    simp only [Nat.add_zero, List.getElem?_cons_zero] at h0
    have hc : c.setIfInBounds o v = c := by
      apply Array.ext_getElem?
      intro i
      by_cases he : i = o
      · subst he
        have hlt : i < c.size := (Array.getElem?_eq_some_iff.1 h0).1
        rw [h0]
        simp [hlt]
      · rw [Array.getElem?_setIfInBounds_ne (fun e => he e.symm)]
    simp only [putL]
    rw [hc]
    refine putL_same vs c (o + 1) fun k hk => ?_
    have := h (k + 1) (by simpa using hk)
    rw [show o + 1 + k = o + (k + 1) from by omega, this]
    simp

theorem storeK_ok {h : AH} (hok : HOK h) {t : TypeId} {v a : Value} {k : AH → Prop} (hk : storeK P h t v a k) :
    ∃ ho, (match storeSame P h t v a with | true => some (undef, none) | false => match storeB P h t v a with | some h' => some (undef, some h') | none => none) = some (undef, ho) ∧ HOK (ho.getD h) ∧ k (ho.getD h) := by
  unfold storeK at hk
  split at hk
  case h_2 => exact hk.elim
  split at hk
  case h_2 => exact hk.elim
  rename_i a _ hs
  obtain ⟨c, g, hg, hm, hsz, hle, hone, hk⟩ := hk
  cases hss : storeSame P h t v (.pointer (some a)) with
  | true =>
    refine ⟨none, rfl, hok, hk _ ?_⟩
    unfold storeSame at hss
    simp only [hs, hg, AH.may_imp hm, hsz, beq_iff.2 rfl, ble_iff.2 hle, hone] at hss
    have he := sameL_eq hss
    have hput : putL c a.off v.cells.toList = c := by
      refine putL_same _ _ _ fun q hq => ?_
      rw [he, List.getElem?_take]
      have hq2 : q < v.cells.size := by simpa using hq
      rw [if_pos hq2, List.getElem?_drop]
      simp
    rw [hput]
    refine ⟨fun j => ?_, rfl, rfl, rfl, rfl, hok⟩
    by_cases hj : j = a.block
    · subst hj; rw [if_pos rfl]; exact hg
    · rw [if_neg hj]; rfl
  | false =>
    have hst : storeB P h t v (.pointer (some a)) = some (h.put a.block (some (.cells (putL c a.off v.cells.toList) g))) := by
      unfold storeB
      simp only [hs, hg, hm, hsz, beq_iff.2 rfl, ble_iff.2 hle, hone]
    have hu := hok.put (HOK.lt hm hg) (some (.cells (putL c a.off v.cells.toList) g))
    refine ⟨some _, ?_, hu.ok, hk _ hu⟩
    simp only [hst]
    rfl

theorem newK_ok {h : AH} (hok : HOK h) {b : Blk} {f : Nat → Value} {k : VK} (hk : newK h b f k) : ∃ v ho, newB h b f = some (v, ho) ∧ HOK (ho.getD h) ∧ k v ho := by
  obtain ⟨hlt, hk⟩ := hk
  obtain ⟨h', h1, h2⟩ := hok.new hlt b
  refine ⟨f h.next, some h', ?_, h2.ok, hk h' h2⟩
  unfold newB
  rw [h1]

theorem wrap_i64 {r : Int} (h1 : -9223372036854775808 ≤ r) (h2 : r ≤ 9223372036854775807) : IntKind.i64.wrap r = r := by
  unfold IntKind.wrap
  simp only [IntKind.bits, IntKind.signed]
  by_cases h0 : 0 ≤ r
  · have : r % (2 ^ 64 : Int) = r := Int.emod_eq_of_lt h0 (by simp; omega)
    simp only [this, Bool.true_and]
    rw [if_neg]
    simp
    omega
  · have : r % (2 ^ 64 : Int) = r + 18446744073709551616 := by
      rw [show (2 ^ 64 : Int) = 18446744073709551616 from by decide]
      omega
    simp only [this, Bool.true_and]
    rw [if_pos]
    · rw [show (2 ^ 64 : Int) = 18446744073709551616 from by decide]; omega
    · simp
      omega

theorem ovK_ok {ki : IntKind} {r : Int} {k : Value → Prop} (h : ovK ki r k) : k (.int ki (ki.wrap r)) := by
  unfold ovK at h
  split at h
  · rw [wrap_i64 h.1.1 h.1.2]; exact h.2
  · exact h

theorem nilEqK_ok {t : TypeId} {x y : Operand} {p : Option Addr} {k : Bool → Prop} (hk : nilEqK P t y (.pointer p) (.pointer none) k) : ∃ r, eqB P t x y (.pointer p) (.pointer none) = some r ∧ k r := by
  obtain ⟨d, hd, hk⟩ := hk
  split at hk
  case h_2 => exact hk.elim
  rename_i h1 h2 h3
  obtain ⟨r, hr, hk⟩ := optK_ok hk
  refine ⟨r, ?_, hk⟩
  cases p with
  | none => simp only [eqB, hd, h1, h2, h3, hr]
  | some a => simp only [eqB, hd, h1, h2, h3, hr]

theorem binK_ok {op : BinOp} {t : TypeId} {x y : Operand} {u v : Value} {k : Value → Prop} (hk : binK P op t x y u v k) : ∃ r, binB P op t x y u v = some r ∧ k r := by
  unfold binK at hk
  split at hk
  · split at hk
    · obtain ⟨rfl, h⟩ := hk
      exact ⟨_, by simp [binB, arithB], ovK_ok h⟩
    · obtain ⟨rfl, h⟩ := hk
      exact ⟨_, by simp [binB, arithB], ovK_ok h⟩
    · obtain ⟨rfl, h⟩ := hk
      exact ⟨_, by simp [binB, arithB], ovK_ok h⟩
    · obtain ⟨rfl, h⟩ := hk
      exact ⟨_, by simp [binB, arithB], h⟩
    · obtain ⟨rfl, h⟩ := hk
      exact ⟨_, by simp [binB, arithB], h⟩
    · obtain ⟨rfl, h⟩ := hk
      exact ⟨_, by simp [binB, arithB], h⟩
    · obtain ⟨rfl, h⟩ := hk
      exact ⟨_, by simp [binB, arithB], h⟩
    · obtain ⟨rfl, h⟩ := hk
      exact ⟨_, by simp [binB, arithB], h⟩
    · obtain ⟨rfl, h⟩ := hk
      exact ⟨_, by simp [binB, arithB], h⟩
    · exact hk
  · split at hk
    · exact ⟨_, by simp only [binB, stringB, ble_iff.2 hk.1], hk.2⟩
    · exact ⟨_, rfl, hk⟩
    · exact ⟨_, rfl, hk⟩
    · exact hk
  · split at hk
    · obtain ⟨d, hd, hk⟩ := hk
      split at hk
      · exact ⟨_, by simp only [binB, eqB, hd]; rfl, hk⟩
      · exact hk.elim
    · obtain ⟨d, hd, hk⟩ := hk
      split at hk
      · exact ⟨_, by simp only [binB, eqB, hd]; rfl, hk⟩
      · exact hk.elim
    · exact hk.elim
  · split at hk
    · obtain ⟨r, hr, hk⟩ := nilEqK_ok (x := x) hk
      exact ⟨_, by simp only [binB, hr]; rfl, hk⟩
    · obtain ⟨r, hr, hk⟩ := nilEqK_ok (x := x) hk
      exact ⟨_, by simp only [binB, hr]; rfl, hk⟩
    · exact hk.elim
  · exact hk

theorem toNat_of {z : Int} {m : Nat} (h : 0 ≤ z ∧ z < (m : Int)) : ∃ q : Nat, z = Int.ofNat q ∧ z.toNat = q ∧ q < m := by
  obtain ⟨q, rfl⟩ := Int.eq_ofNat_of_zero_le h.1
  exact ⟨q, rfl, rfl, by have := h.2; omega⟩

theorem indexK_ok {t : TypeId} {x i : Value} {k : Value → Prop} (hk : indexK P t x i k) : ∃ v, indexB P t x i = some v ∧ k v := by
  unfold indexK at hk
  split at hk
  case h_2 => exact hk.elim
  obtain ⟨d, hu, hk⟩ := hk
  split at hk
  · rename_i s
    obtain ⟨hb, hk⟩ := hk
    obtain ⟨q, rfl, hq, hlt⟩ := toNat_of hb
    have hget : s.data.toList[q]? = some (s.data.toList[q]) := List.getElem?_eq_getElem hlt
    refine ⟨.int .u8 (s.data.toList[q]).toNat, ?_, hk _ (by rw [hq]; exact hget)⟩
    unfold indexB
    simp only [hu, hget]
    rfl
  · rename_i m elem c
    obtain ⟨size, hs, hb, hk⟩ := hk
    obtain ⟨q, rfl, hq, hlt⟩ := toNat_of hb
    obtain ⟨v, h1, h2⟩ := partK_ok hk
    rw [hq] at h1
    refine ⟨v, ?_, h2⟩
    unfold indexB
    simp only [hu, blt_iff.2 hlt, hs]
    exact h1
  · exact hk.elim

theorem indexAddrK_ok {t : TypeId} {x i : Value} {k : Value → Prop} (hk : indexAddrK P t x i k) : ∃ v, indexAddrB P t x i = some v ∧ k v := by
  unfold indexAddrK at hk
  split at hk
  case h_2 => exact hk.elim
  obtain ⟨d, hu, hk⟩ := hk
  split at hk
  · split at hk
    case h_2 => exact hk.elim
    rename_i hsp
    obtain ⟨size, hs, hb, hk⟩ := hk
    obtain ⟨q, rfl, hq, hlt⟩ := toNat_of hb
    rw [hq] at hk
    refine ⟨_, ?_, hk⟩
    unfold indexAddrB
    simp only [hu, blt_iff.2 hlt, hs, hsp]
  · split at hk
    case h_2 => exact hk.elim
    rename_i hsp
    obtain ⟨size, hs, hb, hk⟩ := hk
    obtain ⟨q, rfl, hq, hlt⟩ := toNat_of hb
    rw [hq] at hk
    refine ⟨_, ?_, hk⟩
    unfold indexAddrB
    simp only [hu, blt_iff.2 hlt, hs, hsp]
  · exact hk.elim

theorem fieldAddrK_ok {t : TypeId} {x : Value} {f : Nat} {k : Value → Prop} (hk : fieldAddrK P t x f k) : ∃ v, fieldAddrB P t x f = some v ∧ k v := by
  obtain ⟨d, hu, hk⟩ := hk
  split at hk
  case h_2 => exact hk.elim
  split at hk
  case h_2 => exact hk.elim
  rename_i fd hf hsp
  obtain ⟨m, hm, hpos, hk⟩ := hk
  obtain ⟨m, rfl⟩ : ∃ e, m = e + 1 := ⟨m - 1, by omega⟩
  exact ⟨_, by unfold fieldAddrB; simp only [hu, hf, hsp, hm], hk⟩

theorem fieldK_ok {t : TypeId} {x : Value} {f : Nat} {k : Value → Prop} (hk : fieldK P t x f k) : ∃ v, fieldB P t x f = some v ∧ k v := by
  obtain ⟨d, hu, hk⟩ := hk
  split at hk
  case h_2 => exact hk.elim
  split at hk
  case h_2 => exact hk.elim
  rename_i fd hf
  obtain ⟨v, h1, h2⟩ := partK_ok hk
  exact ⟨v, by unfold fieldB; simp only [hu, hf]; exact h1, h2⟩

theorem natIn_of {ki : IntKind} {z : Int} {m : Nat} (h : 0 ≤ z ∧ z ≤ (m : Int)) : natIn (.int ki z) m = some z.toNat := by
  obtain ⟨q, rfl⟩ := Int.eq_ofNat_of_zero_le h.1
  have : Nat.ble q m = true := ble_iff.2 (by have := h.2; omega)
  show (match Nat.ble q m with | true => some q | false => none) = _
  rw [this]; rfl

theorem boundK_ok {len cap : Nat} {lo hi : Option Value} {k : Nat → Nat → Prop} (hk : boundK len cap lo hi k) : ∃ l hh, boundsB len cap lo hi = some (l, hh) ∧ k l hh := by
  unfold boundK at hk
  split at hk
  · obtain ⟨h1, hk⟩ := hk
    split at hk
    · obtain ⟨h2, hk⟩ := hk
      refine ⟨_, _, ?_, hk⟩
      unfold boundsB
      simp only [natIn_of h1, lowB]
      rw [natIn_of (by obtain ⟨q, rfl⟩ := Int.eq_ofNat_of_zero_le h1.1; exact h2)]
      rfl
    · refine ⟨_, _, ?_, hk⟩
      unfold boundsB
      simp only [natIn_of h1, lowB]
    · exact hk.elim
  · split at hk
    · obtain ⟨h2, hk⟩ := hk
      refine ⟨_, _, ?_, hk⟩
      unfold boundsB
      simp only [lowB, natIn_of h2]
      rfl
    · exact ⟨_, _, rfl, hk⟩
    · exact hk.elim
  · exact hk.elim

theorem sliceK_ok {h : AH} {t : TypeId} {x : Value} {lo hi : Option Value} {k : Value → Prop} (hk : sliceK P h t x lo hi k) : ∃ v, sliceB P h t x lo hi = some v ∧ k v := by
  obtain ⟨d, hu, hk⟩ := hk
  split at hk
  · obtain ⟨l, hh, h1, h2⟩ := boundK_ok hk
    exact ⟨_, by unfold sliceB; simp only [hu, h1]; rfl, h2⟩
  · split at hk
    · rename_i hsp
      obtain ⟨size, hsz, cs, hg, hk⟩ := hk
      obtain ⟨l, hh, h1, h2⟩ := boundK_ok hk
      refine ⟨_, ?_, h2⟩
      unfold sliceB
      simp only [hu, hsz, h1, hg]
      rw [hsp]
      rfl
    · exact hk
  · exact hk

theorem convK_ok {h : AH} (hok : HOK h) {s d : TypeId} {v : Value} {k : VK} (hk : convK P h s d v k) : ∃ r ho, convB P h s d v = some (r, ho) ∧ HOK (ho.getD h) ∧ k r ho := by
  obtain ⟨ds, h1, dd, h2, hk⟩ := hk
  split at hk
  · exact ⟨_, none, by unfold convB; simp only [h1, h2], hok, hk _ rfl⟩
  · exact ⟨_, none, by unfold convB; simp only [h1, h2], hok, hk⟩
  · exact hk

theorem placesK_ok : ∀ {fs : List Field} {k : List (Nat × Nat) → Prop}, placesK P fs k → ∃ pl, placesOf P fs = some pl ∧ k pl
  | [], k, h => ⟨[], rfl, h⟩
  | f :: fs, k, h => by
    obtain ⟨s, hs, h⟩ := h
    obtain ⟨r, h1, h2⟩ := placesK_ok h
    exact ⟨_, by simp only [placesOf, hs, h1], h2⟩

theorem buildK_ok {t : TypeId} {ps : List (Nat × Value)} {k : Value → Prop} (hk : buildK P t ps k) : ∃ v, buildB P t ps = some v ∧ k v := by
  obtain ⟨z, hz, d, hu, hk⟩ := hk
  split at hk
  · obtain ⟨pl, hp, hk⟩ := placesK_ok hk
    obtain ⟨c, hc, hk⟩ := hk
    exact ⟨_, by unfold buildB; simp only [hz, hu, hp, hc]; rfl, hk⟩
  · obtain ⟨size, hs, c, hc, hk⟩ := hk
    exact ⟨_, by unfold buildB; simp only [hz, hu, hs, hc]; rfl, hk⟩
  · exact hk.elim

theorem ifaceK_ok {t : TypeId} {v : Value} {k : Value → Prop} (hk : ifaceK P t v k) : ∃ d, P.underlying t = some d ∧ (∀ m, d ≠ .interface m) ∧ k (.iface t v) := by
  obtain ⟨d, hu, hk⟩ := hk
  split at hk
  · exact hk.elim
  · rename_i hno; exact ⟨d, hu, hno, hk⟩

theorem lenK_ok {h : AH} {t : TypeId} {v : Value} {k : Value → Prop} (hk : lenK P t v k) : ∃ r, lenOpB P h t v = some r ∧ k r := by
  obtain ⟨d, hu, hk⟩ := hk
  split at hk
  · exact ⟨_, by unfold lenOpB; simp only [hu], hk⟩
  · exact ⟨_, by unfold lenOpB; simp only [hu], hk⟩
  · exact ⟨_, by unfold lenOpB; simp only [hu], hk⟩
  · exact ⟨_, by unfold lenOpB; simp only [hu], hk⟩
  · exact hk.elim

theorem nextK_ok {h : AH} (hok : HOK h) {v : Value} {b : Bool} {k : VK} (hk : nextK h v b k) : ∃ u ho, nextB h v b = some (u, ho) ∧ HOK (ho.getD h) ∧ k u ho := by
  unfold nextK at hk
  split at hk
  case h_2 => exact hk.elim
  rename_i i
  obtain ⟨s, pos, hg, hk⟩ := hk
  rcases brk_ok hk with ⟨hb, hm, hk⟩ | ⟨hb, hk⟩
  · have hu := hok.put (HOK.lt hm hg) (some (.iter s (pos + (Utf8.decode s pos).2)))
    refine ⟨_, some _, ?_, hu.ok, hk _ hu⟩
    unfold nextB
    simp only [hg, hb, hm]
    rfl
  · refine ⟨_, none, ?_, hok, hk⟩
    unfold nextB
    simp only [hg, hb]

theorem buildSliceK_ok {h : AH} (hok : HOK h) {t : TypeId} {len : Nat} {ps : List (Nat × Value)} {k : VK} (hk : buildSliceK P h t len ps k) : ∃ v ho, buildSliceB P h t len ps = some (v, ho) ∧ HOK (ho.getD h) ∧ k v ho := by
  obtain ⟨d, hu, hk⟩ := hk
  split at hk
  case h_2 => exact hk.elim
  obtain ⟨size, hs, z, hz, h1, h2, c, hc, hk⟩ := hk
  obtain ⟨v, ho, h3, h4⟩ := newK_ok hok hk
  refine ⟨v, ho, ?_, h4⟩
  unfold buildSliceB
  simp only [hu, hs, hz, beq_iff.2 h1, ble_iff.2 h2, hc]
  exact h3

theorem rangeK_ok {h : AH} (hok : HOK h) {t : TypeId} {x : Value} {k : VK} (hk : rangeK P h t x k) : ∃ v ho, rangeB P h t x = some (v, ho) ∧ HOK (ho.getD h) ∧ k v ho := by
  obtain ⟨d, hu, hk⟩ := hk
  split at hk
  case h_2 => exact hk.elim
  obtain ⟨v, ho, h3, h4⟩ := newK_ok hok hk
  refine ⟨v, ho, ?_, h4⟩
  unfold rangeB
  simp only [hu]
  exact h3

theorem callK_ok {h : AH} (hok : HOK h) {o : Oper} {c : Call} (hop : o.op = .call c) {env : Ev} {k : VK} (hk : callK P G ext orc n c env h k) : ∃ v ho, opB P G ext orc n o env h = some (v, ho) ∧ HOK (ho.getD h) ∧ k v ho := by
  obtain ⟨args, ha, hk⟩ := optK_ok hk
  unfold opB
  rw [hop]
  obtain ⟨callee, ar, ts⟩ := c
  simp only at ha hk
  split at hk
  · split at hk
    · split at hk
      case h_2 => exact hk.elim
      rename_i t ts0 ht0
      have ht : ts[0]? = some t := by rw [← Array.getElem?_toList, ht0]; rfl
      obtain ⟨r, h1, h2⟩ := lenK_ok (h := h) hk
      refine ⟨r, none, ?_, hok, h2⟩
      simp only [opA, aCall, aBuiltin, ha, builtinB, ht, h1]
      rfl
    · obtain ⟨v, ho, h1, h2⟩ := hk
      exact ⟨v, ho, by simp only [opA, aCall, aBuiltin, ha]; exact h1, h2⟩
  · obtain ⟨fv, hf, v, ho, h1, h2⟩ := evK_ok hk
    exact ⟨v, ho, by simp only [opA, aCall, aCallee, ha, hf]; exact h1, h2⟩
  · exact hk.elim

theorem oE_ok {env : Ev} {x : Option Operand} {k : Option Value → Prop} (h : oE G n env x k) : (x = none ∧ k none) ∨ ∃ l u, x = some l ∧ ev G n env l = some u ∧ k (some u) := by
  unfold oE at h
  split at h
  · exact .inl ⟨rfl, h⟩
  · obtain ⟨v, hv, h⟩ := evK_ok h
    exact .inr ⟨_, v, rfl, hv, h⟩

theorem anyK_ok {o : Oper} {env : Ev} {h : AH} (hok : HOK h) {k : VK} (hk : anyK P G ext orc n o env h k) : ∃ v ho, opB P G ext orc n o env h = some (v, ho) ∧ HOK (ho.getD h) ∧ k v ho := by
  unfold anyK at hk
  split at hk
  · rename_i v hv; exact ⟨v, none, hv, hok, hk⟩
  · rename_i v h' hv; exact ⟨v, some h', hv, hk.1, hk.2⟩
  · exact hk.elim

theorem opK_ok {o : Oper} {env : Ev} {h : AH} (hok : HOK h) {k : VK} (hk : opK P G ext orc n o env h k) : ∃ v ho, opB P G ext orc n o env h = some (v, ho) ∧ HOK (ho.getD h) ∧ k v ho := by
  unfold opK at hk
  split at hk
  · rename_i c x y hop
    obtain ⟨v, hv, hk⟩ := evK_ok hk
    split at hk
    case h_2 => exact hk.elim
    rename_i t
    rcases brk_ok hk with ⟨rfl, hk⟩ | ⟨rfl, hk⟩
    · obtain ⟨u, hu, hk⟩ := evK_ok hk
      exact ⟨u, none, by unfold opB; rw [hop]; simp only [opA, aPick, hv, hu]; rfl, hok, hk⟩
    · obtain ⟨u, hu, hk⟩ := evK_ok hk
      exact ⟨u, none, by unfold opB; rw [hop]; simp only [opA, aPick, hv, hu]; rfl, hok, hk⟩
  · rename_i t hop
    obtain ⟨z, hz, hk⟩ := hk
    obtain ⟨v, ho, h1, h2⟩ := newK_ok hok hk
    exact ⟨v, ho, by unfold opB; rw [hop]; simp only [opA, aAlloc, hz]; exact h1, h2⟩
  · rename_i t x hop
    obtain ⟨u, hu, hk⟩ := evK_ok hk
    obtain ⟨v, ho, h1, h2⟩ := newK_ok hok hk
    exact ⟨v, ho, by unfold opB; rw [hop]; simp only [opA, aBox, hu]; exact h1, h2⟩
  · rename_i t ps hop
    obtain ⟨vs, hvs, hk⟩ := optK_ok hk
    obtain ⟨v, h1, h2⟩ := buildK_ok hk
    exact ⟨v, none, by unfold opB; rw [hop]; simp only [opA, aBuild, hvs, h1]; rfl, hok, h2⟩
  · rename_i t len ps hop
    obtain ⟨vs, hvs, hk⟩ := optK_ok hk
    obtain ⟨v, ho, h1, h2⟩ := buildSliceK_ok hok hk
    exact ⟨v, ho, by unfold opB; rw [hop]; simp only [opA, aBuildSlice, hvs]; exact h1, h2⟩
  · rename_i t x hop
    obtain ⟨u, hu, hk⟩ := evK_ok hk
    obtain ⟨v, h1, h2⟩ := loadK_ok hk
    exact ⟨v, none, by unfold opB; rw [hop]; simp only [opA, aLoad, hu, h1]; rfl, hok, h2⟩
  · rename_i op t x y yt hop
    obtain ⟨u, hu, hk⟩ := evK_ok hk
    obtain ⟨u2, hu2, hk⟩ := evK_ok hk
    obtain ⟨v, h1, h2⟩ := binK_ok hk
    exact ⟨v, none, by unfold opB; rw [hop]; simp only [opA, aBinOp, hu, hu2, h1]; rfl, hok, h2⟩
  · rename_i s d x hop
    obtain ⟨u, hu, hk⟩ := evK_ok hk
    obtain ⟨v, ho, h1, h2⟩ := convK_ok hok hk
    exact ⟨v, ho, by unfold opB; rw [hop]; simp only [opA, aConvert, hu]; exact h1, h2⟩
  · rename_i t x hop
    obtain ⟨u, hu, hk⟩ := evK_ok hk
    obtain ⟨d, hd, hno, hk⟩ := ifaceK_ok hk
    refine ⟨_, none, ?_, hok, hk⟩
    unfold opB
    rw [hop]
    simp only [opA, aIface, hu, hd]
    try (cases d <;> first | rfl | exact absurd rfl (hno _))
  · rename_i t x lo hi hop
    obtain ⟨u, hu, hk⟩ := evK_ok hk
    rcases oE_ok hk with ⟨rfl, hk1⟩ | ⟨l, ul, rfl, hl, hk1⟩ <;> rcases oE_ok hk1 with ⟨rfl, hk2⟩ | ⟨r, ur, rfl, hr, hk2⟩
    · obtain ⟨v, h1, h2⟩ := sliceK_ok hk2
      exact ⟨v, none, by unfold opB; rw [hop]; simp only [opA, aSlice, hu, h1]; rfl, hok, h2⟩
    · obtain ⟨v, h1, h2⟩ := sliceK_ok hk2
      exact ⟨v, none, by unfold opB; rw [hop]; simp only [opA, aSlice, hu, hr, Option.map_some, h1]; rfl, hok, h2⟩
    · obtain ⟨v, h1, h2⟩ := sliceK_ok hk2
      exact ⟨v, none, by unfold opB; rw [hop]; simp only [opA, aSlice, hu, hl, Option.map_some, h1]; rfl, hok, h2⟩
    · obtain ⟨v, h1, h2⟩ := sliceK_ok hk2
      exact ⟨v, none, by unfold opB; rw [hop]; simp only [opA, aSlice, hu, hl, hr, Option.map_some, h1]; rfl, hok, h2⟩
  · rename_i s x f hop
    obtain ⟨u, hu, hk⟩ := evK_ok hk
    obtain ⟨v, h1, h2⟩ := fieldAddrK_ok hk
    exact ⟨v, none, by unfold opB; rw [hop]; simp only [opA, aFieldAddr, hu, h1]; rfl, hok, h2⟩
  · rename_i s x f hop
    obtain ⟨u, hu, hk⟩ := evK_ok hk
    obtain ⟨v, h1, h2⟩ := fieldK_ok hk
    exact ⟨v, none, by unfold opB; rw [hop]; simp only [opA, aField, hu, h1]; rfl, hok, h2⟩
  · rename_i t x i hop
    obtain ⟨u, hu, hk⟩ := evK_ok hk
    obtain ⟨u2, hu2, hk⟩ := evK_ok hk
    obtain ⟨v, h1, h2⟩ := indexK_ok hk
    exact ⟨v, none, by unfold opB; rw [hop]; simp only [opA, aIndex, hu, hu2, h1]; rfl, hok, h2⟩
  · rename_i t x i hop
    obtain ⟨u, hu, hk⟩ := evK_ok hk
    obtain ⟨u2, hu2, hk⟩ := evK_ok hk
    obtain ⟨v, h1, h2⟩ := indexAddrK_ok hk
    exact ⟨v, none, by unfold opB; rw [hop]; simp only [opA, aIndexAddr, hu, hu2, h1]; rfl, hok, h2⟩
  · rename_i t x hop
    obtain ⟨u, hu, hk⟩ := evK_ok hk
    obtain ⟨v, ho, h1, h2⟩ := rangeK_ok hok hk
    exact ⟨v, ho, by unfold opB; rw [hop]; simp only [opA, aRange, hu]; exact h1, h2⟩
  · rename_i x b hop
    obtain ⟨u, hu, hk⟩ := evK_ok hk
    obtain ⟨v, ho, h1, h2⟩ := nextK_ok hok hk
    exact ⟨v, ho, by unfold opB; rw [hop]; simp only [opA, aNext, hu]; exact h1, h2⟩
  · rename_i t hop
    obtain ⟨v, ho, h1, h2⟩ := newK_ok hok hk
    refine ⟨v, ho, ?_, h2⟩
    unfold opB
    rw [hop]
    simp only [opA, aMakeMap]
    unfold newB at h1
    unfold makeMapB
    cases hn : h.new (.map #[] 0) with
    | none => rw [hn] at h1; cases h1
    | some q => rw [hn] at h1; exact h1
  · rename_i t l c hop
    obtain ⟨u, hu, hk⟩ := evK_ok hk
    obtain ⟨v, hv, hk⟩ := evK_ok hk
    obtain ⟨r, ho, h1, h2⟩ := hk
    exact ⟨r, ho, by unfold opB; rw [hop]; simp only [opA, aMakeSlice, hu, hv]; exact h1, h2⟩
  · rename_i c hop
    exact callK_ok hok hop hk
  · exact anyK_ok hok hk

theorem wantK_ok {ops : Array Oper} {o : Oper} {env : Ev} {A B : Prop} (h : wantK n ops o env A B) : (wantedB n ops o env = some true ∧ A) ∨ (wantedB n ops o env = some false ∧ B) := by
  unfold wantK at h
  unfold wantedB
  split at h
  · rename_i hg; rw [hg]; exact .inl ⟨rfl, h⟩
  · rename_i j want hg
    rw [hg]
    simp only
    split at h
    · rename_i d hd
      rw [hd]
      simp only
      split at h
      · rename_i hb
        rw [hb]
        simp only
        split at h
        · rename_i b he
          rw [he]
          rcases brk_ok h with ⟨h1, h2⟩ | ⟨h1, h2⟩
          · exact .inl ⟨by simp only [h1], h2⟩
          · exact .inr ⟨by simp only [h1], h2⟩
        · rename_i v hno he
          rw [he]
          cases v <;> first | exact .inr ⟨rfl, h⟩ | exact absurd rfl (hno _)
        · exact h.elim
      · rename_i hb; rw [hb]; exact .inr ⟨rfl, h⟩
    · rename_i hd; rw [hd]; exact .inr ⟨rfl, h⟩

theorem putK_ok {dst : Option Tmp} {v : Value} {env : Ev} {k : Ev → Prop} (h : putK n dst v env k) : ∃ env', putE n dst v env = some env' ∧ k env' := by
  unfold putK at h
  unfold putE
  split at h
  · exact ⟨env, rfl, h⟩
  · rename_i d
    split at h
    · rename_i hb
      rw [T.setK_eq] at h
      simp only [hb]
      exact ⟨_, rfl, h⟩
    · exact h.elim

theorem opsK_ok {ops : Array Oper} : ∀ (os : List Oper) {env : Ev} {h : AH} (_ : HOK h) {k : Ev → AH → Prop}, opsK P G ext orc n ops os env h k → ∃ env' h', opsB P G ext orc n ops os env h = some (env', h') ∧ HOK h' ∧ k env' h'
  | [], env, h, hok, k, hk => ⟨env, h, rfl, hok, hk⟩
  | o :: os, env, h, hok, k, hk => by
    have hk : stepOpK P G ext orc n o (opsKA P G ext orc n os) ops env h k := hk
    unfold stepOpK at hk
    rw [opsB_cons]
    rcases wantK_ok hk with ⟨hw, hk⟩ | ⟨hw, hk⟩
    · rw [hw]
      simp only
      split at hk
      · rename_i t x y hop
        obtain ⟨a, ha, hk⟩ := evK_ok hk
        obtain ⟨v, hv, hk⟩ := evK_ok hk
        obtain ⟨ho, h1, h2, h3⟩ := storeK_ok hok hk
        obtain ⟨env', h4, h5⟩ := putK_ok h3
        have hopB : opB P G ext orc n o env h = some (undef, ho) := by
          unfold opB
          rw [hop]
          simp only [opA, aStore, ha, hv]
          exact h1
        rw [hopB]
        simp only
        rw [h4]
        exact opsK_ok os h2 h5
      · obtain ⟨v, ho, h1, h2, h3⟩ := opK_ok hok hk
        obtain ⟨env', h4, h5⟩ := putK_ok h3
        rw [h1]
        simp only
        rw [h4]
        cases ho <;> exact opsK_ok os h2 h5
    · rw [hw]
      simp only
      obtain ⟨env', h4, h5⟩ := putK_ok hk
      rw [h4]
      exact opsK_ok os hok h5

theorem HOK.bare {h : AH} (x : HOK h) : HOK h.bare := ⟨T.fits_leaf _ _, x.nxt⟩
theorem HOK.locked {h : AH} (x : HOK h) : HOK h.locked := ⟨x.fits, x.nxt⟩
theorem HOK.relock {h : AH} (x : HOK h) (k : Nat) : HOK { h with lock := k } := ⟨x.fits, x.nxt⟩

theorem memOp_free {o : Oper} (h : memOp o = true) : freeOp o.op = false := by
  unfold memOp at h
  split at h
  · rename_i hop; rw [hop]; rfl
  · rename_i hop; rw [hop]; rfl
  · rename_i hop; rw [hop]; rfl
  · rename_i hop; rw [hop]; rfl
  · rename_i hop; rw [hop]; rfl
  · rename_i hop; rw [hop]; rfl
  · rename_i c hop
    rw [hop]
    obtain ⟨callee, ar, ts⟩ := c
    cases callee with
    | value f => rfl
    | invoke r m => cases h
    | builtin b => cases h
  · cases h

theorem bareOp_free {o : Oper} {env : Ev} (h : bareOp G n env o = true) : freeOp o.op = true := by
  unfold bareOp at h
  split at h
  · rename_i hop; rw [hop]; rfl
  · cases h
  · exact h

theorem sameK_ok {h : AH} {t : TypeId} {v a : Value} {k : Prop} (hk : sameK P h t v a k) : storeSame P h.locked t v a = true ∧ k := by
  unfold sameK at hk
  split at hk
  case h_2 => exact hk.elim
  split at hk
  case h_2 => exact hk.elim
  rename_i a _ hs
  obtain ⟨c, g, hg, hm, hsz, hle, hone, hsame, hk⟩ := hk
  refine ⟨?_, hk⟩
  have hg' : h.locked.get a.block = some (.cells c g) := hg
  have ho0 : h.own a.block = true := AH.may_imp hm
  have ho' : h.locked.own a.block = true := ho0
  unfold storeSame
  simp only [hs, hg', ho', hsz, beq_iff.2 rfl, ble_iff.2 hle, hone]
  exact hsame

theorem storeNewK_ok {h : AH} {t : TypeId} {v a : Value} {k : AH → Prop} (hk : storeNewK P h t v a k) : ∃ (ad : Addr) (c : Array Value) (g : Gw), a = .pointer (some ad) ∧ ad.spot = none ∧ h.get ad.block = some (.cells c g) ∧ h.may ad.block = true ∧ szOf P t = some v.cells.size ∧ ad.off + v.cells.size ≤ c.size ∧ List.all v.cells.toList oneB = true ∧
    sameL v.cells.toList ((c.toList.drop ad.off).take v.cells.size) = false ∧ ∀ h', Upd h h' ad.block (some (.cells (putL c ad.off v.cells.toList) g)) → k h' := by
  unfold storeNewK at hk
  split at hk
  case h_2 => exact hk.elim
  split at hk
  case h_2 => exact hk.elim
  rename_i a _ hs
  obtain ⟨c, g, hg, hm, hsz, hle, hone, hsame, hk⟩ := hk
  exact ⟨a, c, g, rfl, hs, hg, hm, hsz, hle, hone, hsame, hk⟩

theorem stepK_ok {ops : Array Oper} {m i kk : Nat} {o : Oper} {x : Way} {k : Way → Prop} (hok : ∀ h ∈ x.hs, HOK h) (hk : stepK P G ext orc n ops m i kk o x k) : ∃ y, stepF P G ext none orc n ops m i kk o x = some y ∧ (∀ h ∈ y.hs, HOK h) ∧ k y := by
  unfold stepK at hk
  split at hk
  case h_2 => exact hk.elim
  rename_i h hc hh
  have hokh : HOK h := hok h (List.mem_of_getElem? hh)
  unfold stepF
  rw [hc, hh]
  simp only
  rcases wantK_ok hk with ⟨hw, hk⟩ | ⟨hw, hk⟩
  · rw [hw]
    simp only [sideF, loadF]
    split at hk
    · rename_i t y z hop
      obtain ⟨hwr, hk⟩ := hk
      obtain ⟨a, ha, hk⟩ := evK_ok hk
      obtain ⟨v, hv, hk⟩ := evK_ok hk
      have hf : freeF P G ext orc n o x.env h = none := by
        unfold freeF
        rw [hop]
        rfl
      rw [hf]
      simp only
      rw [hwr]
      simp only
      rcases hk with hk | hk
      case inr =>
        have hall : (Nat.beq (kk + 1) x.hs.length && nfF m x.nf) = true ∧ (∀ b : Addr, a = .pointer (some b) → b.block < h.next → ∀ q ∈ x.hs, b.block < q.next) ∧ storeNewK P h t v a fun h' => k ⟨putF o.dst undef x.env, x.es ++ [(i, 1)], x.nf ++ [(i, kk)], x.hs ++ [h'], x.sd, x.al⟩ := by
          unfold storeDrawK at hk
          split at hk
          · rename_i h0 hhs
            have hkk : kk = 0 ∧ h = h0 := by
              rw [hhs] at hh
              cases kk with
              | zero => simp at hh; exact ⟨rfl, hh.symm⟩
              | succ q => simp at hh
            obtain ⟨rfl, rfl⟩ := hkk
            refine ⟨by rw [hhs, hk.1]; rfl, fun b _ hlt q hq => ?_, hk.2⟩
            rw [hhs] at hq
            simp at hq
            rw [hq]; exact hlt
          · refine ⟨hk.1, fun b hb _ => ?_, hk.2.2⟩
            subst hb
            exact hk.2.1
        obtain ⟨hlen, hel, hk⟩ := hall
        obtain ⟨a, c, g, rfl, hs, hg, hm, hsz, hle, hone, hsame, hk⟩ := storeNewK_ok hk
        have hlt : a.block < h.next := HOK.lt hm hg
        have hg' : h.locked.get a.block = some (.cells c g) := hg
        have ho0 : h.own a.block = true := AH.may_imp hm
        have ho' : h.locked.own a.block = true := ho0
        have hss : storeSame P h.locked t v (.pointer (some a)) = false := by
          unfold storeSame
          simp only [hs, hg', ho', hsz, beq_iff.2 rfl, ble_iff.2 hle, hone]
          exact hsame
        have hss2 : storeSame P h t v (.pointer (some a)) = false := by
          unfold storeSame
          simp only [hs, hg, ho0, hsz, beq_iff.2 rfl, ble_iff.2 hle, hone]
          exact hsame
        have hml : h.locked.may a.block = false := by
          unfold AH.may AH.locked
          simp only
          rw [Bool.and_eq_false_iff]
          refine .inl ?_
          cases hb : Nat.ble h.next a.block with
          | false => rfl
          | true => have := ble_iff.1 hb; omega
        have hop2 : opB P G ext orc n o x.env h.locked = none := by
          unfold opB
          rw [hop]
          simp only [opA, aStore, ha, hv, hss]
          unfold storeB
          simp only [hs, hml]
        have hu := hok h (List.mem_of_getElem? hh)
        have hu := hu.put hlt (some (.cells (putL c a.off v.cells.toList) g))
        have hop3 : opB P G ext orc n o x.env h = some (undef, some (h.put a.block (some (.cells (putL c a.off v.cells.toList) g)))) := by
          unfold opB
          rw [hop]
          simp only [opA, aStore, ha, hv, hss2]
          unfold storeB
          simp only [hs, hg, hm, hsz, beq_iff.2 rfl, ble_iff.2 hle, hone]
        have hfr : freshQ G n o x.env x.hs = none := by
          unfold freshQ
          rw [hop]
          simp only [ha]
          exact elder_no _ _ (hel a rfl hlt)
        unfold growF
        rw [hop2]
        simp only
        unfold writeF
        rw [hfr]
        simp only
        rw [hlen]
        simp only
        rw [hop3]
        refine ⟨_, rfl, ?_, hk _ hu⟩
        intro q hq
        rcases List.mem_append.1 hq with hq | hq
        · exact hok q hq
        · simp at hq
          subst hq
          exact hu.ok
      obtain ⟨hss, hk⟩ := sameK_ok hk
      have hop2 : opB P G ext orc n o x.env h.locked = some (undef, none) := by
        unfold opB
        rw [hop]
        simp only [opA, aStore, ha, hv, hss]
      unfold growF
      rw [hop2]
      exact ⟨_, rfl, hok, hk⟩
    split at hk
    · rename_i hb
      obtain ⟨v, ho, h1, _, h3⟩ := opK_ok hokh.bare hk
      cases ho with
      | some h' => exact h3.elim
      | none =>
        have hf : freeF P G ext orc n o x.env h = some (v, none) := by
          unfold freeF
          rw [bareOp_free hb]
          exact h1
        rw [hf]
        exact ⟨_, rfl, hok, h3⟩
    · rename_i hb hm
      have hf : freeF P G ext orc n o x.env h = none := by
        unfold freeF
        rw [memOp_free hm]
      rw [hf]
      simp only
      rw [hk.1]
      simp only
      obtain ⟨v, ho, h1, h2, h3⟩ := opK_ok hokh.locked hk.2
      unfold growF
      rw [h1]
      cases ho with
      | none => exact ⟨_, rfl, hok, h3⟩
      | some h' =>
        simp only at h3 ⊢
        rw [h3.1]
        refine ⟨_, rfl, ?_, h3.2⟩
        intro q hq
        rcases List.mem_append.1 hq with hq | hq
        · exact hok q hq
        · simp at hq
          subst hq
          exact HOK.relock (h := h') h2 _
    · obtain ⟨hwr, hf, hk⟩ := hk
      rw [hf]
      simp only
      rw [hwr]
      simp only
      unfold growF
      rcases hk with ⟨v, h1, hk⟩ | ⟨hb, v, h', h1, h2, hk⟩ | ⟨hfr, hb, h1, v, h', h2, h3, hk⟩
      · rw [h1]
        exact ⟨_, rfl, hok, hk⟩
      · rw [h1]
        simp only
        rw [hb]
        refine ⟨_, rfl, ?_, hk⟩
        intro q hq
        rcases List.mem_append.1 hq with hq | hq
        · exact hok q hq
        · simp at hq
          subst hq
          exact HOK.relock (h := h') h2 _
      · rw [h1]
        simp only
        unfold writeF
        rw [hfr]
        simp only
        rw [hb]
        simp only
        rw [h2]
        refine ⟨_, rfl, ?_, hk⟩
        intro q hq
        rcases List.mem_append.1 hq with hq | hq
        · exact hok q hq
        · simp at hq
          subst hq
          exact h3
  · rw [hw]
    exact ⟨_, rfl, hok, hk⟩

theorem goK_ok {ops : Array Oper} : ∀ (os : List Oper) (ms : List Nat) (i : Nat) (x : Way) {k : Way → Prop}, (∀ h ∈ x.hs, HOK h) → goK P G ext orc n ops os ms i x k → ∃ y, goF P G ext none orc n ops os ms i x = some y ∧ (∀ h ∈ y.hs, HOK h) ∧ k y
  | [], ms, i, x, k, hok, hk => ⟨x, by simp only [goF], hok, hk⟩
  | o :: os, [], _, _, k, _, hk => by
    exact False.elim hk
  | o :: os, m :: ms, i, x, k, hok, hk => by
    have hk : stepK P G ext orc n ops m i (cntF m x.es) o x fun y => goK P G ext orc n ops os ms (i + 1) y k := hk
    obtain ⟨y, h1, h2, h3⟩ := stepK_ok hok hk
    simp only [goF, h1]
    exact goK_ok os ms (i + 1) y h2 h3

theorem drawK_ok {ops : Array Oper} {env : Ev} {h : AH} (hok : HOK h) {k : Ev → AH → Prop} (hk : drawK P G ext orc n ops env h k) : ∃ env' h', drawF P G ext orc n ops env h = some (env', h') ∧ HOK h' ∧ k env' h' := by
  obtain ⟨ms, hms, hst, hk⟩ := hk
  obtain ⟨y, h1, h2, hal, hk⟩ := goK_ok _ _ _ _ (by intro q hq; simp at hq; subst hq; exact hok) hk
  obtain ⟨h', hl, hk⟩ := optK_ok hk
  refine ⟨y.env, h', ?_, h2 h' (List.mem_of_getLast? hl), hk⟩
  unfold drawF drawS
  simp only [hms, skipF, hst, h1, hl, hal, alF, endF]

theorem codeK_ok : ∀ (c : Code) {env : Ev} {h : AH} (_ : HOK h) {k : CK}, codeK P G ext orc n fuel c env h k → ∃ out env' h', codeB P G ext orc n fuel c env h = some (out, env', h') ∧ HOK h' ∧ k out env' h' := by
  intro c
  induction c with
  | skip => intro env h hok k hk; exact ⟨_, _, _, rfl, hok, hk⟩
  | region id ops draw =>
    intro env h hok k hk
    cases draw with
    | false =>
      obtain ⟨env', h', h1, h2, h3⟩ := opsK_ok ops.toList hok hk
      exact ⟨_, env', h', by rw [codeB_ops, h1], h2, h3⟩
    | true =>
      obtain ⟨env', h', h1, h2, h3⟩ := drawK_ok hok hk
      exact ⟨_, env', h', by rw [codeB_draw, h1], h2, h3⟩
  | seq x y ihx ihy =>
    intro env h hok k hk
    have hk : codeK P G ext orc n fuel x env h fun out env' h' => match out with | .normal => codeK P G ext orc n fuel y env' h' k | out => k out env' h' := hk
    obtain ⟨out, env1, h1, hb, hok1, hk⟩ := ihx hok hk
    rw [codeB_seq, hb]
    cases out with
    | normal => exact ihy hok1 hk
    | exit id => exact ⟨_, _, _, rfl, hok1, hk⟩
    | ret => exact ⟨_, _, _, rfl, hok1, hk⟩
  | cond c x y ihx ihy =>
    intro env h hok k hk
    have hk : evK G n env c fun v => match v with | .bool t => brk t (codeK P G ext orc n fuel x env h k) (codeK P G ext orc n fuel y env h k) | _ => False := hk
    obtain ⟨v, hv, hk⟩ := evK_ok hk
    rw [codeB_cond, hv]
    split at hk
    case h_2 => exact hk.elim
    rename_i t
    rcases brk_ok hk with ⟨rfl, hk⟩ | ⟨rfl, hk⟩
    · exact ihx hok hk
    · exact ihy hok hk
  | block id c ih =>
    intro env h hok k hk
    have hk : codeK P G ext orc n fuel c env h fun out env' h' => match out with | .exit j => (match Nat.beq j id with | true => k .normal env' h' | false => k (.exit j) env' h') | out => k out env' h' := hk
    obtain ⟨out, env1, h1, hb, hok1, hk⟩ := ih hok hk
    rw [codeB_block, hb]
    cases out with
    | normal => exact ⟨_, _, _, rfl, hok1, hk⟩
    | ret => exact ⟨_, _, _, rfl, hok1, hk⟩
    | exit j =>
      simp only at hk ⊢
      split at hk
      · rename_i hj; rw [hj]; exact ⟨_, _, _, rfl, hok1, hk⟩
      · rename_i hj; rw [hj]; exact ⟨_, _, _, rfl, hok1, hk⟩
  | loop c ih =>
    intro env h hok k hk
    have hk : loopK fuel (codeK P G ext orc n fuel c) env h k ∨ ∃ r, r < fuel ∧ rollK (codeK P G ext orc n fuel c) r env h k := hk
    rw [codeB_loop]
    rcases hk with ⟨I, m0, hm0, hI, hstep⟩ | ⟨r, hr, hk⟩
    case inr =>
      have go : ∀ r f env h, HOK h → r < f → rollK (codeK P G ext orc n fuel c) r env h k → ∃ out env' h', iterB (codeB P G ext orc n fuel c) f env h = some (out, env', h') ∧ HOK h' ∧ k out env' h' := by
        intro r
        induction r with
        | zero => intro f env h _ _ hk; exact hk.elim
        | succ r ihr =>
          intro f env h hok hf hk
          cases f with
          | zero => omega
          | succ f =>
            have hk : codeK P G ext orc n fuel c env h fun out env' h' => match out with | .normal => rollK (codeK P G ext orc n fuel c) r env' h' k | out => k out env' h' := hk
            obtain ⟨out, env1, h1, hb, hok1, hk⟩ := ih hok hk
            rw [iterB_succ, hb]
            cases out with
            | normal => exact ihr f env1 h1 hok1 (by omega) hk
            | exit id => exact ⟨_, _, _, rfl, hok1, hk⟩
            | ret => exact ⟨_, _, _, rfl, hok1, hk⟩
      exact go r fuel env h hok hr hk
    have go : ∀ m f env h, HOK h → I m env h → m < f → ∃ out env' h', iterB (codeB P G ext orc n fuel c) f env h = some (out, env', h') ∧ HOK h' ∧ k out env' h' := by
      intro m
      induction m using Nat.strongRecOn with
      | ind m ihm =>
        intro f env h hok hI hf
        cases f with
        | zero => omega
        | succ f =>
          obtain ⟨out, env1, h1, hb, hok1, hk⟩ := ih hok (hstep m env h hok hI)
          rw [iterB_succ, hb]
          cases out with
          | normal =>
            obtain ⟨m', hlt, hI'⟩ := hk
            exact ihm m' hlt f env1 h1 hok1 hI' (by omega)
          | exit id => exact ⟨_, _, _, rfl, hok1, hk⟩
          | ret => exact ⟨_, _, _, rfl, hok1, hk⟩
    exact go m0 fuel env h hok hI hm0
  | rangeFunc f ps x y =>
    intro env h hok k hk
    obtain ⟨hx, hy, hl, hk⟩ := hk
    obtain ⟨fv, hfv, hlt, hk⟩ := evK_ok hk
    obtain ⟨h1, e1, e2⟩ := hok.new hlt (.loop env n ps x y .ready none)
    obtain ⟨Q, ⟨v, h2, hs, hok2, hQ⟩, hk⟩ := hk h1 e2
    obtain ⟨env0, n0, ps0, x0, y0, st, pend, hg, hst, hlt2, hk⟩ := hk h2 hok2 hQ
    obtain ⟨out, hout, hk⟩ := optK_ok hk
    have hu := hok2.put hlt2 none
    refine ⟨out, env, h2.put h.next none, ?_, hu.ok, hk _ hu⟩
    rw [codeB_func]
    unfold cFunc
    cases st
    all_goals first | (cases hst; done) | (simp only [hx, hy, ble_iff.2 hl, hfv, e1, hs, Option.getD_some, hg, hout])
  | exit id => intro env h hok k hk; exact ⟨_, _, _, rfl, hok, hk⟩
  | scope c ih => intro env h hok k hk; rw [codeB_scope]; exact ih hok hk
  | label l => intro env h hok k hk; exact ⟨_, _, _, rfl, hok, hk⟩
  | goto l => intro env h hok k hk; exact False.elim hk
  | ret => intro env h hok k hk; exact ⟨_, _, _, rfl, hok, hk⟩
  | refuse why => intro env h hok k hk; exact False.elim hk

end
end
end Go.Proofs.YtibffohcmegooaaGreatDoor.V
