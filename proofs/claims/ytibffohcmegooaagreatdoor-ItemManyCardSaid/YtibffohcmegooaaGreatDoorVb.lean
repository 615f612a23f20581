/- A small deterministic machine over abstract memory: its operations, its codes and its calls, as plain functions. Conditions: none. -/
import Derived.Test.YtibffohcmegooaaGreatDoorVa
namespace Go.Proofs.YtibffohcmegooaaGreatDoor.V
set_option linter.all false
open Go

abbrev R := Option (Value × Option AH)
noncomputable section

section
variable (P : Program) (G : Nat)

def ev (n : Nat) (env : T (Option Value)) : Operand → Option Value
  | .tmp t => match Nat.blt t n with | true => env.get t | false => none
  | .const v => match pureV v with | true => some v | false => none
  | .global g => match Nat.blt g G with | true => some (.pointer (some ⟨g, 0, none⟩)) | false => none
  | .func f => some (.func (.func f) #[] #[])

/-- The values of several operands. -/
def evsA (e : Operand → Option Value) (l : List Operand) : Option (List Value) :=
  List.rec (motive := fun _ => Option (List Value)) (some []) (fun x _ ih => match e x with
    | some v => match ih with
      | some vs => some (v :: vs)
      | none => none
    | none => none) l
theorem evsA_nil (e : Operand → Option Value) : evsA e [] = some [] := rfl
theorem evsA_cons (e : Operand → Option Value) (x : Operand) (xs : List Operand) : evsA e (x :: xs) = (match e x with
    | some v => match evsA e xs with
      | some vs => some (v :: vs)
      | none => none
    | none => none) := rfl
abbrev evs (n : Nat) (env : T (Option Value)) (l : List Operand) : Option (List Value) := evsA (ev G n env) l

def isAggB (t : TypeId) : Option Bool := match P.underlying t with
  | some (.struct _) => some true
  | some (.array _ _) => some true
  | some _ => some false
  | none => none

def szOf (t : TypeId) : Option Nat := (P.info? t).map (·.size)

/-- A part of cells, as a value of a type. -/
def partB (t : TypeId) (c : Array Value) (o : Nat) : Option Value :=
  match isAggB P t, szOf P t with
  | some true, some n => match Nat.ble (o + n) c.size with | true => some (.agg ⟨(c.toList.drop o).take n⟩) | false => none
  | some false, some _ => c.toList[o]?
  | _, _ => none

def loadB (h : AH) (t : TypeId) : Value → Option Value
  | .pointer (some a) => match a.spot, h.get a.block with
    | none, some (.cells c _) => partB P t c a.off
    | _, _ => none
  | _ => none

def oneB : Value → Bool
  | .agg _ | .tuple _ => false
  | _ => true

def putL (c : Array Value) (o : Nat) : List Value → Array Value
  | [] => c
  | v :: vs => putL (c.setIfInBounds o v) (o + 1) vs

def bytesEq : List UInt8 → List UInt8 → Bool
  | [], [] => true
  | a :: x, b :: y => match Nat.beq a.toNat b.toNat with | true => bytesEq x y | false => false
  | _, _ => false

/-! Values without addresses that are the same. -/
mutual
def sameV : Value → Value → Bool
  | .bool a, v => match v with | .bool b => a == b | _ => false
  | .int j a, v => match v with | .int k b => (match decide (j = k) with | true => a == b | false => false) | _ => false
  | .float j a, v => match v with | .float k b => (match decide (j = k) with | true => Nat.beq a b | false => false) | _ => false
  | .string a, v => match v with | .string b => bytesEq a.data.toList b.data.toList | _ => false
  | .nilIface, v => match v with | .nilIface => true | _ => false
  | .pointer none, v => match v with | .pointer none => true | _ => false
  | .agg ⟨x⟩, v => match v with | .agg ⟨y⟩ => sameL x y | _ => false
  | .tuple ⟨x⟩, v => match v with | .tuple ⟨y⟩ => sameL x y | _ => false
  | _, _ => false
def sameL : List Value → List Value → Bool
  | [], l => match l with | [] => true | _ => false
  | x :: a, l => match l with
    | y :: b => (match sameV x y with | true => sameL a b | false => false)
    | [] => false
end

/-! Values that are the same, all of whose addresses are old: below nx, or from 16777216 on. -/
def lowN (nx i : Nat) : Bool := Nat.blt i nx || Nat.ble 16777216 i
def lowA (nx : Nat) (a b : Addr) : Bool := match a.spot, b.spot, Nat.beq a.block b.block, Nat.beq a.off b.off with
  | none, none, true, true => lowN nx a.block
  | _, _, _, _ => false
mutual
def keepV (nx : Nat) : Value → Value → Bool
  | .bool a, v => match v with | .bool b => a == b | _ => false
  | .int j a, v => match v with | .int k b => (match decide (j = k) with | true => a == b | false => false) | _ => false
  | .float j a, v => match v with | .float k b => (match decide (j = k) with | true => Nat.beq a b | false => false) | _ => false
  | .string a, v => match v with | .string b => bytesEq a.data.toList b.data.toList | _ => false
  | .nilIface, v => match v with | .nilIface => true | _ => false
  | .nilFunc, v => match v with | .nilFunc => true | _ => false
  | .pointer none, v => match v with | .pointer none => true | _ => false
  | .pointer (some a), v => match v with | .pointer (some b) => lowA nx a b | _ => false
  | .slice none n c, v => match v with | .slice none n' c' => Nat.beq n n' && Nat.beq c c' | _ => false
  | .slice (some a) n c, v => match v with | .slice (some b) n' c' => lowA nx a b && (Nat.beq n n' && Nat.beq c c') | _ => false
  | .map none, v => match v with | .map none => true | _ => false
  | .map (some r), v => match v with | .map (some r') => Nat.beq r r' && lowN nx r | _ => false
  | .agg ⟨x⟩, v => match v with | .agg ⟨y⟩ => keepL nx x y | _ => false
  | .tuple ⟨x⟩, v => match v with | .tuple ⟨y⟩ => keepL nx x y | _ => false
  | _, _ => false
def keepL (nx : Nat) : List Value → List Value → Bool
  | [], l => match l with | [] => true | _ => false
  | x :: a, l => match l with
    | y :: b => (match keepV nx x y with | true => keepL nx a b | false => false)
    | [] => false
end

def storeB (h : AH) (t : TypeId) (v : Value) : Value → Option AH
  | .pointer (some a) => match a.spot, h.may a.block, h.get a.block with
    | none, true, some (.cells c g) => match szOf P t with
      | some n => match Nat.beq v.cells.size n, Nat.ble (a.off + n) c.size, v.cells.toList.all oneB with
        | true, true, true => some (h.put a.block (some (.cells (putL c a.off v.cells.toList) g)))
        | _, _, _ => none
      | none => none
    | _, _, _ => none
  | _ => none

/-- A store of what stands there already. -/
def storeSame (h : AH) (t : TypeId) (v : Value) : Value → Bool
  | .pointer (some a) => match a.spot, h.own a.block, h.get a.block with
    | none, true, some (.cells c _) => match szOf P t with
      | some n => match Nat.beq v.cells.size n, Nat.ble (a.off + n) c.size, v.cells.toList.all oneB with
        | true, true, true => sameL v.cells.toList ((c.toList.drop a.off).take n)
        | _, _, _ => false
      | none => false
    | _, _, _ => false
  | _ => false

def newB (h : AH) (b : Blk) (k : Nat → Value) : R := match h.new b with
  | some (i, h') => some (k i, some h')
  | none => none

def ptrTo (i : Nat) : Value := .pointer (some ⟨i, 0, none⟩)

def arithB (op : BinOp) (k : IntKind) (a b : Int) : Option Value :=
  match op with
  | .add => some (.int k (k.wrap (a + b)))
  | .sub => some (.int k (k.wrap (a - b)))
  | .mul => some (.int k (k.wrap (a * b)))
  | .quo => match b with | .ofNat 0 => none | _ => some (.int k (k.wrap (a.tdiv b)))
  | .rem => match b with | .ofNat 0 => none | _ => some (.int k (a.tmod b))
  | .and => some (.int k (bits .and k a b))
  | .or => some (.int k (bits .or k a b))
  | .xor => some (.int k (bits .xor k a b))
  | .andNot => some (.int k (bits .andNot k a b))
  | .eql => some (.bool (a == b))
  | .neq => some (.bool (a != b))
  | .lss => some (.bool (a < b))
  | .leq => some (.bool (a ≤ b))
  | .gtr => some (.bool (a > b))
  | .geq => some (.bool (a ≥ b))
  | .shl => match b with | .ofNat m => some (.int k (k.wrap (a * 2 ^ min m k.bits))) | _ => none
  | .shr => match b with | .ofNat m => some (.int k (a.fdiv (2 ^ min m k.bits))) | _ => none

def floatB (op : BinOp) (k : FloatKind) (a b : Nat) : Option Value :=
  match op with
  | .add => (k.format.add a b).map (.float k)
  | .sub => (k.format.sub a b).map (.float k)
  | .mul => (k.format.mul a b).map (.float k)
  | .quo => (k.format.div a b).map (.float k)
  | .eql => some (.bool (k.format.order a b == some .eq))
  | .neq => some (.bool (k.format.order a b != some .eq))
  | .lss => some (.bool (k.format.order a b == some .lt))
  | .leq => some (.bool (k.format.order a b == some .lt || k.format.order a b == some .eq))
  | .gtr => some (.bool (k.format.order a b == some .gt))
  | .geq => some (.bool (k.format.order a b == some .gt || k.format.order a b == some .eq))
  | _ => none

def bytesLt : List UInt8 → List UInt8 → Bool
  | _, [] => false
  | [], _ :: _ => true
  | a :: x, b :: y => match Nat.blt a.toNat b.toNat with
    | true => true
    | false => match Nat.beq a.toNat b.toNat with | true => bytesLt x y | false => false

def stringB (op : BinOp) (x y : ByteArray) : Option Value :=
  let a := x.data.toList
  let b := y.data.toList
  match op with
  | .add => match Nat.ble (a.length + b.length) 1099511627776 with | true => some (.string ⟨(a ++ b).toArray⟩) | false => none
  | .eql => some (.bool (bytesEq a b))
  | .neq => some (.bool (!bytesEq a b))
  | .lss => some (.bool (bytesLt a b))
  | .leq => some (.bool (bytesLt a b || bytesEq a b))
  | .gtr => some (.bool !(bytesLt a b || bytesEq a b))
  | .geq => some (.bool !(bytesLt a b))
  | _ => none

/-- Values of flat types (no floats, no addresses) compared by what they are. -/
def flatEq : List Value → List Value → Option Bool
  | [], [] => some true
  | .bool a :: x, .bool b :: y => match a == b with | true => flatEq x y | false => some false
  | .int j a :: x, .int k b :: y => match decide (j = k) with
    | true => match a == b with | true => flatEq x y | false => some false
    | false => none
  | .string a :: x, .string b :: y => match bytesEq a.data.toList b.data.toList with | true => flatEq x y | false => some false
  | _, _ => none

def isNilB : Value → Option Bool
  | .pointer a => some a.isNone
  | .slice a _ _ => some a.isNone
  | .map a => some a.isNone
  | .nilFunc => some true
  | .func _ _ _ => some false
  | .nilIface => some true
  | .iface _ _ => some false
  | _ => none

def nilConst : Operand → Bool
  | .const (.pointer none) | .const (.slice none _ _) | .const (.map none) | .const .nilFunc | .const .nilIface => true
  | _ => false

/-- Which comparisons with nil are taken: the type's own kind must be that of the value. -/
def nilKind (d : TypeDesc) (v : Value) : Bool :=
  match d, v with
  | .pointer _, .pointer _ | .slice _, .slice _ _ _ | .map _ _, .map _ | .func _ _ _, .nilFunc | .func _ _ _, .func _ _ _
  | .interface _, .nilIface | .interface _, .iface _ _ => true
  | _, _ => false

def eqB (t : TypeId) (x y : Operand) (u v : Value) : Option Bool :=
  match u, v with
  | .bool a, .bool b => match P.underlying t with | some .bool => some (a == b) | _ => none
  | .pointer (some a), .pointer (some b) => match P.underlying t, a.spot, b.spot, Nat.beq a.block b.block with
    | some (.pointer e), none, none, true => match szOf P e with
      | some (_ + 1) => some (Nat.beq a.off b.off)
      | _ => none
    | _, _, _, _ => none
  | _, _ =>
    match P.underlying t with
    | some d => match nilKind d u, nilKind d v with
      | true, true => match nilConst y with
        | true => isNilB u
        | false => match nilConst x with
          | true => isNilB v
          | false => none
      | _, _ => none
    | none => none

def eqFsB (eq : TypeId → Value → Value → Option Bool) (xs ys : Array Value) : List Field → Option Bool
  | [] => some true
  | f :: fs => match decide (f.name = "_") with
    | true => eqFsB eq xs ys fs
    | false => match partB P f.type xs f.offset, partB P f.type ys f.offset with
      | some a, some b => match eq f.type a b with
        | some true => eqFsB eq xs ys fs
        | some false => some false
        | none => none
      | _, _ => none

def eqElB (eq : TypeId → Value → Value → Option Bool) (e : TypeId) (s : Nat) (xs ys : Array Value) : Nat → Nat → Option Bool
  | 0, _ => some true
  | m + 1, i => match partB P e xs (i * s), partB P e ys (i * s) with
    | some a, some b => match eq e a b with
      | some true => eqElB eq e s xs ys m (i + 1)
      | some false => some false
      | none => none
    | _, _ => none

/-- '==' of structs and arrays of plain parts. -/
def eqT : Nat → TypeId → Value → Value → Option Bool
  | 0, _, _, _ => none
  | d + 1, t, u, v => match P.underlying t, u, v with
    | some .bool, .bool a, .bool b => some (a == b)
    | some (.int _), .int k a, .int k' b => match decide (k = k') with | true => some (a == b) | false => none
    | some .string, .string a, .string b => some (bytesEq a.data.toList b.data.toList)
    | some (.struct fs), .agg xs, .agg ys => match P.stoodInHeld t with
      | true => none
      | false => eqFsB P (eqT d) xs ys fs.toList
    | some (.array n e), .agg xs, .agg ys => match szOf P e with
      | some s => eqElB P (eqT d) e s xs ys n 0
      | none => none
    | _, _, _ => none

def aggB (t : TypeId) (xs ys : Array Value) : Option Bool :=
  match pureL xs.toList, pureL ys.toList, P.eqGuardType P.depth t with
  | true, true, false => eqT P 16 t (.agg xs) (.agg ys)
  | _, _, _ => none

def binB (op : BinOp) (t : TypeId) (x y : Operand) (u v : Value) : Option Value :=
  match u, v with
  | .int k a, .int k' b => match op with
    | .shl => arithB .shl k a b
    | .shr => arithB .shr k a b
    | _ => match decide (k = k') with | true => arithB op k a b | false => none
  | .float k a, .float k' b => match decide (k = k') with | true => floatB op k a b | false => none
  | .string a, .string b => stringB op a b
  | .agg xs, .agg ys => match op with
    | .eql => (aggB P t xs ys).map .bool
    | .neq => (aggB P t xs ys).map fun b => .bool !b
    | _ => none
  | _, _ => match op with
    | .eql => (eqB P t x y u v).map .bool
    | .neq => (eqB P t x y u v).map fun b => .bool !b
    | _ => none

def unB (op : UnOp) : Value → Option Value
  | .int k n => match op with
    | .neg => some (.int k (k.wrap (0 - n)))
    | .xor => some (.int k (bits .xor k (if k.signed then -1 else k.max) n))
    | _ => none
  | .float k b => match op with
    | .neg => some (.float k (Op.negFloat k b))
    | _ => none
  | .bool b => match op with
    | .not => some (.bool !b)
    | _ => none
  | _ => none

def natIn (v : Value) (y : Nat) : Option Nat :=
  match v with
  | .int _ (.ofNat i) => match Nat.ble i y with | true => some i | false => none
  | _ => none

def lowB (h : Nat) : Option Value → Option (Nat × Nat)
  | some v => (natIn v h).map fun l => (l, h)
  | none => some (0, h)

/-- The bounds of a slice expression without a third index. -/
def boundsB (len cap : Nat) (lo : Option Value) : Option Value → Option (Nat × Nat)
  | some v => match natIn v cap with | some q => lowB q lo | none => none
  | none => lowB len lo

def sliceB (h : AH) (t : TypeId) (x : Value) (lo hi : Option Value) : Option Value :=
  match P.underlying t, x with
  | some .string, .string s =>
    (boundsB s.data.toList.length s.data.toList.length lo hi).map fun (l, h) => .string ⟨((s.data.toList.drop l).take (h - l)).toArray⟩
  | some (.slice elem), .slice none n c =>
    match szOf P elem, boundsB n c lo hi with
    | some _, some (l, h) => some (.slice none (h - l) (c - l))
    | _, _ => none
  | some (.slice elem), .slice (some a) n c =>
    match szOf P elem, boundsB n c lo hi, h.get a.block with
    | some size, some (l, hh), some (.cells _ .no) =>
      match a.spot with
      | none => some (.slice (match Nat.beq c l with | true => some a | false => some ⟨a.block, a.off + l * size, none⟩) (hh - l) (c - l))
      | _ => none
    | some size, some (l, hh), some (.cells cs (.up g _)) =>
      -- the capacity is open: only what lies ahead of the known end
      match a.spot, Nat.beq (g + 1) size, Nat.blt l c, Nat.ble hh c with
      | none, true, true, true => some (.slice (some ⟨a.block, a.off + l * size, none⟩) (hh - l) (match Nat.ble (a.off + c * size) cs.size with | true => c - l | false => hh - l))
      | _, _, _, _ => none
    | _, _, _ => none
  | some (.array n elem), .pointer (some a) =>
    match szOf P elem, boundsB n n lo hi, h.get a.block with
    | some size, some (l, hh), some (.cells _ .no) =>
      match a.spot with
      | none => some (.slice (match Nat.beq n l with | true => some a | false => some ⟨a.block, a.off + l * size, none⟩) (hh - l) (n - l))
      | _ => none
    | _, _, _ => none
  | _, _ => none

def fieldAddrB (s : TypeId) (x : Value) (f : Nat) : Option Value :=
  match P.underlying s, x with
  | some (.struct fs), .pointer (some a) => match fs[f]?, a.spot with
    | some fd, none => match szOf P fd.type with
      | some (_ + 1) => some (.pointer (some ⟨a.block, a.off + fd.offset, none⟩))
      | _ => none
    | _, _ => none
  | _, _ => none

def fieldB (t : TypeId) (x : Value) (f : Nat) : Option Value :=
  match P.underlying t, x with
  | some (.struct fs), .agg c => match fs[f]? with
    | some fd => partB P fd.type c fd.offset
    | none => none
  | _, _ => none

def indexAddrB (t : TypeId) (x : Value) (i : Value) : Option Value :=
  match i with
  | .int _ (.ofNat i) => match P.underlying t, x with
    | some (.slice elem), .slice (some a) n _ => match Nat.blt i n, szOf P elem, a.spot with
      | true, some size, none => some (.pointer (some ⟨a.block, a.off + i * size, none⟩))
      | _, _, _ => none
    | some (.array n elem), .pointer (some a) => match Nat.blt i n, szOf P elem, a.spot with
      | true, some size, none => some (.pointer (some ⟨a.block, a.off + i * size, none⟩))
      | _, _, _ => none
    | _, _ => none
  | _ => none

def indexB (t : TypeId) (x : Value) (i : Value) : Option Value :=
  match i with
  | .int _ (.ofNat i) => match P.underlying t, x with
    | some .string, .string s => s.data.toList[i]?.map fun b => .int .u8 b.toNat
    | some (.array n elem), .agg c => match Nat.blt i n, szOf P elem with
      | true, some size => partB P elem c (i * size)
      | _, _ => none
    | _, _ => none
  | _ => none

def zeroOf (t : TypeId) : Option Value := match P.info? t with
  | some i => match i.zero with
    | some z => match pureV z with | true => some z | false => none
    | none => none
  | none => none

/-! Maps with plain keys. -/

def checkFsB (ck : TypeId → Value → Bool) (cs : Array Value) : List Field → Bool
  | [] => true
  | f :: fs => match decide (f.name = "_") with
    | true => checkFsB ck cs fs
    | false => match partB P f.type cs f.offset with
      | some v => match ck f.type v with | true => checkFsB ck cs fs | false => false
      | none => false
def checkElB (ck : TypeId → Value → Bool) (e : TypeId) (s : Nat) (cs : Array Value) : Nat → Nat → Bool
  | 0, _ => true
  | m + 1, i => match partB P e cs (i * s) with
    | some v => match ck e v with | true => checkElB ck e s cs m (i + 1) | false => false
    | none => false

/-- A key that can be hashed: bools, numbers, strings, structs and arrays of these. -/
def checkB : Nat → TypeId → Value → Bool
  | 0, _, _ => false
  | d + 1, t, v => match P.underlying t, v with
    | some .bool, .bool _ => true
    | some (.int _), .int _ _ => true
    | some .string, .string _ => true
    | some (.struct fs), .agg cs => checkFsB P (checkB d) cs fs.toList
    | some (.array n e), .agg cs => match szOf P e with
      | some s => checkElB P (checkB d) e s cs n 0
      | none => false
    | _, _ => false

def findB (kt : TypeId) (k : Value) : List MapEntry → Nat → Option (Option (Nat × Value))
  | [], _ => some none
  | e :: es, i => match eqT P 16 kt k e.key with
    | some true => some (some (i, e.val))
    | some false => findB kt k es (i + 1)
    | none => none

/-- Where in a map a key stands. -/
def placeB (kt : TypeId) (k : Value) (es : List MapEntry) : Option (Option (Nat × Value)) :=
  match pureV k, checkB P 16 kt k with
  | true, true => findB P kt k es 0
  | _, _ => none

def lookB (h : AH) (t : TypeId) (m k : Value) (ok : Bool) : Option Value :=
  match P.underlying t, m with
  | some (.map kt et), .map none => match pureV k, checkB P 16 kt k, zeroOf P et with
    | true, true, some z => some (match ok with | true => .tuple #[z, .bool false] | false => z)
    | _, _, _ => none
  | some (.map kt et), .map (some r) => match h.get r with
    | some (.map es _) => match placeB P kt k es.toList with
      | some (some (_, v)) => some (match ok with | true => .tuple #[v, .bool true] | false => v)
      | some none => match zeroOf P et with
        | some z => some (match ok with | true => .tuple #[z, .bool false] | false => z)
        | none => none
      | none => none
    | _ => none
  | _, _ => none

def flatV (u v : Value) : Bool := match u, v with
  | .agg ⟨a⟩, .agg ⟨b⟩ => match flatEq a b with | some b => b | none => false
  | .agg _, _ => false
  | _, .agg _ => false
  | _, _ => match flatEq [u] [v] with | some b => b | none => false

def setE (i : Nat) (x : MapEntry) (es : List MapEntry) : List MapEntry := es.set i x

/-- A map's entries with a key's value set. -/
def updB (kt : TypeId) (k v : Value) (es : List MapEntry) (clock : Nat) : Option Blk :=
  match placeB P kt k es with
  | some (some (i, _)) => match es[i]? with
    | some e => match flatV e.key k with
      | true => some (.map (setE i ⟨e.key, v, e.born⟩ es).toArray clock)
      | false => none
    | none => none
  | some none => some (.map (es ++ [MapEntry.mk k v clock]).toArray (clock + 1))
  | none => none

def mapUpdB (h : AH) (t : TypeId) (m k v : Value) : Option AH :=
  match P.underlying t, m with
  | some (.map kt _), .map (some r) => match h.may r, h.get r with
    | true, some (.map es clock) => match updB P kt k v es.toList clock with
      | some b => some (h.put r (some b))
      | none => none
    | _, _ => none
  | _, _ => none

def mapEntryB (h : AH) (t : TypeId) (m k : Value) : R :=
  match P.underlying t, m with
  | some (.map kt et), .map (some r) => match h.may r, h.get r with
    | true, some (.map es clock) => match placeB P kt k es.toList with
      | some (some (i, v)) => match es.toList[i]? with
        | some e => match flatV e.key k with
          | true => some (.tuple #[v, .int .i64 e.born], none)
          | false => none
        | none => none
      | some none => match zeroOf P et with
        | some z => some (.tuple #[z, .int .i64 clock], some (h.put r (some (.map (es.toList ++ [MapEntry.mk k z clock]).toArray (clock + 1)))))
        | none => none
      | none => none
    | _, _ => none
  | _, _ => none

def bornAt (b : Nat) : List MapEntry → Nat → Option (Nat × MapEntry)
  | [], _ => none
  | e :: es, i => match Nat.beq e.born b with | true => some (i, e) | false => bornAt b es (i + 1)

def entryStoreB (h : AH) (m s v : Value) : Option AH :=
  match m, s with
  | .map (some r), .int _ (.ofNat b) => match h.may r, h.get r with
    | true, some (.map es clock) => match bornAt b es.toList 0 with
      | some (i, e) => some (h.put r (some (.map (setE i ⟨e.key, v, e.born⟩ es.toList).toArray clock)))
      | none => none
    | _, _ => none
  | _, _ => none

def makeMapB (h : AH) : R := match h.new (.map #[] 0) with
  | some (i, h') => some (.map (some i), some h')
  | none => none

def partsOk (parts : List (Nat × Operand)) (n : Nat) (env : T (Option Value)) : Option (List (Nat × Value)) :=
  match parts with
  | [] => some []
  | (i, x) :: ps => match ev G n env x with
    | some v => match partsOk ps n env with
      | some vs => some ((i, v) :: vs)
      | none => none
    | none => none

def placesOf : List Field → Option (List (Nat × Nat))
  | [] => some []
  | f :: fs => match szOf P f.type, placesOf fs with
    | some s, some r => some ((f.offset, s) :: r)
    | _, _ => none

def fillB (place : Nat → Option (Nat × Nat)) (c : Array Value) : List (Nat × Value) → Option (Array Value)
  | [] => some c
  | (i, v) :: rest => match place i with
    | none => none
    | some (off, size) => match Nat.beq v.cells.size size, Nat.ble (off + v.cells.size) c.size with
      | true, true => fillB place (putL c off v.cells.toList) rest
      | _, _ => none

def buildB (t : TypeId) (parts : List (Nat × Value)) : Option Value :=
  match zeroOf P t, P.underlying t with
  | some z, some (.struct fs) => match placesOf P fs.toList with
    | some pl => (fillB (fun i => pl[i]?) z.cells parts).map .agg
    | none => none
  | some z, some (.array _ elem) => match szOf P elem with
    | some size => (fillB (fun i => some (i * size, size)) z.cells parts).map .agg
    | none => none
  | _, _ => none

/-- n times the cells of a zero value. -/
def zerosB (z : List Value) : Nat → List Value
  | 0 => []
  | n + 1 => z ++ zerosB z n

def buildSliceB (h : AH) (t : TypeId) (len : Nat) (parts : List (Nat × Value)) : R :=
  match P.underlying t with
  | some (.slice elem) => match szOf P elem, zeroOf P elem with
    | some size, some z => match Nat.beq z.cells.size size, Nat.ble (len * size) 16777216 with
      | true, true => match fillB (fun i => some (i * size, size)) (zerosB z.cells.toList len).toArray parts with
        | some c => newB h (.cells c .no) fun i => .slice (some ⟨i, 0, none⟩) len len
        | none => none
      | _, _ => none
    | _, _ => none
  | _ => none

def makeSliceB (h : AH) (t : TypeId) (len cap : Value) : R :=
  match P.underlying t, len, cap with
  | some (.slice elem), .int _ (.ofNat l), .int _ (.ofNat c) => match P.info? elem, zeroOf P elem with
    | some i, some z => match Nat.beq z.cells.size i.size, Nat.ble l c, Nat.ble (c * (i.bytes + 1)) 1099511627776 with
      | true, true, true => newB h (.cells (zerosB z.cells.toList c).toArray .no) fun b => .slice (some ⟨b, 0, none⟩) l c
      | _, _, _ => none
    | _, _ => none
  | _, _, _ => none

/-- The first cells of what is appended or copied. -/
def firstB (h : AH) (size n : Nat) : Value → Option (List Value)
  | .slice none _ _ => some []
  | .slice (some a) _ _ => match a.spot, h.get a.block with
    | none, some (.cells c _) => match Nat.ble (a.off + n * size) c.size with
      | true => some ((c.toList.drop a.off).take (n * size))
      | false => none
    | _, _ => none
  | .string s => some ((s.data.toList.take n).map fun b => .int .u8 b.toNat)
  | _ => none

def lenB : Value → Option Nat
  | .slice _ n _ => some n
  | .string s => some s.data.toList.length
  | _ => none

def isIntD : TypeDesc → Bool
  | .int _ => true
  | _ => false

/-- The type of a row that has grown, in place or elsewhere. -/
def upTy (elem : TypeId) (off : Nat) : Option TypeId → Option TypeId
  | some t => match Nat.beq off 0, Nat.beq t elem with | true, true => some t | _, _ => none
  | none => none

/-- What is appended is known: cells of 'size' each. -/
def appendTo (h : AH) (elem : TypeId) (size : Nat) (base : Option Addr) (sl sc n : Nat) (new : List Value) : R :=
  match new with
  | [] => match Nat.ble (sl + n) sc with
    | true => some (.slice base (sl + n) sc, none)
    | false => none
  | _ :: _ => match base with
    | none => match Nat.beq sl 0, Nat.beq sc 0 with
      | true, true => newB h (.cells new.toArray (gwOf size elem)) fun b => .slice (some ⟨b, 0, none⟩) n n
      | _, _ => none
    | some a => match a.spot, h.get a.block with
      | none, some (.cells c g) => match Nat.ble (sl + n) sc with
        | true => match h.may a.block, Nat.ble (a.off + sl * size + new.length) c.size, new.all oneB with
          | true, true, true => some (.slice base (sl + n) sc, some (h.put a.block (some (.cells (putL c (a.off + sl * size) new) g))))
          | _, _, _ => none
        | false => match Nat.ble (a.off + sl * size) c.size with
          | true => match g with
            | .up g' t' => match Nat.beq (g' + 1) size, h.may a.block, new.all oneB with
              | true, true, true => newB (h.put a.block none) (.cells ((c.toList.drop a.off).take (sl * size) ++ new).toArray (.up g' (upTy elem a.off t'))) fun b => .slice (some ⟨b, 0, none⟩) (sl + n) (sl + n)
              | _, _, _ => none
            | _ => newB h (.cells ((c.toList.drop a.off).take (sl * size) ++ new).toArray (gwOf size elem)) fun b => .slice (some ⟨b, 0, none⟩) (sl + n) (sl + n)
          | false => none
      | _, _ => none

def appendB (h : AH) (ts : Array TypeId) (s x : Value) : R :=
  match ts[0]?, ts[1]? with
  | some t, some tx => match P.underlying t, P.underlying tx with
    | some (.slice elem), some dx => match P.info? elem, zeroOf P elem, s, lenB x with
      | some i, some z, .slice base sl sc, some n => match isIntD dx, Nat.beq z.cells.size i.size, Nat.ble ((sl + n) * (i.bytes + 1)) 1099511627776, firstB h i.size n x with
        | false, true, true, some new => match Nat.beq new.length (n * i.size), Nat.beq i.size 0 with
          | true, false => appendTo h elem i.size base sl sc n new
          | _, _ => none
        | _, _, _, _ => none
      | _, _, _, _ => none
    | _, _ => none
  | _, _ => none

/-- Zero values onto nil (append(nil, make([]E, n)...)). -/
def appendZ (h : AH) (ts : Array TypeId) (s x : Value) : R := match ts[0]?, ts[1]? with
  | some t, some tx => match P.underlying t, P.underlying tx with
    | some (.slice elem), some dx => match P.info? elem, zeroOf P elem, s, x with
      | some i, some z, .slice none 0 0, .int _ (.ofNat (n + 1)) => match isIntD dx, Nat.beq z.cells.size i.size, Nat.ble ((n + 1) * (i.bytes + 1)) 1099511627776, Nat.beq i.size 0 with
        | true, true, true, false => newB h (.cells (zerosB z.cells.toList (n + 1)).toArray (gwOf i.size elem)) fun b => .slice (some ⟨b, 0, none⟩) (n + 1) (n + 1)
        | _, _, _, _ => none
      | _, _, _, _ => none
    | _, _ => none
  | _, _ => none

def lenOpB (h : AH) (t : TypeId) (v : Value) : Option Value :=
  match P.underlying t, v with
  | some .string, .string s => some (.int .i64 s.data.toList.length)
  | some (.array n _), _ => some (.int .i64 n)
  | some (.slice _), .slice _ n _ => some (.int .i64 n)
  | some (.map _ _), .map none => some (.int .i64 0)
  | some (.map _ _), .map (some r) => match h.get r with
    | some (.map es _) => some (.int .i64 es.toList.length)
    | _ => none
  | _, _ => none

def minMaxB (mx : Bool) : Value → Value → Option Value
  | .int k x, .int _ y => some (.int k (match mx with | true => if y > x then y else x | false => if y < x then y else x))
  | _, _ => none

def foldB (f : Value → Value → Option Value) : Value → List Value → Option Value
  | v, [] => some v
  | v, x :: xs => match f v x with | some u => foldB f u xs | none => none

/-- The bytes that cells hold. -/
def bytesIn : List Value → Option (List UInt8)
  | [] => some []
  | .int .u8 n :: r => match bytesIn r with
    | some l => some (UInt8.ofNat n.toNat :: l)
    | none => none
  | _ :: _ => none

/-- The type of which a row of cells was made, where it is known and the row begins with its block. -/
def Gw.type : Gw → Option TypeId
  | .ty t => some t
  | .up _ t => t
  | .no => none

/-- A string over the cells of a row: the row is let go of. -/
def unsafeStrB (h : AH) (pt : TypeId) (a : Addr) (n : Nat) : R := match P.underlying pt, a.spot, h.get a.block with
  | some (.pointer e), none, some (.cells c g) => match g.type with
    | some t => match liesAt P P.depth t (c.size / P.cellsOf t) a.off e n, h.may a.block, Nat.ble (a.off + n) c.size with
      | true, true, true => match bytesIn ((c.toList.drop a.off).take n) with
        | some l => some (.string ⟨l.toArray⟩, some (h.put a.block none))
        | none => none
      | _, _, _ => none
    | none => none
  | _, _, _ => none

def builtinB (h : AH) (b : Builtin) (ts : Array TypeId) (args : List Value) : R :=
  match b, args with
  | .append, [s, x] => (match appendB P h ts s x with | some r => some r | none => appendZ P h ts s x)
  | .len, [x] => match ts[0]? with | some t => (lenOpB P h t x).map fun v => (v, none) | none => none
  | .cap, [.slice none _ 0] => match ts[0]? with | some t => (match P.underlying t with | some (.slice _) => some (.int .i64 0, none) | _ => none) | none => none
  | .copy, [.slice _ _ _, .slice _ 0 _] => match ts[0]? with | some t => (match P.underlying t with | some (.slice e) => (match szOf P e with | some _ => some (.int .i64 0, none) | none => none) | _ => none) | none => none
  | .unsafeSliceData, [.slice none _ _] => some (.pointer none, none)
  | .unsafeSliceData, [.slice (some a) _ c] => match Nat.beq c 0 with | true => none | false => some (.pointer (some a), none)
  | .unsafeString, [.pointer _, .int .i64 0] => match ts[0]? with | some _ => some (.string .empty, none) | none => none
  | .unsafeString, [.pointer (some a), .int .i64 (.ofNat (n + 1))] => match ts[0]?, Nat.ble n 1099511627776 with | some pt, true => unsafeStrB P h pt a (n + 1) | _, _ => none
  | .max, v :: vs => (foldB (minMaxB true) v vs).map fun v => (v, none)
  | .min, v :: vs => (foldB (minMaxB false) v vs).map fun v => (v, none)
  | _, _ => none

/-- The bytes of a slice, as a string. -/
def textB (h : AH) : Value → Option (List UInt8)
  | .slice none _ _ => some []
  | .slice (some a) n _ => match a.spot, h.get a.block with
    | none, some (.cells c _) => match Nat.ble (a.off + n) c.size with
      | true => bytesIn ((c.toList.drop a.off).take n)
      | false => none
    | _, _ => none
  | _ => none

/-- The characters of a string, as a slice. -/
def runesL (s : ByteArray) : List Value := (Conv.runesFrom s s.data.toList.length 0 #[]).toList
def runesB (h : AH) (l : List Value) : R := newB h (.cells l.toArray (.up 0 none)) (fun b => .slice (some ⟨b, 0, none⟩) l.length l.length)

def convB (h : AH) (src dst : TypeId) (v : Value) : R :=
  match P.underlying src, P.underlying dst, v with
  | some _, some (.int k), .int _ n => some (.int k (k.wrap n), none)
  | some _, some (.float k), .int _ n => some (.float k (k.nearest n), none)
  | some _, some (.int k), .float s b => match (s.decode b).toInt .zero with
    | some n => match decide (k.min ≤ n ∧ n ≤ k.max) with
      | true => some (.int k n, none)
      | false => none
    | none => none
  | some _, some (.float k), .float s b => match decide (s = k) with
    | true => some (.float k b, none)
    | false => none
  | some (.pointer t), some .unsafePointer, .pointer (some a) => match a.spot, h.get a.block, szOf P t with
    | none, some (.cells c _), some (_ + 1) => match Nat.blt a.off c.size with | true => some (.pointer (some a), none) | false => none
    | _, _, _ => none
  | some .unsafePointer, some (.pointer u), .pointer (some a) => match a.spot, h.get a.block with
    | none, some (.cells c g) => match g.type with
      | some t => match liesAt P P.depth t (c.size / P.cellsOf t) a.off u 1, szOf P u with
        | true, some _ => some (.pointer (some a), none)
        | _, _ => none
      | none => none
    | _, _ => none
  | some _, some .string, .int _ n => some (.string (Utf8.encode n), none)
  | some _, some .string, .string s => some (.string s, none)
  | some .string, some (.slice e), .string s => match P.underlying e with
    | some (.int .u8) => newB h (.cells (s.data.toList.map fun b => Value.int .u8 b.toNat).toArray (.up 0 (some e))) (fun b => .slice (some ⟨b, 0, none⟩) s.data.toList.length s.data.toList.length)
    | some (.int .i32) => runesB h (runesL s)
    | _ => none
  | some (.slice e), some .string, x => match P.underlying e with
    | some (.int .u8) => match textB h x with | some l => some (.string ⟨l.toArray⟩, none) | none => none
    | _ => none
  | _, _, _ => none

def rangeB (h : AH) (t : TypeId) (v : Value) : R :=
  match P.underlying t, v with
  | some .string, .string s => newB h (.iter s 0) ptrTo
  | _, _ => none

def nextB (h : AH) (v : Value) (isString : Bool) : R :=
  match v, isString with
  | .pointer (some ⟨i, 0, none⟩), true => match h.get i with
    | some (.iter s pos) => match Nat.blt pos s.data.toList.length with
      | true => match h.may i with
        | true => match Utf8.decode s pos with
          | (c, width) => some (.tuple #[.bool true, .int .i64 pos, .int .i32 c], some (h.put i (some (.iter s (pos + width)))))
        | false => none
      | false => some (.tuple #[.bool false], none)
    | _ => none
  | _, _ => none

/-- An assertion that an interface value is of a type that is no interface. -/
def typeAssertB (ta : TypeId) (ok : Bool) (v : Value) : Option Value := match P.underlying ta, v with
  | some (.interface _), _ => none
  | some _, .iface t u => match Nat.beq t ta with
    | true => some (match ok with | true => .tuple #[u, .bool true] | false => u)
    | false => match ok, zeroOf P ta with
      | true, some z => some (.tuple #[z, .bool false])
      | _, _ => none
  | some _, .nilIface => match ok, zeroOf P ta with
    | true, some z => some (.tuple #[z, .bool false])
    | _, _ => none
  | _, _ => none

def nilCheckB : Value → Option Value
  | .pointer none | .nilIface | .nilFunc => none
  | .func (.method _) _ _ => none
  | v => some v

/-- A function's answer: its value, and memory where it has turned. -/
abbrev Orc := FuncId → List Value → AH → R

/-- The library's functions without a body that are served. -/
inductive Ext where
  | cmp | count | indexByte | bits64 | from64 | same | noZero

def Ext.sem (x : Ext) (fn : Func) : Array Value → Sem Value := match x with
  | .noZero => Extern.BytealgMakeNoZero.makeNoZero fn.params fn.resultTypes
  | .cmp => Extern.BytealgCompare.compare
  | .count => Extern.BytealgCount.count
  | .indexByte => Extern.BytealgIndexByte.indexByte
  | .bits64 => Extern.MathFloatBits.float64bits
  | .from64 => Extern.MathFloatBits.float64frombits
  | .same => Extern.AbiNoEscape.same

/-- The bytes of a string or a slice. -/
def bytesB (h : AH) : Value → Option (List UInt8)
  | .string s => some s.data.toList
  | v => textB h v

def externB (h : AH) (x : Ext) (args : List Value) : Option Value :=
  match x, args with
  | .cmp, [a, b] => match bytesB h a, bytesB h b with
    | some a, some b => some (.int .i64 (Extern.BytealgCompare.cmp ⟨a.toArray⟩ ⟨b.toArray⟩))
    | _, _ => none
  | .count, [.string a, .int .u8 c] => some (.int .i64 (a.foldl (fun n x => if x == c.toNat.toUInt8 then n + 1 else n) ((0 : Nat) : Int)))
  | .indexByte, [.string b, .int .u8 c] => match (List.range b.size).find? fun i => b[i]! == c.toNat.toUInt8 with
    | some i => some (.int .i64 (i : Int))
    | none => some (.int .i64 (-1))
  | .bits64, [.float .f64 b] => some (.int .u64 b)
  | .from64, [.int .u64 n] => some (.float .f64 n.toNat)
  | .same, [x] => some x
  | _, _ => none

/-- Bytes of which nothing is known. -/
def noZeroB (fn : Func) (h : AH) (args : List Value) : R := match args, fn.resultTypes with
  | [.int .i64 (.ofNat (n + 1))], ⟨[r]⟩ => match P.underlying r with
    | some (.slice e) => match Nat.ble n 1099511627776, Nat.beq (P.cellsOf e) 1 with
      | true, true => newB h (.cells #[] (.up 0 (some e))) fun b => .slice (some ⟨b, 0, none⟩) (n + 1) (n + 1)
      | _, _ => none
    | _ => none
  | _, _ => none

/-- Under this number an orc answers for the yields of loops. -/
def yid : FuncId := 1000000007

def callB (ext : FuncId → Option Ext) (orc : Orc) (h : AH) (f : Value) (args : List Value) : R :=
  match f with
  | .func (.func g) ⟨first⟩ ⟨captured⟩ => match P.funcs[g]? with
    | some fn => match fn.body with
      | some _ => orc g (first ++ args ++ captured) h
      | none => match ext g with
        | some .noZero => noZeroB P fn h (first ++ args ++ captured)
        | some x => (externB h x (first ++ args ++ captured)).map fun v => (v, none)
        | none => none
    | none => none
  | .func (.yield i) ⟨[]⟩ ⟨[]⟩ => match P.funcs[yid]? with
    | none => orc yid (.func (.yield i) ⟨[]⟩ ⟨[]⟩ :: args) h
    | some _ => none
  | _ => none

def plain (v : Option Value) : R := match v with | some v => some (v, none) | none => none

variable (ext : FuncId → Option Ext)

/-- What an operation is carried out with: the program, its variables, the served functions, the calls' answers, the slots, memory. -/
abbrev KO := Program → Nat → (FuncId → Option Ext) → Orc → Nat → T (Option Value) → AH → R

def aMove (x : Operand) : KO := fun _ G _ _ n env _ => plain (ev G n env x)
def aPick (c a b : Operand) : KO := fun _ G _ _ n env _ => match ev G n env c with
  | some (.bool true) => plain (ev G n env a)
  | some (.bool false) => plain (ev G n env b)
  | _ => none
/-- Of structs the type is kept. -/
def tyOf (P : Program) (t : TypeId) : Gw := match P.underlying t with | some (.struct _) => .ty t | _ => .no
def aAlloc (t : TypeId) : KO := fun P _ _ _ _ _ h => match zeroOf P t with | some z => newB h (.cells z.cells (tyOf P t)) ptrTo | none => none
def aBox (t : TypeId) (x : Operand) : KO := fun P G _ _ n env h => match ev G n env x with | some v => newB h (.cells v.cells (tyOf P t)) ptrTo | none => none
def aBuild (t : TypeId) (ps : Array (Nat × Operand)) : KO := fun P G _ _ n env _ => match partsOk G ps.toList n env with | some vs => plain (buildB P t vs) | none => none
def aBuildSlice (t : TypeId) (len : Nat) (ps : Array (Nat × Operand)) : KO := fun P G _ _ n env h => match partsOk G ps.toList n env with | some vs => buildSliceB P h t len vs | none => none
def aLoad (t : TypeId) (x : Operand) : KO := fun P G _ _ n env h => match ev G n env x with | some a => plain (loadB P h t a) | none => none
def aStore (t : TypeId) (x y : Operand) : KO := fun P G _ _ n env h => match ev G n env x, ev G n env y with
  | some a, some v => match storeSame P h t v a with
    | true => some (undef, none)
    | false => match storeB P h t v a with | some h' => some (undef, some h') | none => none
  | _, _ => none
def aNilCheck (x : Operand) : KO := fun _ G _ _ n env _ => match ev G n env x with | some v => plain (nilCheckB v) | none => none
def aBinOp (op : BinOp) (t : TypeId) (x y : Operand) : KO := fun P G _ _ n env _ => match ev G n env x, ev G n env y with | some u, some v => plain (binB P op t x y u v) | _, _ => none
def aUnOp (op : UnOp) (x : Operand) : KO := fun _ G _ _ n env _ => match ev G n env x with | some v => plain (unB op v) | none => none
def aConvert (s d : TypeId) (x : Operand) : KO := fun P G _ _ n env h => match ev G n env x with | some v => convB P h s d v | none => none
def aIface (t : TypeId) (x : Operand) : KO := fun P G _ _ n env _ => match ev G n env x, P.underlying t with
  | some _, some (.interface _) => none
  | some v, some _ => some (.iface t v, none)
  | _, _ => none
def aFunc (fn : Fn) (a c : Array Operand) : KO := fun _ G _ _ n env _ => match evs G n env a.toList, evs G n env c.toList, fnPure fn with
  | some a, some c, true => some (.func fn a.toArray c.toArray, none)
  | _, _, _ => none
def aMakeSlice (t : TypeId) (l c : Operand) : KO := fun P G _ _ n env h => match ev G n env l, ev G n env c with | some l, some c => makeSliceB P h t l c | _, _ => none
def aSlice (t : TypeId) (x : Operand) (lo hi : Option Operand) : KO := fun P G _ _ n env h => match ev G n env x, (match lo with | some l => (ev G n env l).map some | none => some none), (match hi with | some l => (ev G n env l).map some | none => some none) with
  | some v, some l, some r => plain (sliceB P h t v l r)
  | _, _, _ => none
def aFieldAddr (s : TypeId) (x : Operand) (f : Nat) : KO := fun P G _ _ n env _ => match ev G n env x with | some v => plain (fieldAddrB P s v f) | none => none
def aField (t : TypeId) (x : Operand) (f : Nat) : KO := fun P G _ _ n env _ => match ev G n env x with | some v => plain (fieldB P t v f) | none => none
def aIndexAddr (t : TypeId) (x i : Operand) : KO := fun P G _ _ n env _ => match ev G n env x, ev G n env i with | some v, some i => plain (indexAddrB P t v i) | _, _ => none
def aIndex (t : TypeId) (x i : Operand) : KO := fun P G _ _ n env _ => match ev G n env x, ev G n env i with | some v, some i => plain (indexB P t v i) | _, _ => none
def aRange (t : TypeId) (x : Operand) : KO := fun P G _ _ n env h => match ev G n env x with | some v => rangeB P h t v | none => none
def aNext (x : Operand) (b : Bool) : KO := fun _ G _ _ n env h => match ev G n env x with | some v => nextB h v b | none => none
def aTypeAssert (x : Operand) (ta : TypeId) (ok : Bool) : KO := fun P G _ _ n env _ => match ev G n env x with | some v => plain (typeAssertB P ta ok v) | none => none
def aExtract (x : Operand) (i : Nat) : KO := fun _ G _ _ n env _ => match ev G n env x with | some (.tuple ⟨l⟩) => plain l[i]? | _ => none
def aBuiltin (c : Call) (b : Builtin) : KO := fun P G _ _ n env h => match evs G n env c.args.toList with
  | some args => builtinB P h b c.argTypes args
  | none => none
def aCallee (c : Call) (f : Operand) : KO := fun P G ext orc n env h => match evs G n env c.args.toList with
  | some args => match ev G n env f with | some fv => callB P ext orc h fv args | none => none
  | none => none
def aMakeMap (t : TypeId) (r : Option Operand) : KO := match r with
  | none => fun _ _ _ _ _ _ h => makeMapB h
  | some x => fun P G _ _ n env h => match ev G n env x with
    | some (.int _ _) => match P.underlying t with
      | some (.map _ _) => makeMapB h
      | _ => none
    | _ => none
def aLookup (t : TypeId) (x i : Operand) (ok : Bool) : KO := fun P G _ _ n env h => match ev G n env x, ev G n env i with | some m, some k => plain (lookB P h t m k ok) | _, _ => none
def aMapUpdate (t : TypeId) (m k x : Operand) : KO := fun P G _ _ n env h => match ev G n env m, ev G n env k, ev G n env x with
  | some m, some k, some v => match mapUpdB P h t m k v with | some h' => some (undef, some h') | none => none
  | _, _, _ => none
def aMapEntry (t : TypeId) (m k : Operand) : KO := fun P G _ _ n env h => match ev G n env m, ev G n env k with | some m, some k => mapEntryB P h t m k | _, _ => none
def aEntryStore (m s x : Operand) : KO := fun _ G _ _ n env h => match ev G n env m, ev G n env s, ev G n env x with
  | some m, some s, some v => match entryStoreB h m s v with | some h' => some (undef, some h') | none => none
  | _, _, _ => none
def aNone : KO := fun _ _ _ _ _ _ _ => none
def aCall (c : Call) : KO := match c.callee with
  | .builtin b => aBuiltin c b
  | .value f => aCallee c f
  | .invoke _ _ => aNone

def opA : Op → KO
  | .move x => aMove x
  | .assign x => aMove x
  | .pick c a b => aPick c a b
  | .alloc t => aAlloc t
  | .box t x => aBox t x
  | .build t ps => aBuild t ps
  | .buildSlice t len ps => aBuildSlice t len ps
  | .load t x => aLoad t x
  | .store t x y => aStore t x y
  | .nilCheck x => aNilCheck x
  | .binOp op t x y _ => aBinOp op t x y
  | .unOp op _ x => aUnOp op x
  | .convert s d x => aConvert s d x
  | .makeInterface t x => aIface t x
  | .makeFunc fn a c => aFunc fn a c
  | .makeSlice t l c => aMakeSlice t l c
  | .slice t x lo hi none => aSlice t x lo hi
  | .fieldAddr s x f => aFieldAddr s x f
  | .field t x f => aField t x f
  | .indexAddr t x i => aIndexAddr t x i
  | .index t x i => aIndex t x i
  | .range t x => aRange t x
  | .next x b => aNext x b
  | .extract x i => aExtract x i
  | .typeAssert x _ ta ok => aTypeAssert x ta ok
  | .makeMap t r => aMakeMap t r
  | .lookup t x i ok => aLookup t x i ok
  | .mapUpdate t m k x => aMapUpdate t m k x
  | .insert t m k x => aMapUpdate t m k x
  | .mapEntry t m k => aMapEntry t m k
  | .entryStore _ m s x => aEntryStore m s x
  | .call c => aCall c
  | _ => aNone

/-- One operation. -/
def opB (orc : Orc) (n : Nat) (o : Oper) (env : T (Option Value)) (h : AH) : R := opA o.op P G ext orc n env h

def putE (n : Nat) (dst : Option Tmp) (v : Value) (env : T (Option Value)) : Option (T (Option Value)) :=
  match dst with
  | none => some env
  | some d => match Nat.blt d n with | true => some (T.set 12 env d (some v)) | false => none

def wantedB (n : Nat) (ops : Array Oper) (o : Oper) (env : T (Option Value)) : Option Bool :=
  match o.guard with
  | none => some true
  | some (j, want) => match (ops[j]?).bind (·.dst) with
    | some d => match Nat.blt d n with
      | true => match env.get d with | some (.bool b) => some (b == want) | some _ => some false | none => none
      | false => some false
    | none => some false

abbrev St := Option (T (Option Value) × AH)

/-- What operations are carried out with: the program, its variables, the served functions, the calls' answers, the number of slots, the statement, the slots, memory. -/
abbrev KS := Program → Nat → (FuncId → Option Ext) → Orc → Nat → Array Oper → T (Option Value) → AH → St
def sNil : KS := fun _ _ _ _ _ _ env h => some (env, h)
def sCons (o : Oper) (rest : KS) : KS := fun P G ext orc n ops env h => match wantedB n ops o env with
  | some true => match opB P G ext orc n o env h with
    | some (v, ho) => match putE n o.dst v env with
      | some env' => rest P G ext orc n ops env' (ho.getD h)
      | none => none
    | none => none
  | some false => match putE n o.dst undef env with
    | some env' => rest P G ext orc n ops env' h
    | none => none
  | none => none
def opsA (l : List Oper) : KS := List.rec (motive := fun _ => KS) sNil (fun o _ ih => sCons o ih) l

/-- Operations in the order of the text. -/
def opsB (orc : Orc) (n : Nat) (ops : Array Oper) (l : List Oper) (env : T (Option Value)) (h : AH) : St := opsA l P G ext orc n ops env h

theorem opsB_nil (orc : Orc) (n : Nat) (ops : Array Oper) (env : T (Option Value)) (h : AH) : opsB P G ext orc n ops [] env h = some (env, h) := rfl
theorem opsB_cons (orc : Orc) (n : Nat) (ops : Array Oper) (o : Oper) (os : List Oper) (env : T (Option Value)) (h : AH) : opsB P G ext orc n ops (o :: os) env h = (match wantedB n ops o env with
    | some true => match opB P G ext orc n o env h with
      | some (v, ho) => match putE n o.dst v env with
        | some env' => opsB P G ext orc n ops os env' (ho.getD h)
        | none => none
      | none => none
    | some false => match putE n o.dst undef env with
      | some env' => opsB P G ext orc n ops os env' h
      | none => none
    | none => none) := rfl

/-! A statement whose order is open. -/

/-- What one operation of such a statement came to: its value; how many operations that turn memory stand before it; whether it turns memory, whether old blocks too; whether it looks at no memory; whether it writes to blocks made since the time 'lq' alone. -/
structure Rec where
  dst : Option Tmp
  v : Value
  k : Nat
  e : Bool
  wr : Bool
  free : Bool
  fw : Bool
  lq : Nat
  sd : Option Blk
  al : Bool

def maskOf (ms : List Nat) (i : Nat) : List Edge → Option Nat
  | [] => some 0
  | e :: es => match maskOf ms i es with
    | some m => match Region.binds .any e with
      | true => match Nat.blt e.on i with
        | true => some (m ||| 2 ^ e.on ||| ms.getD e.on 0)
        | false => none
      | false => some m
    | none => none

def masksB : List Oper → List Nat → Option (List Nat)
  | [], ms => some ms
  | o :: os, ms => match maskOf ms ms.length o.after.toList with
    | some m => masksB os (ms ++ [m])
    | none => none

/-- Operations that may look at no memory: they are tried without it first. -/
def freeOp : Op → Bool
  | .move _ | .assign _ | .pick .. | .build .. | .nilCheck _ | .binOp .. | .unOp .. | .convert .. | .makeInterface .. | .makeFunc .. | .slice .. | .fieldAddr .. | .field .. | .indexAddr .. | .index .. | .extract .. => true
  | .call { callee := .builtin .len, .. } | .call { callee := .builtin .min, .. } | .call { callee := .builtin .max, .. } => true
  | _ => false

def countE : List Rec → Nat → Nat → Nat
  | [], _, _ => 0
  | r :: rs, j, m => match r.e, Nat.testBit m j with
    | true, true => countE rs (j + 1) m + 1
    | _, _ => countE rs (j + 1) m

/-- The pairs of an operation with those ahead of it. -/
def pairsOk (ops : Array Oper) (o : Oper) (m k : Nat) : List Rec → List Oper → Nat → Bool
  | r :: rs, p :: ps, j => (Nat.testBit m j || Oper.apart ops p o) && (!r.e || (Nat.testBit m j == Nat.blt r.k k)) && pairsOk ops o m k rs ps (j + 1)
  | [], _, _ => true
  | _ :: _, [], _ => false

def hideB (n : Nat) (env : T (Option Value)) : Option Tmp → T (Option Value)
  | some d => match Nat.blt d n with | true => T.set 12 env d none | false => env
  | none => env

/-- The slots as an operation sees them: those ahead that need not be done are hidden. -/
def envB (n m : Nat) : List Rec → Nat → T (Option Value) → T (Option Value)
  | [], _, env => env
  | r :: rs, j, env => envB n m rs (j + 1) (match Nat.testBit m j with
    | true => (match r.dst with | some d => (match Nat.blt d n with | true => T.set 12 env d (some r.v) | false => env) | none => env)
    | false => hideB n env r.dst)

/-- Those behind it that may be done already are hidden too. -/
def hideLater (n i : Nat) (ms : List Nat) : List Oper → Nat → T (Option Value) → T (Option Value)
  | [], _, env => env
  | o :: os, j, env => hideLater n i ms os (j + 1) (match Nat.testBit (ms.getD j 0) i with
    | true => env
    | false => hideB n env o.dst)

def allE (p : Rec → Bool) (m : Nat) : List Rec → Nat → Bool
  | [], _ => true
  | r :: rs, j => (!p r || Nat.testBit m j) && allE p m rs (j + 1)

/-- Where an operation is run that writes to a block made in this statement: the last time at which the block was not yet there. -/
def lastLe (b : Nat) : List AH → Nat → Option Nat → Option Nat
  | [], _, acc => acc
  | h :: hs, q, acc => match Nat.ble h.next b with | true => lastLe b hs (q + 1) (some q) | false => acc
def freshQ (n : Nat) (o : Oper) (env : T (Option Value)) (hs : List AH) : Option Nat := match o.op with
  | .store _ x _ => match ev G n env x with
    | some (.pointer (some a)) => lastLe a.block hs 0 none
    | _ => none
  | _ => none
def AH.from (h : AH) (k : Nat) : AH := { h with lock := k }

def AH.locked (h : AH) : AH := { h with lock := h.next }
def AH.bare (h : AH) : AH := { h with t := .leaf none, lock := h.next, old := fun _ => none, fl := false }

def dstOk (n : Nat) (o : Oper) : Bool := match o.dst with | some d => Nat.blt d n | none => true

/-- A new block that no operation of the statement looks at: the block, and what stands for it. -/
def sideSlice (t : TypeId) (len : Nat) (parts : List (Nat × Value)) : Option (Blk × (Nat → Value)) :=
  match P.underlying t with
  | some (.slice elem) => match szOf P elem, zeroOf P elem with
    | some size, some z => match Nat.beq z.cells.size size, Nat.ble (len * size) 16777216 with
      | true, true => match fillB (fun i => some (i * size, size)) (zerosB z.cells.toList len).toArray parts with
        | some c => some (.cells c .no, fun i => .slice (some ⟨i, 0, none⟩) len len)
        | none => none
      | _, _ => none
    | _, _ => none
  | _ => none
def sideB (n : Nat) (o : Oper) (env : T (Option Value)) : Option (Blk × (Nat → Value)) := match o.op with
  | .alloc t => match zeroOf P t with | some z => some (.cells z.cells (tyOf P t), ptrTo) | none => none
  | .box t x => match ev G n env x with | some v => some (.cells v.cells (tyOf P t), ptrTo) | none => none
  | .buildSlice t len ps => match partsOk G ps.toList n env with | some vs => sideSlice P t len vs | none => none
  | _ => none
def sideF (n : Nat) (o : Oper) (env : T (Option Value)) : Option Nat → Option (Blk × (Nat → Value) × Nat)
  | some s => match Nat.blt s 16777216 with
    | true => (match sideB P G n o env with | some (b, kv) => some (b, kv, s) | none => none)
    | false => none
  | none => none

/-- A reader whose answer is held against every memory that it may meet. -/
def isLoad : Op → Bool
  | .load _ _ => true
  | _ => false
def loadF : Option Nat → Op → Bool
  | some _, op => isLoad op
  | none, _ => false
def alikeAt (orc : Orc) (n : Nat) (o : Oper) (env : T (Option Value)) (nx : Nat) (v : Value) (lim : Nat) : List AH → Nat → Bool
  | [], _ => true
  | H :: hs, q => match Nat.ble q lim with
    | true => (match opB P G ext orc n o env H.locked with
      | some (u, none) => (match keepV nx v u with | true => alikeAt orc n o env nx v lim hs (q + 1) | false => false)
      | _ => false)
    | false => true
def nextAt (hs : List AH) (k : Nat) : Nat := match hs[k]? with | some h => h.next | none => 0

def freeF (orc : Orc) (n : Nat) (o : Oper) (env : T (Option Value)) (h : AH) : R := match freeOp o.op with | true => opB P G ext orc n o env h.bare | false => none

def stepD (sq : Option Nat) (orc : Orc) (n : Nat) (ops : Array Oper) (ms : List Nat) (env0 : T (Option Value)) (i : Nat) (o : Oper) (os : List Oper) (rs : List Rec) (hs : List AH) : Option (Rec × List AH) :=
  let m := ms.getD i 0
  let k := countE rs 0 m
  let env := hideLater n i ms os (i + 1) (envB n m rs 0 env0)
  match dstOk n o && pairsOk ops o m k rs (ops.toList) 0, hs[k]? with
  | true, some h => match wantedB n ops o env with
    | some false => some (⟨o.dst, undef, k, false, false, true, false, 0, none, false⟩, hs)
    | some true => match sideF P G n o env sq with
     | some (b, kv, s) => some (⟨o.dst, kv (s + i), k, false, false, true, false, 0, some b, false⟩, hs)
     | none => match loadF sq o.op with
      | true => match opB P G ext orc n o env h.locked with
       | some (v, none) => some (⟨o.dst, v, k, false, false, true, false, 0, none, true⟩, hs)
       | _ => none
      | false => match freeF P G ext orc n o env h with
      | some (v, none) => some (⟨o.dst, v, k, false, false, true, false, 0, none, false⟩, hs)
      | _ => match allE (·.wr) m rs 0 && allE (fun r => r.fw && !Nat.ble k r.lq) m rs 0 with
        | true => match opB P G ext orc n o env h.locked with
          | some (v, none) => some (⟨o.dst, v, k, false, false, false, false, 0, none, false⟩, hs)
          | some (v, some h') => match Nat.beq (k + 1) hs.length with
            | true => some (⟨o.dst, v, k, true, false, false, false, 0, none, false⟩, hs ++ [{ h' with lock := h.lock }])
            | false => none
          | none => match freshQ G n o env hs with
            | some q => match hs[q]?, Nat.beq (k + 1) hs.length && (Nat.ble q k && allE (fun r => !r.free && !Nat.ble r.k q) m rs 0) with
              | some h0, true => match Nat.ble h.lock h0.next, opB P G ext orc n o env (h.from h0.next) with
                | true, some (v, some h') => some (⟨o.dst, v, k, true, false, false, true, q, none, false⟩, hs ++ [{ h' with lock := h.lock }])
                | _, _ => none
              | _, _ => none
            | none => match Nat.beq (k + 1) hs.length && allE (fun r => !r.free) m rs 0 with
              | true => match opB P G ext orc n o env h with
                | some (v, ho) => some (⟨o.dst, v, k, true, true, false, false, 0, none, false⟩, hs ++ [ho.getD h])
                | none => none
              | false => none
        | false => none
    | none => none
  | _, _ => none

def putAll (n : Nat) : List Rec → T (Option Value) → T (Option Value)
  | [], env => env
  | r :: rs, env => putAll n rs (match r.dst with | some d => T.set 12 env d (some r.v) | none => env)

/-- The first turn of memory that must stand behind operation i. -/
def limR (ms : List Nat) (i top : Nat) : List Rec → Nat → Nat
  | [], _ => top
  | r :: rs, j => match r.e, Nat.testBit (ms.getD j 0) i with
    | true, true => r.k
    | _, _ => limR ms i top rs (j + 1)
def alD (orc : Orc) (n : Nat) (ms : List Nat) (env0 : T (Option Value)) (RS : List Rec) (HS : List AH) : Nat → List Oper → List Rec → Bool
  | i, o :: os, r :: rs => (match r.al with
    | true => alikeAt P G ext orc n o (hideLater n i ms os (i + 1) (envB n (ms.getD i 0) (RS.take i) 0 env0)) (nextAt HS r.k) r.v (limR ms i HS.length RS 0) (HS.drop r.k) r.k
    | false => true) && alD orc n ms env0 RS HS (i + 1) os rs
  | _, _, _ => true

/-- The new blocks that nothing looked at. -/
def sides (s : Nat) : List Rec → Nat → List (Nat × Blk)
  | [], _ => []
  | r :: rs, i => match r.sd with | some b => (s + i, b) :: sides s rs (i + 1) | none => sides s rs (i + 1)
def addS : List (Nat × Blk) → AH → AH
  | [], h => h
  | (s, b) :: r, h => addS r (h.put s (some b))
/-- Numbers are set aside. -/
def clearS : Nat → Nat → T (Option Blk) → T (Option Blk)
  | _, 0, t => t
  | s, c + 1, t => clearS (s + 1) c (T.set 24 t s none)
def AH.skip (h : AH) (c : Nat) : AH := { h with t := clearS h.next c h.t, next := h.next + c }
def skipF (h : AH) (sq : Option Nat) (c : Nat) : Option AH := match sq with
  | none => some h
  | some s => match Nat.blt s 16777216 with
    | true => (match Nat.beq s h.next, Nat.ble h.lock h.next, Nat.ble (h.next + c) 16777216 with
      | true, true, true => some (h.skip c)
      | _, _, _ => none)
    | false => some h
def endF (sq : Option Nat) (l : List (Nat × Blk)) (h : AH) : AH := match sq with | none => h | some _ => addS l h
def sidesF (sq : Option Nat) (rs : List Rec) : List (Nat × Blk) := match sq with | none => [] | some s => sides s rs 0

/-- Of the new blocks set apart those that an operation may look at. -/
def seenL (m s : Nat) : List (Nat × Blk) → List (Nat × Blk)
  | [] => []
  | (q, b) :: l => match Nat.testBit m (q - s) with | true => (q, b) :: seenL m s l | false => seenL m s l
def seenS (m : Nat) (sq : Option Nat) (l : List (Nat × Blk)) : List (Nat × Blk) := match sq with
  | none => []
  | some s => seenL m s l
def remS : List (Nat × Blk) → AH → AH
  | [], h => h
  | (s, _) :: r, h => remS r (h.put s none)
def seenH (l : List (Nat × Blk)) (h : AH) (ho : Option AH) : AH := { remS l (ho.getD (addS l h).locked) with lock := h.lock }

/-- The sides that an operation may not look at. -/
def restL (m s : Nat) : List (Nat × Blk) → List (Nat × Blk)
  | [] => []
  | (q, b) :: l => match Nat.testBit m (q - s) with | true => restL m s l | false => (q, b) :: restL m s l
def restS (m : Nat) (sq : Option Nat) (l : List (Nat × Blk)) : List (Nat × Blk) := match sq with
  | none => l
  | some s => restL m s l
/-- An operation that looks at new blocks set apart: an effect of its own. -/
def seenD (sq : Option Nat) (orc : Orc) (n : Nat) (ops : Array Oper) (ms : List Nat) (env0 : T (Option Value)) (i : Nat) (o : Oper) (os : List Oper) (rs : List Rec) (hs : List AH) (sd : List (Nat × Blk)) : Option (Rec × List AH) :=
  let m := ms.getD i 0
  let k := countE rs 0 m
  let env := hideLater n i ms os (i + 1) (envB n m rs 0 env0)
  match dstOk n o && pairsOk ops o m k rs (ops.toList) 0, hs[k]? with
  | true, some h => match wantedB n ops o env, allE (·.wr) m rs 0 && allE (fun r => r.fw && !Nat.ble k r.lq) m rs 0, Nat.beq (k + 1) hs.length with
    | some true, true, true => match opB P G ext orc n o env (addS (seenS m sq sd) h).locked with
      | some (v, ho) => some (⟨o.dst, v, k, true, false, false, false, 0, none, false⟩, hs ++ [seenH (seenS m sq sd) h ho])
      | none => none
    | _, _, _ => none
  | _, _ => none

/-- An operation that writes to new blocks set apart: they are entered for good. -/
def enterD (sq : Option Nat) (orc : Orc) (n : Nat) (ops : Array Oper) (ms : List Nat) (env0 : T (Option Value)) (i : Nat) (o : Oper) (os : List Oper) (rs : List Rec) (hs : List AH) (sd : List (Nat × Blk)) : Option (Rec × List AH) :=
  let m := ms.getD i 0
  let k := countE rs 0 m
  let env := hideLater n i ms os (i + 1) (envB n m rs 0 env0)
  match dstOk n o && pairsOk ops o m k rs (ops.toList) 0, hs[k]? with
  | true, some h => match wantedB n ops o env, allE (·.wr) m rs 0 && allE (fun r => r.fw && !Nat.ble k r.lq) m rs 0, Nat.beq (k + 1) hs.length && allE (fun r => !r.free) m rs 0 with
    | some true, true, true => match opB P G ext orc n o env (addS (seenS m sq sd) h) with
      | some (v, ho) => some (⟨o.dst, v, k, true, true, false, false, 1, none, false⟩, hs ++ [ho.getD (addS (seenS m sq sd) h)])
      | none => none
    | _, _, _ => none
  | _, _ => none

/-- The sides behind an operation that is run in the plain way. -/
def nextS (sq : Option Nat) (sd : List (Nat × Blk)) (i : Nat) (r : Rec) : List (Nat × Blk) := match sq with
  | none => sd
  | some s => match r.sd with | some b => sd ++ [(s + i, b)] | none => sd

def DrawGo (sq : Option Nat) (orc : Orc) (n : Nat) (ops : Array Oper) (ms : List Nat) (env0 : T (Option Value)) : Nat → List Oper → List Rec → List AH → List (Nat × Blk) → List Rec → List AH → List (Nat × Blk) → Prop
  | _, [], rs, hs, sd, RS, HS, SD => rs = RS ∧ hs = HS ∧ sd = SD
  | i, o :: os, rs, hs, sd, RS, HS, SD => ∃ r hs' sd', ((stepD P G ext sq orc n ops ms env0 i o os rs hs = some (r, hs') ∧ sd' = nextS sq sd i r) ∨ (seenD P G ext sq orc n ops ms env0 i o os rs hs sd = some (r, hs') ∧ sd' = sd) ∨
      (enterD P G ext sq orc n ops ms env0 i o os rs hs sd = some (r, hs') ∧ sd' = restS (ms.getD i 0) sq sd)) ∧ DrawGo sq orc n ops ms env0 (i + 1) os (rs ++ [r]) hs' sd' RS HS SD

def DrawB (sq : Option Nat) (orc : Orc) (n : Nat) (ops : Array Oper) (env : T (Option Value)) (h : AH) (r : T (Option Value) × AH) : Prop :=
  ∃ ms h1 rs hs sd h', masksB ops.toList [] = some ms ∧ skipF h sq ops.toList.length = some h1 ∧ DrawGo P G ext sq orc n ops ms env 0 ops.toList [] [h1] [] rs hs sd ∧ hs.getLast? = some h' ∧
    alD P G ext orc n ms env rs hs 0 ops.toList rs = true ∧ r = (putAll n rs env, endF sq sd h')

/-! The same statement, the orders looked at once and for all. -/

def pairA (ops : Array Oper) (o : Oper) (m : Nat) : List Oper → Nat → Bool
  | [], _ => true
  | p :: ps, j => (Nat.testBit m j || Oper.apart ops p o) && pairA ops o m ps (j + 1)

def statB (n : Nat) (ops : Array Oper) : List Oper → List Oper → List Nat → Bool
  | [], _, _ => true
  | _ :: _, _, [] => false
  | o :: os, done, m :: ms => dstOk n o && pairA ops o m done 0 && statB n ops os (done ++ [o]) ms

def cntF (m : Nat) : List (Nat × Nat) → Nat
  | [] => 0
  | (j, _) :: es => match Nat.testBit m j with | true => cntF m es + 1 | false => cntF m es
def chainF (m k : Nat) : List (Nat × Nat) → Nat → Bool
  | [], _ => true
  | (j, _) :: es, q => (Nat.testBit m j == Nat.blt q k) && chainF m k es (q + 1)
/-- 0: it turned no old block; 1: it did; q + 2: none that stood at the time q. -/
def wrF (m k : Nat) : List (Nat × Nat) → Bool
  | [] => true
  | (j, c) :: es => (match c with | 0 => true | 1 => Nat.testBit m j | q + 2 => Nat.ble k q || Nat.testBit m j) && wrF m k es
def nfF (m : Nat) : List (Nat × Nat) → Bool
  | [] => true
  | (j, _) :: js => Nat.testBit m j && nfF m js
def nqF (m q : Nat) : List (Nat × Nat) → Bool
  | [] => true
  | (j, k) :: js => (Nat.ble k q || Nat.testBit m j) && nqF m q js

def putF (dst : Option Tmp) (v : Value) (env : T (Option Value)) : T (Option Value) := match dst with | some d => T.set 12 env d (some v) | none => env

/-- What is kept on the way: the slots; the operations that turned memory (do they turn old blocks?); those that looked at memory; memory at each time. -/
structure Way where
  env : T (Option Value)
  es : List (Nat × Nat)
  nf : List (Nat × Nat)
  hs : List AH
  sd : List (Nat × Blk)
  al : List (Nat × Oper × Nat × Value × T (Option Value))

def writeF (orc : Orc) (n m i k : Nat) (o : Oper) (x : Way) (h : AH) : Option Way := match freshQ G n o x.env x.hs with
  | some q => match x.hs[q]?, Nat.beq (k + 1) x.hs.length && (Nat.ble q k && nqF m q x.nf) with
    | some h0, true => match Nat.ble h.lock h0.next, opB P G ext orc n o x.env (h.from h0.next) with
      | true, some (v, some h') => some ⟨putF o.dst v x.env, x.es ++ [(i, q + 2)], x.nf ++ [(i, k)], x.hs ++ [{ h' with lock := h.lock }], x.sd, x.al⟩
      | _, _ => none
    | _, _ => none
  | none => match Nat.beq (k + 1) x.hs.length && nfF m x.nf with
    | true => match opB P G ext orc n o x.env h with
      | some (v, ho) => some ⟨putF o.dst v x.env, x.es ++ [(i, 1)], x.nf ++ [(i, k)], x.hs ++ [ho.getD h], x.sd, x.al⟩
      | none => none
    | false => none

def growF (orc : Orc) (n m i k : Nat) (o : Oper) (x : Way) (h : AH) : Option Way := match opB P G ext orc n o x.env h.locked with
  | some (v, none) => some ⟨putF o.dst v x.env, x.es, x.nf ++ [(i, k)], x.hs, x.sd, x.al⟩
  | some (v, some h') => match Nat.beq (k + 1) x.hs.length with
    | true => some ⟨putF o.dst v x.env, x.es ++ [(i, 0)], x.nf ++ [(i, k)], x.hs ++ [{ h' with lock := h.lock }], x.sd, x.al⟩
    | false => none
  | none => writeF P G ext orc n m i k o x h

def stepF (sq : Option Nat) (orc : Orc) (n : Nat) (ops : Array Oper) (m i k : Nat) (o : Oper) (x : Way) : Option Way :=
  match chainF m k x.es 0, x.hs[k]? with
  | true, some h => match wantedB n ops o x.env with
    | some false => some ⟨putF o.dst undef x.env, x.es, x.nf, x.hs, x.sd, x.al⟩
    | some true => match sideF P G n o x.env sq with
     | some (b, kv, s) => some ⟨putF o.dst (kv (s + i)) x.env, x.es, x.nf, x.hs, x.sd ++ [(s + i, b)], x.al⟩
     | none => match loadF sq o.op with
      | true => match opB P G ext orc n o x.env h.locked with
       | some (v, none) => some ⟨putF o.dst v x.env, x.es, x.nf, x.hs, x.sd, x.al ++ [(i, o, k, v, x.env)]⟩
       | _ => none
      | false => match freeF P G ext orc n o x.env h with
      | some (v, none) => some ⟨putF o.dst v x.env, x.es, x.nf, x.hs, x.sd, x.al⟩
      | _ => match wrF m k x.es with
        | true => growF P G ext orc n m i k o x h
        | false => none
    | none => none
  | _, _ => none

def seenF (sq : Option Nat) (orc : Orc) (n : Nat) (ops : Array Oper) (m i k : Nat) (o : Oper) (x : Way) : Option Way :=
  match seenS m sq x.sd with
  | [] => none
  | _ :: _ => match chainF m k x.es 0, x.hs[k]? with
    | true, some h => match wantedB n ops o x.env, wrF m k x.es, Nat.beq (k + 1) x.hs.length with
      | some true, true, true => match opB P G ext orc n o x.env (addS (seenS m sq x.sd) h).locked with
        | some (v, ho) => some ⟨putF o.dst v x.env, x.es ++ [(i, 0)], x.nf ++ [(i, k)], x.hs ++ [seenH (seenS m sq x.sd) h ho], x.sd, x.al⟩
        | none => none
      | _, _, _ => none
    | _, _ => none

/-- An operation that writes to new blocks set apart: they are entered for good. -/
def enterF (sq : Option Nat) (orc : Orc) (n : Nat) (ops : Array Oper) (m i k : Nat) (o : Oper) (x : Way) : Option Way :=
  match seenS m sq x.sd with
  | [] => none
  | _ :: _ => match chainF m k x.es 0, x.hs[k]? with
    | true, some h => match wantedB n ops o x.env, wrF m k x.es, Nat.beq (k + 1) x.hs.length && nfF m x.nf with
      | some true, true, true => match opB P G ext orc n o x.env (addS (seenS m sq x.sd) h) with
        | some (v, ho) => some ⟨putF o.dst v x.env, x.es ++ [(i, 1)], x.nf ++ [(i, k)], x.hs ++ [ho.getD (addS (seenS m sq x.sd) h)], restS m sq x.sd, x.al⟩
        | none => none
      | _, _, _ => none
    | _, _ => none

def goF (sq : Option Nat) (orc : Orc) (n : Nat) (ops : Array Oper) : List Oper → List Nat → Nat → Way → Option Way
  | [], _, _, x => some x
  | _ :: _, [], _, _ => none
  | o :: os, m :: ms, i, x => match stepF P G ext sq orc n ops m i (cntF m x.es) o x with
    | some y => goF sq orc n ops os ms (i + 1) y
    | none => match seenF P G ext sq orc n ops m i (cntF m x.es) o x with
      | some y => goF sq orc n ops os ms (i + 1) y
      | none => match enterF P G ext sq orc n ops m i (cntF m x.es) o x with
        | some y => goF sq orc n ops os ms (i + 1) y
        | none => none

def limF (ms : List Nat) (i top : Nat) : List (Nat × Nat) → Nat → Nat
  | [], _ => top
  | (j, _) :: es, q => match Nat.testBit (ms.getD j 0) i with | true => q | false => limF ms i top es (q + 1)
def alF (orc : Orc) (n : Nat) (ms : List Nat) (es : List (Nat × Nat)) (hs : List AH) : List (Nat × Oper × Nat × Value × T (Option Value)) → Bool
  | [] => true
  | (i, o, k, v, env) :: l => alikeAt P G ext orc n o env (nextAt hs k) v (limF ms i hs.length es 0) (hs.drop k) k && alF orc n ms es hs l

def drawS (sq : Option Nat) (orc : Orc) (n : Nat) (ops : Array Oper) (env : T (Option Value)) (h : AH) : St :=
  match masksB ops.toList [], skipF h sq ops.toList.length with
  | some ms, some h1 => match statB n ops ops.toList [] ms with
    | true => match goF P G ext sq orc n ops ops.toList ms 0 ⟨env, [], [], [h1], [], []⟩ with
      | some x => match x.hs.getLast?, alF P G ext orc n ms x.es x.hs x.al with
        | some h', true => some (x.env, endF sq x.sd h')
        | _, _ => none
      | none => none
    | false => none
  | _, _ => none

/-- First with every effect in one chain; then the readers are held against every memory; then the new blocks that nothing looks at are set apart, too. -/
def drawF (orc : Orc) (n : Nat) (ops : Array Oper) (env : T (Option Value)) (h : AH) : St := match drawS P G ext none orc n ops env h with
  | some r => some r
  | none => match drawS P G ext (some 16777216) orc n ops env h with
    | some r => some r
    | none => drawS P G ext (some h.next) orc n ops env h

end

/-! Codes. -/
inductive Out where
  | normal
  | exit (id : Nat)
  | ret

abbrev CR := Option (Out × T (Option Value) × AH)

def iterB (body : T (Option Value) → AH → CR) (k : Nat) : T (Option Value) → AH → CR :=
  Nat.rec (motive := fun _ => T (Option Value) → AH → CR) (fun _ _ => none) (fun _ ih env h => match body env h with
    | some (.normal, env', h') => ih env' h'
    | r => r) k

theorem iterB_zero (body : T (Option Value) → AH → CR) (env : T (Option Value)) (h : AH) : iterB body 0 env h = none := rfl
theorem iterB_succ (body : T (Option Value) → AH → CR) (k : Nat) (env : T (Option Value)) (h : AH) : iterB body (k + 1) env h = (match body env h with
    | some (.normal, env', h') => iterB body k env' h'
    | r => r) := rfl

/-- What a code is carried out with. -/
abbrev KC := Program → Nat → (FuncId → Option Ext) → Orc → Nat → Nat → T (Option Value) → AH → CR

def cSkip : KC := fun _ _ _ _ _ _ env h => some (.normal, env, h)
def cNone : KC := fun _ _ _ _ _ _ _ _ => none
def cOps (ops : Array Oper) : KC := fun P G ext orc n _ env h => match opsB P G ext orc n ops ops.toList env h with | some (env', h') => some (.normal, env', h') | none => none
def cDraw (ops : Array Oper) : KC := fun P G ext orc n _ env h => match drawF P G ext orc n ops env h with | some (env', h') => some (.normal, env', h') | none => none
def cRegion (ops : Array Oper) (draw : Bool) : KC := match draw with | false => cOps ops | true => cDraw ops
def cSeq (a b : KC) : KC := fun P G ext orc n fuel env h => match a P G ext orc n fuel env h with
  | some (.normal, env', h') => b P G ext orc n fuel env' h'
  | r => r
def cCond (c : Operand) (a b : KC) : KC := fun P G ext orc n fuel env h => match ev G n env c with
  | some (.bool true) => a P G ext orc n fuel env h
  | some (.bool false) => b P G ext orc n fuel env h
  | _ => none
def cBlock (id : Nat) (c : KC) : KC := fun P G ext orc n fuel env h => match c P G ext orc n fuel env h with
  | some (.exit j, env', h') => match Nat.beq j id with | true => some (.normal, env', h') | false => some (.exit j, env', h')
  | r => r
def cLoop (c : KC) : KC := fun P G ext orc n fuel env h => iterB (c P G ext orc n fuel) fuel env h
def cExit (id : Nat) : KC := fun _ _ _ _ _ _ env h => some (.exit id, env, h)
def cRet : KC := fun _ _ _ _ _ _ env h => some (.ret, env, h)

/-- No loop over a function stands in it. -/
def noFunc (c : Code) : Bool := Code.rec (motive := fun _ => Bool) true (fun _ _ _ => true) (fun _ _ a b => a && b) (fun _ _ _ a b => a && b) (fun _ _ c => c)
  (fun _ c => c) (fun _ _ _ _ _ _ => false) (fun _ => true) (fun _ c => c) (fun _ => true) (fun _ => true) true (fun _ => true) c
/-- What a loop's pending jump comes to. -/
def jumpOut (c : Option Code) : Option Out := match c with | none => some .normal | some .ret => some .ret | some (.exit id) => some (.exit id) | _ => none
def outJump (o : Out) : Option Code := match o with | .normal => none | .ret => some .ret | .exit id => some (.exit id)

/-- The call of a function that is ranged over. -/
def seqB (P : Program) (orc : Orc) (h : AH) (f y : Value) : R := match f with
  | .func (.func g) ⟨first⟩ ⟨captured⟩ => match P.funcs[g]? with
    | some fn => match fn.body with
      | some _ => orc g (first ++ [y] ++ captured) h
      | none => none
    | none => none
  | _ => none

def cFunc (f : Operand) (ps : Array Tmp) (x y : Code) : KC := fun P G _ orc n _ env h => match noFunc x, noFunc y, Nat.ble h.lock h.next with
  | true, true, true => match ev G n env f with
    | some fv => match h.new (.loop env n ps x y .ready none) with
      | some (i, h1) => match seqB P orc h1 fv (.func (.yield i) ⟨[]⟩ ⟨[]⟩) with
        | some (_, ho) => match AH.get (ho.getD h1) i with
          | some (.loop _ _ _ _ _ .busy _) => none
          | some (.loop _ _ _ _ _ _ pend) => match jumpOut pend with
            | some out => some (out, env, AH.put (ho.getD h1) i none)
            | none => none
          | _ => none
        | none => none
      | none => none
    | none => none
  | _, _, _ => none

def codeA (c : Code) : KC := Code.rec (motive := fun _ => KC) cSkip (fun _ ops draw => cRegion ops draw) (fun _ _ a b => cSeq a b) (fun c _ _ a b => cCond c a b) (fun id _ c => cBlock id c)
  (fun _ c => cLoop c) (fun f ps x y _ _ => cFunc f ps x y) (fun id => cExit id) (fun _ c => c) (fun _ => cSkip) (fun _ => cNone) cRet (fun _ => cNone) c

section
variable (P : Program) (G : Nat) (ext : FuncId → Option Ext) (orc : Orc) (n fuel : Nat)

def codeB (c : Code) (env : T (Option Value)) (h : AH) : CR := codeA c P G ext orc n fuel env h

variable (env : T (Option Value)) (h : AH)
theorem codeB_skip : codeB P G ext orc n fuel .skip env h = some (.normal, env, h) := rfl
theorem codeB_ops (id : Nat) (ops : Array Oper) : codeB P G ext orc n fuel (.region id ops false) env h = (match opsB P G ext orc n ops ops.toList env h with | some (env', h') => some (.normal, env', h') | none => none) := rfl
theorem codeB_draw (id : Nat) (ops : Array Oper) : codeB P G ext orc n fuel (.region id ops true) env h = (match drawF P G ext orc n ops env h with | some (env', h') => some (.normal, env', h') | none => none) := rfl
theorem codeB_seq (a b : Code) : codeB P G ext orc n fuel (.seq a b) env h = (match codeB P G ext orc n fuel a env h with
    | some (.normal, env', h') => codeB P G ext orc n fuel b env' h'
    | r => r) := rfl
theorem codeB_cond (c : Operand) (a b : Code) : codeB P G ext orc n fuel (.cond c a b) env h = (match ev G n env c with
    | some (.bool true) => codeB P G ext orc n fuel a env h
    | some (.bool false) => codeB P G ext orc n fuel b env h
    | _ => none) := rfl
theorem codeB_block (id : Nat) (c : Code) : codeB P G ext orc n fuel (.block id c) env h = (match codeB P G ext orc n fuel c env h with
    | some (.exit j, env', h') => match Nat.beq j id with | true => some (.normal, env', h') | false => some (.exit j, env', h')
    | r => r) := rfl
theorem codeB_loop (c : Code) : codeB P G ext orc n fuel (.loop c) env h = iterB (codeB P G ext orc n fuel c) fuel env h := rfl
theorem codeB_func (f : Operand) (ps : Array Tmp) (a b : Code) : codeB P G ext orc n fuel (.rangeFunc f ps a b) env h = cFunc f ps a b P G ext orc n fuel env h := rfl
theorem codeB_exit (id : Nat) : codeB P G ext orc n fuel (.exit id) env h = some (.exit id, env, h) := rfl
theorem codeB_scope (c : Code) : codeB P G ext orc n fuel (.scope c) env h = codeB P G ext orc n fuel c env h := rfl
theorem codeB_label (l : Nat) : codeB P G ext orc n fuel (.label l) env h = some (.normal, env, h) := rfl
theorem codeB_goto (l : Nat) : codeB P G ext orc n fuel (.goto l) env h = none := rfl
theorem codeB_ret : codeB P G ext orc n fuel .ret env h = some (.ret, env, h) := rfl
theorem codeB_refuse (why : String) : codeB P G ext orc n fuel (.refuse why) env h = none := rfl
end

section
variable (P : Program) (n : Nat)

def setArgs : List Value → Nat → T (Option Value) → T (Option Value)
  | [], _, t => t
  | v :: vs, i, t => setArgs vs (i + 1) (T.set 12 t i (some v))

def resB (env : T (Option Value)) (h : AH) : List ResultVar → Option (List Value)
  | [] => some []
  | .tmp t :: rs => match Nat.blt t n with
    | true => match env.get t, resB env h rs with
      | some v, some vs => some (v :: vs)
      | _, _ => none
    | false => none
  | .cell a t :: rs => match Nat.blt a n with
    | true => match env.get a with
      | some p => match loadB P h t p, resB env h rs with
        | some v, some vs => some (v :: vs)
        | _, _ => none
      | none => none
    | false => none

def resV : List Value → Value
  | [v] => v
  | vs => .tuple vs.toArray

end

section
variable (P : Program) (G : Nat) (ext : FuncId → Option Ext) (fuel : Nat)

/-- A call of a function, by its body. -/
def bodyB (orc : Orc) (g : FuncId) (args : List Value) (h : AH) : Option (Value × AH) :=
  match P.funcs[g]? with
  | some fn => match fn.body with
    | some c => match Nat.ble args.length fn.ntmps, Nat.ble fn.ntmps 4096 with
      | true, true => match codeB P G ext orc fn.ntmps fuel c (setArgs args 0 (.leaf (some undef))) h with
        | some (.normal, env, h') => (resB P fn.ntmps env h' fn.results.toList).map fun vs => (resV vs, h')
        | some (.ret, env, h') => (resB P fn.ntmps env h' fn.results.toList).map fun vs => (resV vs, h')
        | _ => none
      | _, _ => none
    | none => none
  | none => none

/-- A call that writes to blocks of its caller. -/
def mutB (orc : Orc) : Orc := fun g args h => (bodyB P G ext fuel orc g args h).map fun (v, h') => (v, some h')
/-- A call that writes to no old block. -/
def overB (orc : Orc) : Orc := fun g args h => match bodyB P G ext fuel orc g args h.locked with
  | some (v, h') => match pureV v with
    | true => some (v, none)
    | false => some (v, some { h' with lock := h.lock })
  | none => none
def setParams (n : Nat) : List Tmp → List Value → T (Option Value) → T (Option Value)
  | t :: ts, v :: vs, env => match Nat.blt t n with
    | true => setParams n ts vs (T.set 12 env t (some v))
    | false => setParams n ts vs env
  | _, _, env => env

/-- A round of a loop over a function. -/
def yieldB (orc : Orc) (args : List Value) (h : AH) : R := match args with
  | .func (.yield i) ⟨[]⟩ ⟨[]⟩ :: rest => match AH.get h i with
    | some (.loop env n ps x y .ready _) => match AH.may h i, Nat.beq ps.size rest.length with
      | true, true => match codeB P G ext orc n fuel x (setParams n ps.toList rest env) h with
        | some (.normal, env1, h1) => match AH.get h1 i with
          | some (.loop env0 n0 ps0 x0 y0 .ready pend0) => match codeB P G ext orc n fuel y env1 (AH.put h1 i (some (.loop env0 n0 ps0 x0 y0 .busy pend0))) with
            | some (out, _, h2) => match AH.get h2 i with
              | some (.loop env3 n3 ps3 x3 y3 _ _) => match outJump out with
                | none => some (.bool true, some (AH.put h2 i (some (.loop env3 n3 ps3 x3 y3 .ready none))))
                | some c => some (.bool false, some (AH.put h2 i (some (.loop env3 n3 ps3 x3 y3 .done (some c)))))
              | _ => none
            | none => none
          | _ => none
        | _ => none
      | _, _ => none
    | _ => none
  | _ => none

/-- Calls within calls, down to a depth; 'base' answers first; 'mt' tells the functions that write to blocks of their callers (1), or may (2). -/
def deepB (base : Orc) (mt : FuncId → Nat) : Nat → Orc
  | 0 => fun g args h => match Nat.beq g yid with
    | true => none
    | false => base g args h
  | d + 1 => fun g args h => match Nat.beq g yid with
    | true => match P.funcs[yid]? with
      | none => yieldB P G ext fuel (deepB base mt d) args h
      | some _ => none
    | false => match base g args h with
      | some r => some r
      | none => match mt g with
        | 0 => overB P G ext fuel (deepB base mt d) g args h
        | 1 => match Nat.beq h.lock h.next with
          | true => none
          | false => mutB P G ext fuel (deepB base mt d) g args h
        | _ => match Nat.beq h.lock h.next with
          | true => overB P G ext fuel (deepB base mt d) g args h
          | false => mutB P G ext fuel (deepB base mt d) g args h
def noBase : Orc := fun _ _ _ => none

def findMemo (g : FuncId) (args : List Value) : List (FuncId × List Value × Value) → Option Value
  | [] => none
  | (f, a, v) :: r => match Nat.beq f g with
    | true => match sameL a args with | true => some v | false => findMemo g args r
    | false => findMemo g args r

/-- Calls whose answers are known. -/
def memo (l : List (FuncId × List Value × Value)) : Orc := fun g args h => match h.fl with
  | true => match findMemo g args l with | some v => some (v, none) | none => none
  | false => none

end
end
end Go.Proofs.YtibffohcmegooaaGreatDoor.V
