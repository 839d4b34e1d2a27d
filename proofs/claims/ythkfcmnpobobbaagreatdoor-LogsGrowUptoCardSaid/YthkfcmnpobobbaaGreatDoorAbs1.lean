/-
  An abstract machine over pure values, and that it tells what the program does (part 1 of 4).
-/
import Derived.Calls
import Derived.Orders
import Derived.Below
import Derived.WalkKit
import Derived.ChangeKeysEq
import Derived.LaidEqlPtr
import Derived.Lib.UnsafeStr

/-
  The abstract machine: values as trees, strings as lists of bytes, slices as lists; a heap of mutable objects by number; what each operation and each code does to them, as a predicate that simp can compute.
-/
namespace Go.Abs

/-- What is known of a slice's room behind its end: nothing; there is none; it belongs to the token 'id'. -/
inductive Tail where
  | unk
  | exact
  | lit
  | tok (id k : Nat) (ty : Option TypeId)

inductive AV where
  | junk
  | bool (b : Bool)
  | int (k : IntKind) (n : Int)
  | str (s : List UInt8)
  | ptr (id off : Nat)
  | rptr (cs : List AV)
  | gptr (g off : Nat)
  | tptr (T : TypeId) (sz id : Nat)
  | bp (ty : TypeId) (l : List UInt8)
  | snil
  | rs (id n k : Nat) (ty : Option TypeId)
  | nilp
  | sl (es : List (List AV)) (t : Tail)
  | ms (id off len k : Nat)
  | map (id : Nat)
  | nilmap
  | func (f : FuncId) (cap : List AV)
  | nilfunc
  | iface (t : TypeId) (v : AV)
  | nilIface
  | agg (cs : List AV)
  | tup (vs : List AV)

instance : Inhabited AV := ⟨.junk⟩

/-- A key of one cell. -/
inductive Key0 where
  | s (l : List UInt8)
  | i (n : Int)
  deriving DecidableEq
instance : Inhabited Key0 := ⟨.i 0⟩
inductive Key where
  | s (l : List UInt8)
  | i (n : Int)
  | t (l : List Key0)
  deriving DecidableEq
/-- Kinds of keys: strings, numbers, structs of such. -/
inductive KK0 where
  | str
  | int (k : IntKind)
  deriving DecidableEq
inductive KK where
  | str
  | int (k : IntKind)
  | st (l : List KK0)
  deriving DecidableEq

instance : Inhabited Key := ⟨.i 0⟩
def keyOf0 (kk : KK0) (x : AV) : Option Key0 :=
  match kk, x with
  | .str, .str l => some (.s l)
  | .int k, .int k' n => if k = k' then some (.i n) else none
  | _, _ => none
def keysOf0 : List KK0 → List AV → Option (List Key0)
  | [], [] => some []
  | k :: ks, x :: xs => match keyOf0 k x, keysOf0 ks xs with | some a, some l => some (a :: l) | _, _ => none
  | _, _ => none
/-- A key of a map. -/
def keyOf (kk : KK) (x : AV) : Option Key :=
  match kk, x with
  | .str, .str l => some (.s l)
  | .int k, .int k' n => if k = k' then some (.i n) else none
  | .st ks, .agg cs => (keysOf0 ks cs).map .t
  | _, _ => none
def Key0.av (k : KK0) : Key0 → AV
  | .s l => .str l
  | .i n => .int (match k with | .int j => j | .str => .i64) n
def avs0 : List KK0 → List Key0 → List AV
  | k :: ks, a :: l => a.av k :: avs0 ks l
  | _, _ => []
/-- A key as a value. -/
def Key.av (k : KK) : Key → AV
  | .s l => .str l
  | .i n => .int (match k with | .int j => j | _ => .i64) n
  | .t l => .agg (avs0 (match k with | .st ks => ks | _ => []) l)

/-- A value of one cell. -/
def AV.one : AV → Bool
  | .agg _ | .tup _ | .junk => false
  | _ => true

def AV.cells : AV → List AV
  | .agg cs => cs
  | v => [v]

def AV.isVal : AV → Bool
  | .tup _ | .junk => false
  | _ => true

inductive AObj where
  | cells (cs : List AV)
  | tail (n : Nat)
  | map (kk : KK) (es : List (Key × AV))
  | bmap (kk : KK) (es : List (Key × AV)) (bs : List Nat) (cl : Nat)
  | iter (m : Option Nat) (cl : Nat) (seen : List Nat)

abbrev Heap := Nat → Option AObj
def Heap.put (H : Heap) (id : Nat) (o : AObj) : Heap := fun i => if i = id then some o else H i
def Heap.del (H : Heap) (id : Nat) : Heap := fun i => if i = id then none else H i
def Heap.empty : Heap := fun _ => none

abbrev Regs := Nat → AV
def upd (r : Regs) (t : Nat) (v : AV) : Regs := fun i => if i = t then v else r i
def put (r : Regs) : Option Nat → AV → Regs
  | some t, v => upd r t v
  | none, _ => r

/-- A value of one cell. -/
def oneV : Value → Bool
  | .agg _ | .tuple _ => false
  | _ => true

def ofCell : Value → AV
  | .bool b => .bool b
  | .int k n => .int k n
  | .string s => .str s.data.toList
  | .pointer none => .nilp
  | .slice none 0 0 => .sl [] .exact
  | .map none => .nilmap
  | .nilFunc => .nilfunc
  | .nilIface => .nilIface
  | _ => .junk
/-- A nil slice, known as such. -/
def nilS : AV → AV
  | .sl [] .exact => .snil
  | v => v
def ofValue : Value → AV
  | .agg cs => if cs.toList.all oneV then .agg (cs.toList.map ofCell) else .junk
  | v => ofCell v

def ev (r : Regs) : Operand → AV
  | .tmp t => r t
  | .const v => ofValue v
  | .global g => .gptr g 0
  | .func f => .func f []

/-! ### Types -/
inductive TD where
  | other
  | bool
  | int (k : IntKind)
  | string
  | slice (elem : TypeId)
  | array (n : Nat) (elem : TypeId)
  | map (key elem : TypeId)
  | struct (fields : List (Nat × TypeId))
  | iface
  | pointer (e : TypeId)
  | uptr
  | blank
  deriving DecidableEq
def TD.of : TypeDesc → TD
  | .bool => .bool
  | .int k => .int k
  | .string => .string
  | .slice e => .slice e
  | .array n e => .array n e
  | .map k e => .map k e
  | .struct fs => if fs.toList.all (fun f => f.name != "_") then .struct (fs.toList.map fun f => (f.offset, f.type)) else .blank
  | .pointer e => .pointer e
  | .interface _ => .iface
  | .unsafePointer => .uptr
  | _ => .other
def TD.agg : TD → Bool
  | .struct _ | .array _ _ | .blank => true
  | _ => false
structure TI where
  size : Nat
  bytes : Nat
  zero : AV
  desc : TD
  held : Bool
  guard : Bool
def ti (P : Program) (t : TypeId) : Option TI :=
  match P.info? t, P.underlying t with
  | some i, some d => some { size := i.size, bytes := i.bytes, zero := (i.zero.map ofValue).getD .junk, desc := TD.of d, held := P.stoodInHeld t, guard := P.eqGuardType P.depth t }
  | _, _ => none

/-- Tables of Go's library that are package-level variables: what they hold when the call begins. -/
def tabList (name : String) : Option (IntKind × List Int) :=
  if name == "math/bits.deBruijn64tab" then some (.u8, [0, 1, 56, 2, 57, 49, 28, 3, 61, 58, 42, 50, 38, 29, 17, 4, 62, 47, 59, 36, 45, 43, 51, 22, 53, 39, 33, 30, 24, 18, 12, 5, 63, 55, 48, 27, 60, 41, 37, 16, 46, 35, 44, 21, 52, 32, 23, 11, 54, 26, 40, 15, 34, 20, 31, 10, 25, 14, 19, 9, 13, 8, 7, 6])
  else if name == "internal/strconv.uint64pow10" then some (.u64, [1, 10, 100, 1000, 10000, 100000, 1000000, 10000000, 100000000, 1000000000, 10000000000, 100000000000, 1000000000000, 10000000000000, 100000000000000, 1000000000000000, 10000000000000000, 100000000000000000, 1000000000000000000, 10000000000000000000])
  else none
def tabOf (P : Program) (g : Nat) : Option (IntKind × List Int) := match P.globals[g]? with | some v => tabList v.name | none => none
/-- Variables that hold an error, or nil: whether facts on them are had. -/
def sentList (n : String) : Bool := n == "strconv.ErrSyntax" || n == "strconv.ErrRange"
def sentOf (P : Program) (g : Nat) : Bool := match P.globals[g]? with | some v => sentList v.name | none => false
/-! ### Small words -/
def so (m : Option AV) (K : AV → Prop) : Prop :=
  match m with
  | some v => K v
  | none => False
def Unif (k : Nat) (es : List (List AV)) : Prop := ∀ e ∈ es, e.length = k
instance (k : Nat) (es : List (List AV)) : Decidable (Unif k es) := inferInstanceAs (Decidable (∀ e ∈ es, e.length = k))

/-- Reading a variable of so many cells out of the cells from its address on. -/
def readC (agg : Bool) (n : Nat) (l : List AV) : Option AV :=
  if agg then (if n ≤ l.length then some (.agg (l.take n)) else none) else l.head?
def writeC (cs : List AV) (off : Nat) (vs : List AV) : List AV :=
  match vs with
  | [v] => cs.set off v
  | vs => cs.take off ++ vs ++ cs.drop (off + vs.length)

/-! ### Pure operations -/
def binI (op : BinOp) (k : IntKind) (a b : Int) : Option AV :=
  match op with
  | .add => some (.int k (k.wrap (a + b)))
  | .sub => some (.int k (k.wrap (a - b)))
  | .mul => some (.int k (k.wrap (a * b)))
  | .quo => if b = 0 then none else some (.int k (k.wrap (a.tdiv b)))
  | .rem => if b = 0 then none else some (.int k (a.tmod b))
  | .and => some (.int k (k.wrap (BitVec.ofInt k.bits a &&& BitVec.ofInt k.bits b).toNat))
  | .or => some (.int k (k.wrap (BitVec.ofInt k.bits a ||| BitVec.ofInt k.bits b).toNat))
  | .xor => some (.int k (k.wrap (BitVec.ofInt k.bits a ^^^ BitVec.ofInt k.bits b).toNat))
  | .andNot => some (.int k (k.wrap (BitVec.ofInt k.bits a &&& ~~~(BitVec.ofInt k.bits b)).toNat))
  | .eql => some (.bool (decide (a = b)))
  | .neq => some (.bool (decide (a ≠ b)))
  | .lss => some (.bool (decide (a < b)))
  | .leq => some (.bool (decide (a ≤ b)))
  | .gtr => some (.bool (decide (b < a)))
  | .geq => some (.bool (decide (b ≤ a)))
  | _ => none
def shiftI (op : BinOp) (k : IntKind) (a b : Int) : Option AV :=
  if b < 0 then none else
  match op with
  | .shl => some (.int k (k.wrap (a * 2 ^ (min b.toNat k.bits))))
  | .shr => some (.int k (a.fdiv (2 ^ (min b.toNat k.bits))))
  | _ => none
def strLt : List UInt8 → List UInt8 → Bool := Op.bytesLess
def binS (op : BinOp) (a b : List UInt8) : Option AV :=
  match op with
  | .add => if ((a.length + b.length : Nat) : Int) ≤ 9223372036854775807 then some (.str (a ++ b)) else none
  | .eql => some (.bool (decide (a = b)))
  | .neq => some (.bool (decide (a ≠ b)))
  | .lss => some (.bool (strLt a b))
  | .leq => some (.bool (strLt a b || decide (a = b)))
  | .gtr => some (.bool (!(strLt a b || decide (a = b))))
  | .geq => some (.bool (!strLt a b))
  | _ => none
/-- Equality of structs, field by field. -/
def eqFields (P : Program) (f : TypeId → AV → AV → Option Bool) (a b : List AV) : List (Nat × TypeId) → Option Bool
  | [] => some true
  | (off, t) :: fs =>
    match ti P t with
    | some i =>
      match readC i.desc.agg i.size (a.drop off), readC i.desc.agg i.size (b.drop off) with
      | some u, some v =>
        match f t u v, eqFields P f a b fs with
        | some p, some q => some (p && q)
        | _, _ => none
      | _, _ => none
    | none => none
/-- Equality of arrays, element by element. -/
def eqItems (f : AV → AV → Option Bool) (i : TI) (a b : List AV) : List Nat → Option Bool
  | [] => some true
  | k :: ks =>
    match readC i.desc.agg i.size (a.drop (k * i.size)), readC i.desc.agg i.size (b.drop (k * i.size)) with
    | some u, some v =>
      match f u v, eqItems f i a b ks with
      | some p, some q => some (p && q)
      | _, _ => none
    | _, _ => none
def eqT (P : Program) : Nat → TypeId → AV → AV → Option Bool
  | 0, _, _, _ => none
  | n + 1, t, x, y =>
    match ti P t with
    | some i =>
      match i.desc, x, y with
      | .bool, .bool a, .bool b => some (a == b)
      | .int _, .int k a, .int k' b => if k = k' then some (decide (a = b)) else none
      | .string, .str a, .str b => some (decide (a = b))
      | .struct fs, .agg a, .agg b => if i.held = false then eqFields P (eqT P n) a b fs else none
      | .array m e, .agg a, .agg b => (match ti P e with | some j => eqItems (eqT P n e) j a b (List.range m) | none => none)
      | _, _, _ => none
    | none => none
def isC : Operand → Bool
  | .const _ => true
  | _ => false
/-- x == y where neither is a number nor a string. -/
def eqA (P : Program) (t : TypeId) (cx cy : Bool) (x y : AV) : Option Bool :=
  match ti P t with
  | some i =>
    match i.desc, x, y with
    | .bool, .bool a, .bool b => some (a == b)
    | .iface, .iface _ _, .nilIface => some false
    | .iface, .nilIface, .iface _ _ => some false
    | .iface, .nilIface, .nilIface => if cx || cy then some true else none
    | .pointer _, .ptr _ _, .nilp => some false
    | .pointer _, .rptr _, .nilp => some false
    | .pointer _, .tptr _ _ _, .nilp => some false
    | .pointer e, .tptr _ _ a, .tptr _ _ b => if a = b ∧ (ti P e).isSome = true then some true else none
    | .pointer _, .nilp, .nilp => some true
    | .struct _, .agg _, .agg _ => if i.guard = false then eqT P 6 t x y else none
    | .array _ _, .agg _, .agg _ => if i.guard = false then eqT P 6 t x y else none
    | _, _, _ => none
  | none => none
def bin (P : Program) (op : BinOp) (t : TypeId) (cx cy : Bool) (x y : AV) : Option AV :=
  match x, y with
  | .int k a, .int k' b =>
    match op with
    | .shl => shiftI .shl k a b
    | .shr => shiftI .shr k a b
    | op => if k = k' then binI op k a b else none
  | .str a, .str b => binS op a b
  | x, y =>
    match op with
    | .eql => (eqA P t cx cy x y).map .bool
    | .neq => (eqA P t cx cy x y).map fun b => .bool (!b)
    | _ => none
def un (op : UnOp) (x : AV) : Option AV :=
  match op, x with
  | .not, .bool b => some (.bool (!b))
  | .neg, .int k n => some (.int k (k.wrap (0 - n)))
  | _, _ => none
def fieldOf (P : Program) (s : TypeId) (f : Nat) : Option (Nat × TI) :=
  match ti P s with
  | some i =>
    match i.desc with
    | .struct fs =>
      match fs[f]? with
      | some (off, t) => (ti P t).map fun i => (off, i)
      | none => none
    | _ => none
  | none => none
def fieldA (P : Program) (s : TypeId) (x : AV) (f : Nat) : Option AV :=
  match fieldOf P s f, x with
  | some (off, i), .agg cs => readC i.desc.agg i.size (cs.drop off)
  | _, _ => none
def fieldAddrA (P : Program) (s : TypeId) (x : AV) (f : Nat) : Option AV :=
  match fieldOf P s f with
  | some (off, i) =>
    if i.size = 0 then none else
    match x with
    | .ptr id o => some (.ptr id (o + off))
    | .rptr cs => some (.rptr (cs.drop off))
    | .tptr _ _ id => some (.ptr id off)
    | _ => none
  | none => none
def descOf (P : Program) (t : TypeId) : TD :=
  match ti P t with
  | some i => i.desc
  | none => .other
/-- The elements of a slice type, of an array type. -/
def sliceE (P : Program) (t : TypeId) : Option TI :=
  match descOf P t with
  | .slice e => ti P e
  | _ => none
def arrayE (P : Program) (t : TypeId) : Option (Nat × TI) :=
  match descOf P t with
  | .array n e => (ti P e).map fun i => (n, i)
  | _ => none
def indexAddrA (P : Program) (t : TypeId) (x i : AV) : Option AV :=
  match x, i with
  | .ms id off len k, .int _ n =>
    match sliceE P t with
    | some e => if 0 ≤ n ∧ n < len ∧ k = e.size then some (.ptr id (off + n.toNat * k)) else none
    | none => none
  | .sl es _, .int _ n =>
    match sliceE P t with
    | some e => if 0 ≤ n ∧ Unif e.size es ∧ 0 < e.size then (es[n.toNat]?).map .rptr else none
    | none => none
  | .ptr id off, .int _ n =>
    match arrayE P t with
    | some (len, e) => if 0 ≤ n ∧ n < len then some (.ptr id (off + n.toNat * e.size)) else none
    | none => none
  | .rptr cs, .int _ n =>
    match arrayE P t with
    | some (len, e) => if 0 ≤ n ∧ n < len then some (.rptr (cs.drop (n.toNat * e.size))) else none
    | none => none
  | .gptr g off, .int _ n =>
    match arrayE P t with
    | some (len, e) => if 0 ≤ n ∧ n < len then some (.gptr g (off + n.toNat * e.size)) else none
    | none => none
  | _, _ => none
def indexA (P : Program) (t : TypeId) (x i : AV) : Option AV :=
  match x, i with
  | .str s, .int _ n => if 0 ≤ n ∧ descOf P t = .string then (s[n.toNat]?).map fun b => .int .u8 b.toNat else none
  | .agg cs, .int _ n =>
    match arrayE P t with
    | some (len, e) => if 0 ≤ n ∧ n < len then readC e.desc.agg e.size (cs.drop (n.toNat * e.size)) else none
    | none => none
  | _, _ => none
def intOf (d : Int) (r : Regs) : Option Operand → Option Int
  | none => some d
  | some x => match ev r x with | .int _ n => some n | _ => none
def convA (P : Program) (src dst : TypeId) (x : AV) : Option AV :=
  match descOf P dst, x with
  | .int k, .int _ n => if descOf P src = .other then none else some (.int k (k.wrap n))
  | .string, .str s => if descOf P src = .string then some (.str s) else none
  | _, _ => none
/-- Filling the parts of a literal in. -/
def fillA (place : Nat → Option (Nat × Nat)) : List AV → List (Nat × AV) → Option (List AV)
  | cs, [] => some cs
  | cs, (i, v) :: rest =>
    match place i with
    | some (off, size) => if v.isVal = true ∧ v.cells.length = size ∧ off + size ≤ cs.length then fillA place (writeC cs off v.cells) rest else none
    | none => none
def placesL (P : Program) : List (Nat × TypeId) → Option (List (Nat × Nat))
  | [] => some []
  | (off, t) :: fs =>
    match ti P t, placesL P fs with
    | some i, some l => some ((off, i.size) :: l)
    | _, _ => none
def zeroOf (P : Program) (t : TypeId) : AV := match ti P t with | some i => i.zero | none => .junk
def buildA (P : Program) (t : TypeId) (parts : List (Nat × AV)) : Option AV :=
  match descOf P t, zeroOf P t with
  | .struct fs, .agg z =>
    match placesL P fs with
    | some pl => (fillA (fun i => pl[i]?) z parts).map .agg
    | none => none
  | .array _ e, .agg z =>
    match ti P e with
    | some i => (fillA (fun j => some (j * i.size, i.size)) z parts).map .agg
    | none => none
  | _, _ => none
/-- A literal's room: of bytes, it is known that nobody owns the block. -/
def litT : TD → Tail
  | .int .u8 => .lit
  | _ => .exact
/-- What is known of the room behind a part of a slice. -/
def cutTail (lo hi : Option Operand) (t : Tail) : Tail :=
  match lo, hi, t with
  | none, none, t => t
  | some _, none, .exact => .exact
  | _, _, _ => .unk
def sliceA (P : Program) (r : Regs) (t : TypeId) (x : AV) (lo hi mx : Option Operand) : Option AV :=
  match x, intOf 0 r lo with
  | .str s, some l =>
    match intOf s.length r hi, mx with
    | some h, none => if descOf P t = .string ∧ 0 ≤ l ∧ l ≤ h ∧ h ≤ s.length then some (.str ((s.take h.toNat).drop l.toNat)) else none
    | _, _ => none
  | .ms id off len k, some l =>
    match sliceE P t, intOf len r hi, mx with
    | some i, some h, none => if 0 ≤ l ∧ l ≤ h ∧ h ≤ len ∧ k = i.size then some (.ms id (off + l.toNat * k) (h - l).toNat k) else none
    | _, _, _ => none
  | .rs id n k ty, some l =>
    match sliceE P t, intOf n r hi, mx, lo with
    | some i, some h, none, none => if l = 0 ∧ h = 0 ∧ k = i.size then some (.sl [] (.tok id k ty)) else none
    | _, _, _, _ => none
  | .sl es t', some l =>
    match sliceE P t, intOf es.length r hi with
    | some i, some h =>
      if 0 ≤ l ∧ l ≤ h ∧ h ≤ es.length ∧ Unif i.size es then
        match hi, mx with
        | _, none => some (.sl ((es.take h.toNat).drop l.toNat) (cutTail lo hi t'))
        | some _, some m => match ev r m with
          | .int _ m => if m = h then some (.sl ((es.take h.toNat).drop l.toNat) .exact) else none
          | _ => none
        | none, some _ => none
      else none
    | _, _ => none
  | _, _ => none

end Go.Abs

/-
  What an abstract value says of a value in a world, what an abstract heap says of a world; what a call of a Go function is at the level of the abstract machine.
-/
namespace Go.Abs
open Go.RowKit

structure Cx where
  β : Nat → Nat
  n : Nat
  base : Nat

def AObj.owns : AObj → Nat → Prop
  | .tail m, off => m ≤ off
  | _, _ => True

def Owned (C : Cx) (H : Heap) (b off : Nat) : Prop := ∃ id o, H id = some o ∧ C.β id = b ∧ o.owns off
def RO (C : Cx) (H : Heap) (w : World) (b off : Nat) : Prop := b < w.heap.size ∧ ¬ Owned C H b off

def TailOK (C : Cx) (H : Heap) (w : World) (a : Option Addr) (cap len : Nat) : Tail → Prop
  | .unk => True
  | .exact => cap = len
  | .lit => cap = len ∧ ∃ b off ty sz, a = some ⟨b, off, none⟩ ∧ C.base ≤ b ∧ w.shape? b = some (ty, sz) ∧ RO C H w b sz
  | .tok id k tyo => id < C.n ∧ a = some ⟨C.β id, 0, none⟩ ∧ ∃ ty sz, w.shape? (C.β id) = some (ty, sz) ∧ cap * k ≤ sz ∧ (∀ u, tyo = some u → ty = u) ∧ C.base ≤ C.β id

inductive Repr (C : Cx) (H : Heap) (w : World) : AV → Value → Prop
  | junk (v : Value) : Repr C H w .junk v
  | bool (b : Bool) : Repr C H w (.bool b) (.bool b)
  | int (k : IntKind) (n : Int) : Repr C H w (.int k n) (.int k n)
  | str (l : List UInt8) (s : ByteArray) (h : s.data.toList = l) : Repr C H w (.str l) (.string s)
  | ptr (id off : Nat) (h : id < C.n) : Repr C H w (.ptr id off) (.pointer (some ⟨C.β id, off, none⟩))
  | rptr (cs : List AV) (b off : Nat) (us : Nat → Value)
      (hc : ∀ j, j < cs.length → w.cell? ⟨b, off + j, none⟩ = some (us j) ∧ oneV (us j) = true ∧ RO C H w b (off + j))
      (hr : ∀ j, j < cs.length → Repr C H w (cs.getD j .junk) (us j)) : Repr C H w (.rptr cs) (.pointer (some ⟨b, off, none⟩))
  | gptr (g off : Nat) : Repr C H w (.gptr g off) (.pointer (some ⟨g, off, none⟩))
  | snil : Repr C H w .snil (.slice none 0 0)
  | rs (id n k cap : Nat) (ty : Option TypeId) (h : id < C.n) (hn : n ≤ cap) (hs : ∃ u sz, w.shape? (C.β id) = some (u, sz) ∧ cap * k ≤ sz ∧ (∀ v, ty = some v → u = v) ∧ C.base ≤ C.β id) : Repr C H w (.rs id n k ty) (.slice (some ⟨C.β id, 0, none⟩) n cap)
  | tptr (T : TypeId) (sz id : Nat) (h : id < C.n) (hs : w.shape? (C.β id) = some (T, sz)) : Repr C H w (.tptr T sz id) (.pointer (some ⟨C.β id, 0, none⟩))
  | bp (ty : TypeId) (l : List UInt8) (p : Option Addr) (h : l ≠ [] → ∃ b sz, p = some ⟨b, 0, none⟩ ∧ C.base ≤ b ∧ w.shape? b = some (ty, sz) ∧ l.length ≤ sz ∧ ∀ j x, l[j]? = some x → w.cell? ⟨b, j, none⟩ = some (.int .u8 x.toNat) ∧ RO C H w b j) : Repr C H w (.bp ty l) (.pointer p)
  | nilp : Repr C H w .nilp (.pointer none)
  | sl (es : List (List AV)) (t : Tail) (a : Option Addr) (cap b off : Nat) (us : Nat → Value)
      (ha : 0 < es.flatten.length → a = some ⟨b, off, none⟩)
      (hc : ∀ j, j < es.flatten.length → w.cell? ⟨b, off + j, none⟩ = some (us j) ∧ oneV (us j) = true ∧ RO C H w b (off + j))
      (hr : ∀ j, j < es.flatten.length → Repr C H w (es.flatten.getD j .junk) (us j))
      (hl : es.length ≤ cap) (ht : TailOK C H w a cap es.length t) : Repr C H w (.sl es t) (.slice a es.length cap)
  | ms (id off len k : Nat) (a : Option Addr) (cap : Nat) (h : id < C.n) (ha : 0 < cap → a = some ⟨C.β id, off, none⟩) (hl : len ≤ cap)
      (hs : ∃ ty sz, w.shape? (C.β id) = some (ty, sz) ∧ off + cap * k ≤ sz) : Repr C H w (.ms id off len k) (.slice a len cap)
  | map (id : Nat) (h : id < C.n) : Repr C H w (.map id) (.map (some (C.β id)))
  | nilmap : Repr C H w .nilmap (.map none)
  | func (f : FuncId) (cap : List AV) (vs : Array Value) (hs : cap.length = vs.size)
      (hr : ∀ j, j < cap.length → Repr C H w (cap.getD j .junk) (vs.getD j default)) : Repr C H w (.func f cap) (.func (.func f) #[] vs)
  | nilfunc : Repr C H w .nilfunc .nilFunc
  | iface (t : TypeId) (x : AV) (v : Value) (hr : Repr C H w x v) : Repr C H w (.iface t x) (.iface t v)
  | nilIface : Repr C H w .nilIface .nilIface
  | agg (cs : List AV) (vs : Array Value) (hs : cs.length = vs.size)
      (ho : ∀ j, j < cs.length → oneV (vs.getD j default) = true)
      (hr : ∀ j, j < cs.length → Repr C H w (cs.getD j .junk) (vs.getD j default)) : Repr C H w (.agg cs) (.agg vs)
  | tup (cs : List AV) (vs : Array Value) (hs : cs.length = vs.size)
      (hr : ∀ j, j < cs.length → Repr C H w (cs.getD j .junk) (vs.getD j default)) : Repr C H w (.tup cs) (.tuple vs)

structure Le (C : Cx) (H : Heap) (w : World) (C' : Cx) (H' : Heap) (w' : World) : Prop where
  n : C.n ≤ C'.n
  β : ∀ id, id < C.n → C'.β id = C.β id
  base : C'.base = C.base
  shape : ∀ b s, w.shape? b = some s → w'.shape? b = some s
  ro : ∀ b off, RO C H w b off → RO C' H' w' b off ∧ w'.cell? ⟨b, off, none⟩ = w.cell? ⟨b, off, none⟩
  below : Below C.base w w'

theorem Le.refl (C : Cx) (H : Heap) (w : World) : Le C H w C H w :=
  ⟨Nat.le_refl _, fun _ _ => rfl, rfl, fun _ _ h => h, fun _ _ h => ⟨h, rfl⟩, Below.refl _ _⟩
theorem Le.trans {C C' C'' : Cx} {H H' H'' : Heap} {w w' w'' : World} (h : Le C H w C' H' w') (k : Le C' H' w' C'' H'' w'') : Le C H w C'' H'' w'' :=
  ⟨Nat.le_trans h.n k.n, fun id hid => (k.β id (Nat.lt_of_lt_of_le hid h.n)).trans (h.β id hid), k.base.trans h.base,
    fun b s hs => k.shape b s (h.shape b s hs),
    fun b off hr => ⟨(k.ro b off (h.ro b off hr).1).1, (k.ro b off (h.ro b off hr).1).2.trans (h.ro b off hr).2⟩,
    h.below.trans (by have := k.below; rwa [h.base] at this)⟩

section
variable {C C' : Cx} {H H' : Heap} {w w' : World}

theorem TailOK.mono (hle : Le C H w C' H' w') {a : Option Addr} {cap len : Nat} {t : Tail} (h : TailOK C H w a cap len t) : TailOK C' H' w' a cap len t := by
  cases t with
  | unk => trivial
  | exact => exact h
  | lit =>
    obtain ⟨h1, b, off, ty, sz, h2, h3, h4, h5⟩ := h
    exact ⟨h1, b, off, ty, sz, h2, by rw [hle.base]; exact h3, hle.shape _ _ h4, (hle.ro _ _ h5).1⟩
  | tok id k tyo =>
    obtain ⟨h1, h2, ty, sz, h3, h4, h5, h6⟩ := h
    have hb := hle.β id h1
    exact ⟨Nat.lt_of_lt_of_le h1 hle.n, by rw [hb]; exact h2, ty, sz, by rw [hb]; exact hle.shape _ _ h3, h4, h5, by rw [hb, hle.base]; exact h6⟩

theorem Repr.mono (hle : Le C H w C' H' w') {x : AV} {v : Value} (h : Repr C H w x v) : Repr C' H' w' x v := by
  induction h with
  | junk v => exact .junk v
  | bool b => exact .bool b
  | int k n => exact .int k n
  | str l s h => exact .str l s h
  | ptr id off h => rw [← hle.β id h]; exact .ptr id off (Nat.lt_of_lt_of_le h hle.n)
  | rptr cs b off us hc hr ih =>
    exact .rptr cs b off us (fun j hj => by
      obtain ⟨h1, h2, h3⟩ := hc j hj
      obtain ⟨h4, h5⟩ := hle.ro _ _ h3
      exact ⟨h5.trans h1, h2, h4⟩) ih
  | gptr g off => exact .gptr g off
  | snil => exact .snil
  | rs id n k cap ty h hn hs =>
    obtain ⟨u, sz, h1, h2, h3, h4⟩ := hs
    rw [← hle.β id h]
    exact .rs id n k cap ty (Nat.lt_of_lt_of_le h hle.n) hn ⟨u, sz, by rw [hle.β id h]; exact hle.shape _ _ h1, h2, h3, by rw [hle.β id h, hle.base]; exact h4⟩
  | tptr T sz id h hs => rw [← hle.β id h]; exact .tptr T sz id (Nat.lt_of_lt_of_le h hle.n) (by rw [hle.β id h]; exact hle.shape _ _ hs)
  | bp ty l p h =>
    refine .bp ty l p fun hl => ?_
    obtain ⟨b, sz, h1, h2, h3, h4, h5⟩ := h hl
    exact ⟨b, sz, h1, by rw [hle.base]; exact h2, hle.shape _ _ h3, h4, fun j x hj => ⟨((hle.ro _ _ (h5 j x hj).2).2).trans (h5 j x hj).1, (hle.ro _ _ (h5 j x hj).2).1⟩⟩
  | nilp => exact .nilp
  | sl es t a cap b off us ha hc hr hl ht ih =>
    exact .sl es t a cap b off us ha (fun j hj => by
      obtain ⟨h1, h2, h3⟩ := hc j hj
      obtain ⟨h4, h5⟩ := hle.ro _ _ h3
      exact ⟨h5.trans h1, h2, h4⟩) ih hl (ht.mono hle)
  | ms id off len k a cap h ha hl hs =>
    obtain ⟨ty, sz, h3, h4⟩ := hs
    have hb := hle.β id h
    exact .ms id off len k a cap (Nat.lt_of_lt_of_le h hle.n) (by rw [hb]; exact ha) hl ⟨ty, sz, by rw [hb]; exact hle.shape _ _ h3, h4⟩
  | map id h => rw [← hle.β id h]; exact .map id (Nat.lt_of_lt_of_le h hle.n)
  | nilmap => exact .nilmap
  | func f cap vs hs hr ih => exact .func f cap vs hs ih
  | nilfunc => exact .nilfunc
  | iface t x v hr ih => exact .iface t x v ih
  | nilIface => exact .nilIface
  | agg cs vs hs ho hr ih => exact .agg cs vs hs ho ih
  | tup cs vs hs hr ih => exact .tup cs vs hs ih
end

def keyV0 : KK0 → Key0 → Value → Prop
  | .str, .s l, v => ∃ s : ByteArray, v = .string s ∧ s.data.toList = l
  | .int k, .i n, v => v = .int k n
  | _, _, _ => False
def keyVs : List KK0 → List Key0 → List Value → Prop
  | [], [], [] => True
  | k :: ks, a :: l, v :: vs => keyV0 k a v ∧ keyVs ks l vs
  | _, _, _ => False
def keyV : KK → Key → Value → Prop
  | .str, .s l, v => ∃ s : ByteArray, v = .string s ∧ s.data.toList = l
  | .int k, .i n, v => v = .int k n
  | .st ks, .t l, v => ∃ vs : Array Value, v = .agg vs ∧ keyVs ks l vs.toList
  | _, _, _ => False

/-- Entries of a map, one by one; their stamps rise. -/
def EntriesOK (C : Cx) (H : Heap) (w : World) (kk : KK) (es : List (Key × AV)) (fs : List MapEntry) : Prop :=
  es.length = fs.length ∧ ∀ j, j < es.length → keyV kk (es.getD j default).1 (fs.getD j default).key ∧ Repr C H w (es.getD j default).2 (fs.getD j default).val

/-- No cell from 'lo' to 'hi' is frozen. -/
def Unfz (fr : Nat × Nat) (lo hi : Nat) : Prop := ∀ o, lo ≤ o → o < hi → ¬ (fr.1 ≤ o ∧ o < fr.2)
/-- What is frozen lies ahead of 'm'. -/
def Pfx (fr : Nat × Nat) (m : Nat) : Prop := fr.1 = fr.2 ∨ (fr.1 = 0 ∧ fr.2 ≤ m)
theorem Pfx.unfz {fr : Nat × Nat} {m : Nat} (h : Pfx fr m) (n : Nat) : Unfz fr m n := by
  intro o h1 h2 h3
  rcases h with h | h <;> omega
theorem Pfx.mono {fr : Nat × Nat} {m n : Nat} (h : Pfx fr m) (hmn : m ≤ n) : Pfx fr n := by
  rcases h with h | h
  · exact .inl h
  · exact .inr ⟨h.1, by omega⟩
def ObjOK (C : Cx) (H : Heap) (w : World) (b : Nat) : AObj → Prop
  | .cells cs => ∃ arr ty fr, w.heap[b]? = some (.cells arr ty fr) ∧ cs.length ≤ arr.size ∧
      (∀ j, j < cs.length → oneV (arr.getD j default) = true ∧ Repr C H w (cs.getD j .junk) (arr.getD j default)) ∧ Unfz fr 0 arr.size
  | .tail m => ∃ arr ty fr, w.heap[b]? = some (.cells arr ty fr) ∧ m ≤ arr.size ∧ Pfx fr m
  | .map kk es => ∃ (fs : Array MapEntry) (clock : Nat), w.heap[b]? = some (.map fs clock) ∧ EntriesOK C H w kk es fs.toList ∧
      (fs.toList.map (·.born)).Pairwise (· < ·) ∧ ∀ f ∈ fs.toList, f.born < clock
  | .bmap kk es bs cl => ∃ (fs : Array MapEntry), w.heap[b]? = some (.map fs cl) ∧ EntriesOK C H w kk es fs.toList ∧ fs.toList.map (·.born) = bs ∧
      (fs.toList.map (·.born)).Pairwise (· < ·) ∧ ∀ f ∈ fs.toList, f.born < cl
  | .iter m cl seen => ∃ sa : Array Nat, w.heap[b]? = some (.mapIter (m.map C.β) cl sa cl) ∧ sa.toList = seen ∧ ∀ id, m = some id → id < C.n

/-- The world holds the tables. -/
def TabN (P : Program) (base : Nat) (w : World) : Prop := ∀ g k zs, tabOf P g = some (k, zs) → g < base ∧ ∃ ty fr, w.heap[g]? = some (.cells (zs.map (Value.int k)).toArray ty fr)
def TabE (P : Program) (base : Nat) (w : World) : Prop := ∀ g, sentOf P g = true → g < base ∧ ∃ v, w.cell? ⟨g, 0, none⟩ = some v ∧ (v = .nilIface ∨ ∃ t p, v = .iface t p)
def Tab (P : Program) (base : Nat) (w : World) : Prop := TabN P base w ∧ TabE P base w
theorem Tab.le {P : Program} {C C' : Cx} {H H' : Heap} {w w' : World} (h : Tab P C.base w) (hle : Le C H w C' H' w') : Tab P C'.base w' := by
  refine ⟨fun g k zs hg => ?_, fun g hg => ?_⟩
  · obtain ⟨h1, h2⟩ := h.1 g k zs hg
    rw [hle.base]
    exact ⟨h1, by rw [hle.below.block g h1]; exact h2⟩
  · obtain ⟨h1, v, h2, h3⟩ := h.2 g hg
    rw [hle.base]
    exact ⟨h1, v, by rw [hle.below.cell (p := ⟨g, 0, none⟩) h1]; exact h2, h3⟩
theorem TabN.cell {P : Program} {base : Nat} {w : World} (h : TabN P base w) {g : Nat} {k : IntKind} {zs : List Int} (hg : tabOf P g = some (k, zs)) (j : Nat) (z : Int) (hj : zs[j]? = some z) : w.cell? ⟨g, j, none⟩ = some (.int k z) := by
  obtain ⟨-, ty, fr, e⟩ := h g k zs hg
  unfold World.cell?
  rw [e]
  simp [hj]
structure Rel (P : Program) (C : Cx) (H : Heap) (w : World) : Prop where
  live : ∀ id o, H id = some o → id < C.n ∧ C.base ≤ C.β id ∧ ObjOK C H w (C.β id) o
  inj : ∀ i j oi oj, H i = some oi → H j = some oj → C.β i = C.β j → i = j
  base : C.base ≤ w.heap.size
  tab : Tab P C.base w

def ReprL (C : Cx) (H : Heap) (w : World) (xs : List AV) (vs : List Value) : Prop :=
  xs.length = vs.length ∧ ∀ j, j < xs.length → Repr C H w (xs.getD j .junk) (vs.getD j default)

def Post (P : Program) (C : Cx) (H : Heap) (w : World) (R : AV → Heap → Prop) (e : Ending) (w' : World) : Prop :=
  ∃ C' H' x v, e = .returned v ∧ Rel P C' H' w' ∧ Le C H w C' H' w' ∧ Repr C' H' w' x v ∧ R x H'

def CallsNext (P : Program) (w : World) (R : Ending → World → Prop) : Result Next → Prop
  | .ok (.enter f args) w' => w' = w ∧ Calls P f args w R
  | .ok (.value v) w' => R (.returned v) w'
  | _ => False

/-- A call of function 'f' with these arguments, in whatever world that looks like H: it returns, and R holds of what it returns and of the abstract heap then. -/
structure ACalls (P : Program) (f : FuncId) (args : List AV) (H : Heap) (R : AV → Heap → Prop) : Prop where
  call : ∀ C w vs, Rel P C H w → ReprL C H w args vs → CallsNext P w (Post P C H w R) ((callFunc f vs.toArray).run P w)

theorem Post.mono {P : Program} {C : Cx} {H : Heap} {w : World} {R R' : AV → Heap → Prop} (hR : ∀ x H', R x H' → R' x H') {e : Ending} {w' : World} (h : Post P C H w R e w') : Post P C H w R' e w' := by
  obtain ⟨C', H', x, v, h1, h2, h3, h4, h5⟩ := h
  exact ⟨C', H', x, v, h1, h2, h3, h4, hR _ _ h5⟩
theorem CallsNext.mono {P : Program} {w : World} {R R' : Ending → World → Prop} (hR : ∀ e w', R e w' → R' e w') {x : Result Next} (h : CallsNext P w R x) : CallsNext P w R' x := by
  unfold CallsNext at *
  split at h
  · exact ⟨h.1, h.2.mono hR⟩
  · exact hR _ _ h
  · exact h.elim
theorem ACalls.mono {P : Program} {f : FuncId} {args : List AV} {H : Heap} {R R' : AV → Heap → Prop} (h : ACalls P f args H R) (hR : ∀ x H', R x H' → R' x H') : ACalls P f args H R' :=
  ⟨fun C w vs hr hv => (h.call C w vs hr hv).mono fun _ _ hp => hp.mono hR⟩

end Go.Abs

/-
  What each operation, each region and each code does to an abstract state: a predicate, by recursion over the code.
-/
namespace Go.Abs

abbrev K1 := AV → Heap → Prop

/-- Functions whose answer is known, and that leave the heap alone: by their numbers. -/
abbrev Pures := FuncId → Option (List AV → Option AV)

/-- How a proof steers the machine: the orders of a region that draws, where its own order is not the only one; which appends make a slice that can be written. -/
inductive OT where
  | done
  | any
  | seg (l : List Nat) (t : OT)
  | or (a b : OT)
structure Steer where
  orders : Nat → Option (List (List Nat)) := fun _ => none
  tree : Nat → Option OT := fun _ => none
  ms : Nat → Bool := fun _ => false
  pure : Pures := fun _ => none

def newId (H : Heap) (K : Nat → Prop) : Prop := ∀ id, H id = none → K id

def aAlloc (P : Program) (ms : Bool) (t : TypeId) (H : Heap) (K : K1) : Prop :=
  match ti P t with
  | some i => i.zero.isVal = true ∧ if ms = true then i.zero.cells.length = i.size ∧ newId H fun id => K (.tptr t i.size id) (H.put id (.cells (i.zero.cells.map nilS))) else newId H fun id => K (.ptr id 0) (H.put id (.cells i.zero.cells))
  | none => False
def aBox (x : AV) (H : Heap) (K : K1) : Prop := x.isVal = true ∧ newId H fun id => K (.ptr id 0) (H.put id (.cells x.cells))
def cellsAt (o : Option AObj) (K : List AV → Prop) : Prop :=
  match o with
  | some (.cells cs) => K cs
  | _ => False
def mapAt (o : Option AObj) (K : KK → List (Key × AV) → Prop) : Prop :=
  match o with
  | some (.map kk es) => K kk es
  | _ => False
def aLoad (P : Program) (t : TypeId) (a : AV) (H : Heap) (K : K1) : Prop :=
  match ti P t with
  | some i =>
    match a with
    | .ptr id off => cellsAt (H id) fun cs => so (readC i.desc.agg i.size (cs.drop off)) fun v => K v H
    | .rptr cs => so (readC i.desc.agg i.size cs) fun v => K v H
    | .gptr g off => (match tabOf P g with | some (k, zs) => so (readC i.desc.agg i.size ((zs.map (AV.int k)).drop off)) fun v => K v H | none => False)
    | _ => False
  | none => False
def aStore (P : Program) (t : TypeId) (a x : AV) (H : Heap) (K : K1) : Prop :=
  match ti P t with
  | some i =>
    match a with
    | .ptr id off => cellsAt (H id) fun cs => x.isVal = true ∧ x.cells.length = i.size ∧ off + i.size ≤ cs.length ∧ K .junk (H.put id (.cells (writeC cs off x.cells)))
    | _ => False
  | none => False
def fillE (k : Nat) : List (List AV) → List (Nat × AV) → Option (List (List AV))
  | es, [] => some es
  | es, (i, v) :: rest => if v.isVal = true ∧ v.cells.length = k ∧ i < es.length then fillE k (es.set i v.cells) rest else none
def aBuildSlice (P : Program) (t : TypeId) (len : Nat) (parts : List (Nat × AV)) (H : Heap) (K : K1) : Prop :=
  match sliceE P t with
  | some e =>
    e.zero.isVal = true ∧ e.zero.cells.length = e.size ∧ e.size ≠ 0 ∧ len * e.size ≤ 16777216 ∧
    match fillE e.size (List.replicate len e.zero.cells) parts with
    | some es => K (.sl es (litT e.desc)) H
    | none => False
  | none => False

/-- The elements of what is appended or copied. -/
def srcOf (k : Nat) (x : AV) (H : Heap) (K : List (List AV) → Prop) : Prop :=
  match x with
  | .sl es _ => Unif k es ∧ K es
  | .str s => k = 1 ∧ K (s.map fun b => [.int .u8 b.toNat])
  | .ms id off len j => j = k ∧ cellsAt (H id) fun cs => off + len * k ≤ cs.length ∧ K ((List.range len).map fun i => (cs.drop (off + i * k)).take k)
  | _ => False
/-- The elements' type. -/
def elemT (P : Program) (t : TypeId) : Option TypeId := match descOf P t with | .slice u => some u | _ => none
/-- The type of the room, where it is known. -/
def tokT (P : Program) (t : TypeId) (ty : Option TypeId) : Option TypeId := if ty = elemT P t then ty else none
def aAppend (P : Program) (ms : Bool) (t : TypeId) (s x : AV) (H : Heap) (K : K1) : Prop :=
  match sliceE P t with
  | some e =>
    e.size ≠ 0 ∧ e.zero.isVal = true ∧ e.zero.cells.length = e.size ∧
    srcOf e.size x H fun new =>
      match s with
      | .sl es (.tok id k ty) => k = e.size ∧ Unif k es ∧ H id = some (.tail (es.length * k)) ∧ (es.length + new.length) * e.bytes ≤ 140737488355328 ∧ es.length + new.length ≤ 4611686018427387904 ∧
          newId H fun id' => K (.sl (es ++ new) (.tok id' k (tokT P t ty))) ((H.del id).put id' (.tail ((es.length + new.length) * k)))
      | .sl es .exact =>
          (new = [] → K (.sl es .exact) H) ∧
          (new ≠ [] → Unif e.size es ∧ (es.length + new.length) * e.bytes ≤ 140737488355328 ∧ es.length + new.length ≤ 4611686018427387904 ∧
            newId H fun id' => if ms = true then K (.ms id' 0 (es.length + new.length) e.size) (H.put id' (.cells (es ++ new).flatten))
              else K (.sl (es ++ new) (.tok id' e.size (elemT P t))) (H.put id' (.tail ((es.length + new.length) * e.size))))
      | .sl es .lit =>
          (new = [] → K (.sl es .lit) H) ∧
          (new ≠ [] → Unif e.size es ∧ (es.length + new.length) * e.bytes ≤ 140737488355328 ∧ es.length + new.length ≤ 4611686018427387904 ∧
            newId H fun id' => K (.sl (es ++ new) (.tok id' e.size (elemT P t))) (H.put id' (.tail ((es.length + new.length) * e.size))))
      | .snil =>
          (new = [] → K .snil H) ∧
          (new ≠ [] → new.length * e.bytes ≤ 140737488355328 ∧ new.length ≤ 4611686018427387904 ∧
            newId H fun id' => K (.sl new (.tok id' e.size (elemT P t))) (H.put id' (.tail (new.length * e.size))))
      | .ms id off len k => k = e.size ∧ off = 0 ∧ (len + new.length) * e.bytes ≤ 140737488355328 ∧ len + new.length ≤ 4611686018427387904 ∧
          cellsAt (H id) fun cs => cs.length = len * k ∧ newId H fun id' => K (.ms id' 0 (len + new.length) k) ((H.del id).put id' (.cells (cs ++ new.flatten)))
      | _ => False
  | none => False
def aCopy0 (P : Program) (t : TypeId) (x : AV) (H : Heap) (K : K1) : Prop := match sliceE P t, x with | some _, .snil => K (.int .i64 0) H | _, _ => False
def aCopy1 (P : Program) (t : TypeId) (d x : AV) (H : Heap) (K : K1) : Prop :=
  match sliceE P t with
  | some e =>
    srcOf e.size x H fun new =>
      match d with
      | .ms id off len k => k = e.size ∧ cellsAt (H id) fun cs => off + len * k ≤ cs.length ∧
          K (.int .i64 (min new.length len : Nat)) (H.put id (.cells (writeC cs off (new.take len).flatten)))
      | _ => False
  | none => False
def aCopy (P : Program) (t : TypeId) (d x : AV) (H : Heap) (K : K1) : Prop := match d with
  | .sl [] _ => aCopy0 P t x H K
  | d => aCopy1 P t d x H K
def mget (es : List (Key × AV)) (k : Key) : Option AV := (es.find? fun e => e.1 = k).map (·.2)
def mset : List (Key × AV) → Key → AV → List (Key × AV)
  | [], k, v => [(k, v)]
  | e :: es, k, v => if e.1 = k then (k, v) :: es else e :: mset es k v
def mdel : List (Key × AV) → Key → List (Key × AV)
  | [], _ => []
  | e :: es, k => if e.1 = k then es else e :: mdel es k
def keyK (kk : KK) (x : AV) (K : Key → Prop) : Prop :=
  match keyOf kk x with
  | some k => K k
  | none => False
/-- A map type with keys that are strings or numbers: which, and the elements. -/
def flatK (P : Program) : Nat → List (Nat × TypeId) → Option (List KK0)
  | _, [] => some []
  | n, (off, t) :: fs =>
    if off = n then
      match descOf P t, flatK P (n + 1) fs with
      | .string, some l => some (.str :: l)
      | .int j, some l => some (.int j :: l)
      | _, _ => none
    else none
def kkOf (P : Program) (k : TypeId) : Option KK :=
  match ti P k with
  | some i =>
    match i.desc with
    | .string => some .str
    | .int j => some (.int j)
    | .struct fs => if i.held = false then (flatK P 0 fs).map .st else none
    | _ => none
  | none => none
def mapE (P : Program) (t : TypeId) : Option (KK × TI) :=
  match descOf P t with
  | .map k e =>
    match kkOf P k, ti P e with
    | some kk, some i => some (kk, i)
    | _, _ => none
  | _ => none
def aMakeMap (P : Program) (t : TypeId) (H : Heap) (K : K1) : Prop :=
  match mapE P t with
  | some (kk, _) => newId H fun id => K (.map id) (H.put id (.map kk []))
  | none => False
def aLookup (P : Program) (t : TypeId) (m k : AV) (ok : Bool) (H : Heap) (K : K1) : Prop :=
  match mapE P t with
  | some (kt, e) => e.zero.isVal = true ∧
    match m with
    | .map id => mapAt (H id) fun kk es => kk = kt ∧ keyK kk k fun key =>
      if ok then K (.tup [(mget es key).getD e.zero, .bool (mget es key).isSome]) H else K ((mget es key).getD e.zero) H
    | .nilmap => keyK kt k fun _ => if ok then K (.tup [e.zero, .bool false]) H else K e.zero H
    | _ => False
  | none => False
def aUpdate (P : Program) (t : TypeId) (m k x : AV) (H : Heap) (K : K1) : Prop :=
  match mapE P t with
  | some (kt, _) =>
    match m with
    | .map id => mapAt (H id) fun kk es => kk = kt ∧ keyK kk k fun key => K .junk (H.put id (.map kk (mset es key x)))
    | _ => False
  | none => False
def aDelete (P : Program) (t : TypeId) (m k : AV) (H : Heap) (K : K1) : Prop :=
  match mapE P t with
  | some (kt, _) =>
    match m with
    | .map id => mapAt (H id) fun kk es => kk = kt ∧ keyK kk k fun key => K (.tup []) (H.put id (.map kk (mdel es key)))
    | .nilmap => keyK kt k fun _ => K (.tup []) H
    | _ => False
  | none => False
def aMakeSlice (P : Program) (t : TypeId) (l c : AV) (H : Heap) (K : K1) : Prop :=
  match sliceE P t, l, c with
  | some e, .int _ l, .int _ c =>
    e.zero.isVal = true ∧ e.zero.cells.length = e.size ∧ e.size ≠ 0 ∧ 0 ≤ l ∧ c * e.bytes ≤ 140737488355328 ∧ c ≤ 4611686018427387904 ∧
    ((l = c ∧ newId H fun id => K (.ms id 0 l.toNat e.size) (H.put id (.cells (List.replicate l.toNat e.zero.cells).flatten))) ∨
     (l = 0 ∧ 0 ≤ c ∧ newId H fun id => K (.sl [] (.tok id e.size (elemT P t))) (H.put id (.tail 0))))
  | _, _, _ => False
/-- The entry of a map whose value is to be written. -/
def aEntry (P : Program) (t : TypeId) (m k : AV) (H : Heap) (K : K1) : Prop :=
  match mapE P t with
  | some (kt, e) => e.zero.isVal = true ∧
    match m with
    | .map id => mapAt (H id) fun kk es => kk = kt ∧ keyK kk k fun key => ∀ (es' : List (Key × AV)) (j : Nat) (v : AV) (bs : List Nat) (b cl : Nat),
        ((mget es key = none ∧ es' = es ++ [(key, e.zero)] ∧ j = es.length ∧ v = e.zero) ∨ (mget es key = some v ∧ es' = es ∧ es[j]? = some (key, v))) →
        bs.length = es'.length → bs.Nodup → bs[j]? = some b → K (.tup [v, .int .i64 b]) (H.put id (.bmap kk es' bs cl))
    | _ => False
  | none => False
def aEntryStore (m s x : AV) (H : Heap) (K : K1) : Prop :=
  match m, s with
  | .map id, .int _ n =>
    match H id with
    | some (.bmap kk es bs _) => ∃ (j : Nat) (b : Nat) (e : Key × AV), bs[j]? = some b ∧ es[j]? = some e ∧ (b : Int) = n ∧ K .junk (H.put id (.map kk (es.set j (e.1, x))))
    | _ => False
  | _, _ => False
def aRange (P : Program) (t : TypeId) (x : AV) (H : Heap) (K : K1) : Prop :=
  match descOf P t with
  | .map _ _ =>
    match x with
    | .map id => mapAt (H id) fun kk es => ∀ bs cl, bs.length = es.length → bs.Nodup → newId H fun it => K (.ptr it 0) ((H.put id (.bmap kk es bs cl)).put it (.iter (some id) cl []))
    | .nilmap => newId H fun it => K (.ptr it 0) (H.put it (.iter none 0 []))
    | _ => False
  | _ => False
def aNext (x : AV) (H : Heap) (K : K1) : Prop :=
  match x with
  | .ptr it 0 =>
    match H it with
    | some (.iter none _ _) => K (.tup [.bool false]) H
    | some (.iter (some m) cl seen) =>
      match H m with
      | some (.bmap kk es bs cl') => cl' = cl ∧ (∀ (j : Nat) (k : Key) (v : AV) (b : Nat), es[j]? = some (k, v) → bs[j]? = some b → b ∉ seen → K (.tup [.bool true, k.av kk, v]) (H.put it (.iter (some m) cl (seen ++ [b])))) ∧
          ((∀ b ∈ bs, b ∈ seen) → K (.tup [.bool false]) H ∨ K (.tup [.bool false]) (H.put m (.map kk es)))
      | _ => False
    | _ => False
  | _ => False
/-- The entry at which an iterator stands. -/
def aHere (x : AV) (H : Heap) (K : K1) : Prop :=
  match x with
  | .ptr it 0 =>
    match H it with
    | some (.iter (some m) cl seen) =>
      match H m with
      | some (.bmap kk es bs cl') => cl' = cl ∧ ∃ (b j : Nat) (k : Key) (v : AV), seen.getLast? = some b ∧ bs[j]? = some b ∧ es[j]? = some (k, v) ∧ K (.tup [k.av kk, v]) H
      | _ => False
    | _ => False
  | _ => False
/-- The array that a slice is cut of: the variable itself, or what a pointer leads to. -/
def arrOf (P : Program) (t : TypeId) : Option (Nat × TI) :=
  match descOf P t with
  | .pointer a => arrayE P a
  | _ => arrayE P t
/-- A part of an array in the heap. -/
def aSlice (P : Program) (r : Regs) (t : TypeId) (x : AV) (lo hi mx : Option Operand) (H : Heap) (K : K1) : Prop :=
  match x with
  | .ptr id off =>
    match arrOf P t, intOf 0 r lo, mx with
    | some (n, e), some l, none =>
      match intOf n r hi with
      | some h => 0 ≤ l ∧ l ≤ h ∧ h ≤ n ∧ cellsAt (H id) fun cs => off + n * e.size ≤ cs.length ∧ K (.ms id (off + l.toNat * e.size) (h - l).toNat e.size) H
      | none => False
    | _, _, _ => False
  | x => so (sliceA P r t x lo hi mx) fun v => K v H
/-- Between strings and slices of bytes. -/
def isBytes (P : Program) (t : TypeId) : Bool := match sliceE P t with | some e => decide (e.desc = .int .u8) | none => false
def isStr : AV → Bool
  | .str _ => true
  | _ => false
def isU (P : Program) (src dst : TypeId) : Bool := decide (descOf P src = .uptr) || decide (descOf P dst = .uptr)
def aConvU (P : Program) (src dst : TypeId) (x : AV) (H : Heap) (K : K1) : Prop :=
  match x with
  | .tptr T sz id => (match ti P T with | some i => (descOf P src = .pointer T ∧ descOf P dst = .uptr ∨ descOf P src = .uptr ∧ descOf P dst = .pointer T) ∧ ¬ i.size = 0 ∧ i.size = sz ∧ K (.tptr T sz id) H | none => False)
  | _ => False
def aConv (P : Program) (src dst : TypeId) (x : AV) (H : Heap) (K : K1) : Prop :=
  if isBytes P dst = true ∧ descOf P src = .string then
    match x with
    | .str s => newId H fun id => K (.ms id 0 s.length 1) (H.put id (.cells (s.map fun b => .int .u8 b.toNat)))
    | _ => False
  else if isBytes P src = true ∧ descOf P dst = .string then
    isStr x = false ∧ srcOf 1 x H fun es => ∃ l : List UInt8, es = (l.map fun b => [.int .u8 b.toNat]) ∧ K (.str l) H
  else if isU P src dst = true then aConvU P src dst x H K
  else if src = dst ∧ isBytes P src = true then (match x with | .sl es .lit => K (.sl es .exact) H | _ => False)
  else so (convA P src dst x) fun v => K v H

def lenT (P : Program) (ts : List TypeId) (x : AV) : Option AV :=
  match ts with
  | [t] => match descOf P t, x with
    | .array n _, _ => some (.int .i64 n)
    | .string, .str s => some (.int .i64 s.length)
    | .slice _, .sl es _ => some (.int .i64 es.length)
    | .slice _, .snil => some (.int .i64 0)
    | .slice _, .ms _ _ n _ => some (.int .i64 n)
    | _, _ => none
  | _ => none
def minG (k : IntKind) (a : Int) : List AV → Option AV
  | [] => some (.int k a)
  | .int _ b :: r => minG k (if b < a then b else a) r
  | _ => none
def minA : List AV → Option AV
  | .int k a :: r => minG k a r
  | _ => none
def maxG (k : IntKind) (a : Int) : List AV → Option AV
  | [] => some (.int k a)
  | .int _ b :: r => maxG k (if a < b then b else a) r
  | _ => none
def maxA : List AV → Option AV
  | .int k a :: r => maxG k a r
  | _ => none
/-- Is it a map type? -/
def isMap (P : Program) (ts : List TypeId) : Bool := match ts with | [t] => (match descOf P t with | .map _ _ => true | _ => false) | _ => false
def aLen (P : Program) (ts : List TypeId) (x : AV) (H : Heap) (K : K1) : Prop :=
  if isMap P ts = true then
    match x with
    | .map id => mapAt (H id) fun _ es => K (.int .i64 es.length) H
    | .nilmap => K (.int .i64 0) H
    | _ => False
  else so (lenT P ts x) fun v => K v H
/-- What is appended is a slice or a string. -/
def appT (P : Program) (t : TypeId) : Bool := match descOf P t with | .slice _ | .string => true | _ => false
/-- unsafe.SliceData of bytes; unsafe.String. -/
def u8s : List (List AV) → Option (List UInt8)
  | [] => some []
  | [.int .u8 n] :: es => if n = ((UInt8.ofNat n.toNat).toNat : Int) then (u8s es).map (UInt8.ofNat n.toNat :: ·) else none
  | _ => none
def sliceDataA (x : AV) : Option AV :=
  match x with
  | .snil => some (.bp 0 [])
  | .sl es (.tok _ k (some ty)) => if k = 1 ∧ es ≠ [] then (u8s es).map (.bp ty) else none
  | _ => none
def sliceDataL : List AV → Option AV
  | [x] => sliceDataA x
  | _ => none
def capL (P : Program) (ts : List TypeId) (xs : List AV) : Option AV :=
  match xs, ts with
  | [.snil], [t] => (match descOf P t with | .slice _ => some (.int .i64 0) | _ => none)
  | _, _ => none
def aUString (P : Program) (pt : TypeId) (p n : AV) (H : Heap) (K : K1) : Prop :=
  match p, n with
  | .bp ty l, .int .i64 n => n = l.length ∧ l.length ≤ 9223372036854775807 ∧ (l ≠ [] → descOf P pt = .pointer ty ∧ (ti P ty).map (·.size) = some 1) ∧ K (.str l) H
  | _, _ => False
/-- Zeroes all over a slice of one's own. -/
def aClear (P : Program) (t : TypeId) (x : AV) (H : Heap) (K : K1) : Prop :=
  match sliceE P t, x with
  | some e, .ms id off len k => k = e.size ∧ e.zero.isVal = true ∧ e.zero.cells.length = e.size ∧ e.size ≠ 0 ∧ cellsAt (H id) fun cs => off + len * k ≤ cs.length ∧ K (.tup []) (H.put id (.cells (writeC cs off (List.replicate len e.zero.cells).flatten)))
  | _, _ => False
def aBuiltin (P : Program) (ms : Bool) (b : Builtin) (ts : List TypeId) (xs : List AV) (H : Heap) (K : K1) : Prop :=
  match b, xs, ts with
  | .len, [x], ts => aLen P ts x H K
  | .append, [s, x], [t, t'] => appT P t' = true ∧ aAppend P ms t s x H K
  | .copy, [d, x], [t, _] => aCopy P t d x H K
  | .delete, [m, k], [t, _] => aDelete P t m k H K
  | .min, xs, _ => so (minA xs) fun v => K v H
  | .max, xs, _ => so (maxA xs) fun v => K v H
  | .unsafeSliceData, xs, _ => so (sliceDataL xs) fun v => K v H
  | .cap, xs, ts => so (capL P ts xs) fun v => K v H
  | .unsafeString, [p, n], [pt, _] => aUString P pt p n H K
  | .clear, [x], [t] => aClear P t x H K
  | _, _, _ => False
def callG (P : Program) (g : FuncId) (s : Option (List AV → Option AV)) (xs : List AV) (H : Heap) (K : K1) : Prop :=
  match s with
  | some s => so (s xs) fun v => K v H
  | none => ACalls P g xs H K
def aCallV (P : Program) (pu : Pures) (f : AV) (xs : List AV) (H : Heap) (K : K1) : Prop :=
  match f with
  | .func g cap => callG P g (pu g) (xs ++ cap) H K
  | _ => False
/-- In a function whose set of known functions has this number, whatever is called by way of a register has a known answer. -/
def isDyn (pu : Pures) : Bool := (pu 999999999).isSome
def isTmpO : Operand → Bool
  | .tmp _ => true
  | _ => false
def callP (pu : Pures) (f : AV) (xs : List AV) : Option AV :=
  match f with
  | .func g cap => (pu g).bind fun s => s (xs ++ cap)
  | _ => none
def aCallD (P : Program) (pu : Pures) (d : Bool) (f : AV) (xs : List AV) (H : Heap) (K : K1) : Prop :=
  match d with
  | true => so (callP pu f xs) fun v => K v H
  | false => aCallV P pu f xs H K
/-- The contracts of the functions whose answer is known. -/
def PuOK (P : Program) (pu : Pures) : Prop := ∀ g s, pu g = some s → ∀ xs v, s xs = some v → ∀ H, ACalls P g xs H fun x H' => x = v ∧ H' = H
def nilChk (x : AV) : Option AV :=
  match x with
  | .ptr .. | .rptr .. | .tptr .. | .func .. => some x
  | _ => none
def pickA (c a b : AV) : Option AV := match c with | .bool t => some (if t then a else b) | _ => none
def extractA (x : AV) (i : Nat) : Option AV := match x with | .tup vs => vs[i]? | _ => none
def ifaceA (P : Program) (t : TypeId) (x : AV) : Option AV :=
  match ti P t with
  | some i => if i.desc = .iface then none else some (.iface t x)
  | none => none
def funcA (fn : Fn) (first captured : List AV) : Option AV := match fn, first with | .func f, [] => some (.func f captured) | _, _ => none

/-- The operations that neither read nor write the heap. -/
def pop (P : Program) (r : Regs) (o : Op) : Option AV :=
  match o with
  | .move x | .assign x => some (ev r x)
  | .pick c a b => pickA (ev r c) (ev r a) (ev r b)
  | .binOp op t x y _ => bin P op t (isC x) (isC y) (ev r x) (ev r y)
  | .unOp op _ x => un op (ev r x)
  | .field t x f => fieldA P t (ev r x) f
  | .fieldAddr t x f => fieldAddrA P t (ev r x) f
  | .index t x i => indexA P t (ev r x) (ev r i)
  | .indexAddr t x i => indexAddrA P t (ev r x) (ev r i)
  | .slice t x lo hi mx => sliceA P r t (ev r x) lo hi mx
  | .extract x i => extractA (ev r x) i
  | .nilCheck x => nilChk (ev r x)
  | .makeFunc fn first captured => funcA fn (first.toList.map (ev r)) (captured.toList.map (ev r))
  | .makeInterface t x => ifaceA P t (ev r x)
  | .build t parts => buildA P t (parts.toList.map fun p => (p.1, ev r p.2))
  | .call { callee := .builtin .len, args := xs, argTypes := ts } =>
    match xs.toList.map (ev r) with
    | [x] => lenT P ts.toList x
    | _ => none
  | .call { callee := .builtin .min, args := xs, .. } => minA (xs.toList.map (ev r))
  | .call { callee := .builtin .max, args := xs, .. } => maxA (xs.toList.map (ev r))
  | .call { callee := .builtin .unsafeSliceData, args := xs, .. } => sliceDataL (xs.toList.map (ev r))
  | .call { callee := .builtin .cap, args := xs, argTypes := ts } => capL P ts.toList (xs.toList.map (ev r))
  | .convert src dst x => convA P src dst (ev r x)
  | _ => none
/-- Is it a test of a slice for nil? An empty slice may be nil or not: both are asked. -/
def nilArg : Op → Option (Operand × Bool)
  | .binOp .eql _ x (.const (.slice none 0 0)) _ => some (x, false)
  | .binOp .neq _ x (.const (.slice none 0 0)) _ => some (x, true)
  | _ => none
def isSlice (P : Program) (t : TypeId) : Bool := match descOf P t with | .slice _ => true | _ => false
def aNil (x : AV) (neg : Bool) (H : Heap) (K : K1) : Prop :=
  match x with
  | .sl es _ => (es.flatten = [] → K (.bool (!neg)) H) ∧ K (.bool neg) H
  | .ms _ _ len _ => (len = 0 → K (.bool (!neg)) H) ∧ K (.bool neg) H
  | _ => False
def aop (P : Program) (pu : Pures) (ms : Bool) (r : Regs) (H : Heap) (o : Op) (K : K1) : Prop :=
  match o with
  | .alloc t => aAlloc P ms t H K
  | .box _ x => aBox (ev r x) H K
  | .load t a => aLoad P t (ev r a) H K
  | .store t a x => aStore P t (ev r a) (ev r x) H K
  | .buildSlice t len parts => aBuildSlice P t len (parts.toList.map fun p => (p.1, ev r p.2)) H K
  | .makeMap t none => aMakeMap P t H K
  | .makeSlice t l c => aMakeSlice P t (ev r l) (ev r c) H K
  | .lookup t m k ok => aLookup P t (ev r m) (ev r k) ok H K
  | .mapUpdate t m k x => aUpdate P t (ev r m) (ev r k) (ev r x) H K
  | .insert t m k x => aUpdate P t (ev r m) (ev r k) (ev r x) H K
  | .slice t x lo hi mx => aSlice P r t (ev r x) lo hi mx H K
  | .mapEntry t m k => aEntry P t (ev r m) (ev r k) H K
  | .entryStore _ m s x => aEntryStore (ev r m) (ev r s) (ev r x) H K
  | .range t x => aRange P t (ev r x) H K
  | .next x false => aNext (ev r x) H K
  | .entry x => aHere (ev r x) H K
  | .convert src dst x => aConv P src dst (ev r x) H K
  | .call { callee := .value f, args := xs, .. } => aCallD P pu (isTmpO f && isDyn pu) (ev r f) (xs.toList.map (ev r)) H K
  | .call { callee := .builtin b, args := xs, argTypes := ts } => aBuiltin P ms b ts.toList (xs.toList.map (ev r)) H K
  | .binOp b t x y u => match nilArg (.binOp b t x y u) with
    | some (z, neg) => isSlice P t = true ∧ aNil (ev r z) neg H K
    | none => so (pop P r (.binOp b t x y u)) fun v => K v H
  | o => so (pop P r o) fun v => K v H

/-- Is operation 'o' wanted? What its guard's operation left in its slot. -/
def wantedA (ops : List Oper) (r : Regs) (g : Option (Nat × Bool)) (Ky Kn : Prop) : Prop :=
  match g with
  | none => Ky
  | some (j, want) =>
    match (ops[j]?).bind (·.dst) with
    | some d => match r d with
      | .bool b => if b = want then Ky else Kn
      | .tup [] => Kn
      | _ => False
    | none => False
def msOf (X : Steer) (d : Option Nat) : Bool := match d with | some t => X.ms t | none => false
/-- The operations of a region, in the order of a list of their numbers. -/
def aops (P : Program) (X : Steer) (all : List Oper) : List Nat → Regs → Heap → (Regs → Heap → Prop) → Prop
  | [], r, H, K => K r H
  | i :: rest, r, H, K =>
    match all[i]? with
    | some o => wantedA all r o.guard (aop P X.pure (msOf X o.dst) r H o.op fun v H' => aops P X all rest (put r o.dst v) H' K) (aops P X all rest (put r o.dst (.tup [])) H K)
    | none => False

/-- One operation, and what is asked behind it. -/
def aopI (P : Program) (X : Steer) (ops : Array Oper) (i : Nat) (K : Regs → Heap → Prop) (r : Regs) (H : Heap) : Prop :=
  match ops[i]? with
  | some o => wantedA ops.toList r o.guard (aop P X.pure (msOf X o.dst) r H o.op fun v H' => K (put r o.dst v) H') (K (put r o.dst (.tup [])) H)
  | none => False
/-- All orders, asked one by one. -/
def aAny (P : Program) (X : Steer) (ops : Array Oper) : Nat → Array Bool → Regs → Heap → (Regs → Heap → Prop) → Prop
  | 0, listed, r, H, K => Region.ready .any ops listed = [] ∧ K r H
  | f + 1, listed, r, H, K => (Region.ready .any ops listed = [] → K r H) ∧ ∀ i ∈ Region.ready .any ops listed, aopI P X ops i (fun r' H' => aAny P X ops f (listed.setIfInBounds i true) r' H' K) r H
/-- The operations of a region along a tree: after 'seg' all its branches. -/
def aOT (P : Program) (X : Steer) (all : List Oper) : OT → (Regs → Heap → Prop) → Regs → Heap → Prop
  | .done, K, r, H => K r H
  | .any, K, r, H => aAny P X all.toArray all.length (Array.replicate all.length false) r H K
  | .seg l t, K, r, H => aops P X all l r H (fun r' H' => aOT P X all t K r' H')
  | .or a b, K, r, H => aOT P X all a K r H ∧ aOT P X all b K r H
inductive AExit where
  | normal
  | exit (n : Nat)
  | ret
abbrev KC := AExit → Regs → Heap → Prop
def KC.blk (id : Nat) (K : KC) : KC
  | .exit i, r, H => if i = id then K .normal r H else K (.exit i) r H
  | e, r, H => K e r H
def KC.then (n : Regs → Heap → Prop) (K : KC) : KC
  | .normal, r, H => n r H
  | e, r, H => K e r H
/-- What is known of some registers. -/
def agrees (r : Regs) : List (Nat × AV) → Prop
  | [] => True
  | (t, v) :: l => r t = v ∧ agrees r l
def loopG (body : KC → Regs → Heap → Prop) (K : KC) (r : Regs) (H : Heap) : Prop :=
  ∃ (σ : Type) (view : σ → List (Nat × AV)) (I : σ → Heap → Prop) (μ : σ → Nat) (s0 : σ), agrees r (view s0) ∧ I s0 H ∧
    ∀ s r H, agrees r (view s) → I s H → body (KC.then (fun r' H' => ∃ s', agrees r' (view s') ∧ I s' H' ∧ μ s' < μ s) K) r H
def condA (c : AV) (x y : Prop) : Prop := match c with | .bool t => (t = true → x) ∧ (t = false → y) | _ => False
def acode (P : Program) (X : Steer) : Code → KC → Regs → Heap → Prop
  | .skip, K, r, H => K .normal r H
  | .region id ops draw, K, r, H =>
    match draw, X.tree id, X.orders id with
    | true, some t, _ => aOT P X ops.toList t (K .normal) r H
    | true, none, some os => ∀ o ∈ os, aops P X ops.toList o r H (K .normal)
    | _, _, _ => aops P X ops.toList (List.range ops.size) r H (K .normal)
  | .seq a b, K, r, H => acode P X a (KC.then (acode P X b K) K) r H
  | .cond c x y, K, r, H => condA (ev r c) (acode P X x K r H) (acode P X y K r H)
  | .block id c, K, r, H => acode P X c (KC.blk id K) r H
  | .loop c, K, r, H => loopG (acode P X c) K r H
  | .exit id, K, r, H => K (.exit id) r H
  | .label _, K, r, H => K .normal r H
  | .ret, K, r, H => K .ret r H
  | _, _, _, _ => False

end Go.Abs

/-
  The pure operations: what the abstract machine says is what the machine does, in every world.
-/
namespace Go.Abs
open Go.RowKit

section
variable {P : Program} {C : Cx} {H : Heap} {w : World}

theorem repr_ofCell (v : Value) : Repr C H w (ofCell v) v := by
  unfold ofCell
  split
  · exact .bool _
  · exact .int _ _
  · exact .str _ _ rfl
  · exact .nilp
  · exact .sl [] .exact none 0 0 0 (fun _ => default) (by simp) (by simp) (by simp) (by simp) rfl
  · exact .nilmap
  · exact .nilfunc
  · exact .nilIface
  · exact .junk _
theorem repr_ofValue (v : Value) : Repr C H w (ofValue v) v := by
  unfold ofValue
  split
  · rename_i cs
    split
    · rename_i h
      refine .agg _ _ (by simp) (fun j hj => ?_) (fun j hj => ?_)
      · simp only [List.length_map, Array.length_toList] at hj
        rw [List.all_eq_true] at h
        have := h (cs[j]) (by simp)
        simpa [Array.getD, hj] using this
      · simp only [List.length_map, Array.length_toList] at hj
        have : (cs.toList.map ofCell).getD j .junk = ofCell (cs.getD j default) := by simp [hj, Array.getD]
        rw [this]
        exact repr_ofCell _
    · exact .junk _
  · exact repr_ofCell _

def RegsOK (C : Cx) (H : Heap) (w : World) (r : Regs) (tmps : Array Value) : Prop := ∀ t, Repr C H w (r t) (tmps.getD t undef)

theorem ev_sound {r : Regs} {a : Act} (h : RegsOK C H w r a.tmps) (x : Operand) : Repr C H w (ev r x) (a.eval x) := by
  cases x with
  | tmp t => exact h t
  | const v => exact repr_ofValue v
  | global g => exact .gptr g 0
  | func f => exact .func f [] #[] rfl (by simp)

theorem ti_some {t : TypeId} {i : TI} (h : ti P t = some i) :
    ∃ info d, P.info? t = some info ∧ P.underlying t = some d ∧ i.size = info.size ∧ i.bytes = info.bytes ∧ i.zero = (info.zero.map ofValue).getD .junk ∧ i.desc = TD.of d := by
  unfold ti at h
  split at h
  · rename_i info d h1 h2
    injection h with h
    subst h
    exact ⟨info, d, h1, h2, rfl, rfl, rfl, rfl⟩
  · cases h

theorem run_size {t : TypeId} {i : TI} (h : ti P t = some i) : (sizeOf t).run P w = .ok i.size w := by
  obtain ⟨info, d, h1, h2, h3, -⟩ := ti_some h
  simp [sizeOf, typeInfo, h1, h3]
theorem run_isAgg {t : TypeId} {i : TI} (h : ti P t = some i) : (isAgg t).run P w = .ok i.desc.agg w := by
  obtain ⟨info, d, h1, h2, -, -, -, h4⟩ := ti_some h
  simp only [isAgg, Sem.run_bind, run_underlying h2, Result.andThen_ok, h4]
  cases d <;> first | rfl | (simp only [TD.of]; split <;> rfl)

/-- What a pure operation comes to. -/
def Gives (P : Program) (C : Cx) (H : Heap) (w : World) (x : AV) (s : Sem Value) : Prop := ∃ v, (∀ w', s.run P w' = .ok v w') ∧ Repr C H w x v

theorem gives_run {x : AV} {v : Value} {s : Sem Value} (hs : ∀ w', s.run P w' = .ok v w') (h : Repr C H w x v) : Gives P C H w x s := ⟨v, hs, h⟩

theorem binI_sound {op : BinOp} {k : IntKind} {a b : Int} {x : AV} (h : binI op k a b = some x) (t : TypeId) : Gives P C H w x (binOp op t (.int k a) (.int k b)) := by
  cases op <;> simp only [binI, reduceCtorEq, Option.some.injEq] at h
  case quo =>
    by_cases hb : b = 0
    · simp [hb] at h
    · rw [if_neg hb] at h; injection h with h; subst h
      exact gives_run (fun w' => by simp [binOp, Op.intDiv, hb]) (.int _ _)
  case rem =>
    by_cases hb : b = 0
    · simp [hb] at h
    · rw [if_neg hb] at h; injection h with h; subst h
      exact gives_run (fun w' => by simp [binOp, Op.intDiv, hb]) (.int _ _)
  case eql => subst h; exact gives_run (v := .bool (a == b)) (fun w' => by simp [binOp, Op.intCmp]) (by rw [show (a == b) = decide (a = b) from rfl]; exact .bool _)
  case neq => subst h; exact gives_run (v := .bool (a != b)) (fun w' => by simp [binOp, Op.intCmp]) (by rw [show (a != b) = decide (a ≠ b) by simp [bne, decide_not]; rfl]; exact .bool _)
  case lss | leq | gtr | geq => subst h; exact gives_run (v := .bool (decide _)) (fun w' => by simp [binOp, Op.intCmp]) (.bool _)
  all_goals (subst h; exact gives_run (v := .int k _) (fun w' => by simp [binOp, Op.intArith, Op.intBits]) (.int _ _))
theorem shiftI_sound {op : BinOp} (ho : op = .shl ∨ op = .shr) {k k' : IntKind} {a b : Int} {x : AV} (h : shiftI op k a b = some x) (t : TypeId) : Gives P C H w x (binOp op t (.int k a) (.int k' b)) := by
  unfold shiftI at h
  by_cases hb : b < 0
  · simp [hb] at h
  · rw [if_neg hb] at h
    rcases ho with rfl | rfl <;> (injection h with h; subst h; exact gives_run (v := .int k _) (fun w' => by simp [binOp, Op.shift, hb]) (.int _ _))
theorem binS_sound {op : BinOp} {a b : ByteArray} {x : AV} (h : binS op a.data.toList b.data.toList = some x) (t : TypeId) : Gives P C H w x (binOp op t (.string a) (.string b)) := by
  have e1 : a.toList = a.data.toList := ByteArray.toList_eq a
  have e2 : b.toList = b.data.toList := ByteArray.toList_eq b
  have e3 : (a.data.toList == b.data.toList) = decide (a.data.toList = b.data.toList) := by rw [Bool.eq_iff_iff]; simp
  cases op <;> simp only [binS, reduceCtorEq, Option.some.injEq] at h
  case add =>
    split at h
    · rename_i hl
      injection h with h; subst h
      refine gives_run (v := .string (a ++ b)) (fun w' => ?_) (.str _ _ (by simp))
      have hn : ¬ ((a.size + b.size : Nat) : Int) > IntKind.i64.max := by
        have h1 : a.data.toList.length = a.size := by simp
        have h2 : b.data.toList.length = b.size := by simp
        have h3 : IntKind.i64.max = 9223372036854775807 := by decide
        rw [h3]; rw [h1, h2] at hl; omega
      simp only [binOp, Op.stringOp]
      rw [if_neg hn]
      rfl
    · cases h
  case neq => subst h; exact gives_run (v := .bool (decide (a.data.toList ≠ b.data.toList))) (fun w' => by simp [binOp, Op.stringOp, e1, e2, e3]) (.bool _)
  all_goals
    subst h
    refine gives_run (fun w' => ?_) (.bool _)
    simp only [binOp, Op.stringOp, e1, e2, e3, strLt]
    rfl

theorem eqGuard_plain {op : BinOp} {t : TypeId} {x y : Operand} {a b : Value} (h1 : a ≠ .nilIface) (h2 : ∀ v, a ≠ .agg v) (w' : World) :
    (eqGuard op t x y a b).run P w' = .ok () w' := by
  unfold eqGuard
  cases op <;> simp
  all_goals
    cases a <;> first | exact absurd rfl h1 | exact absurd rfl (h2 _) | (cases b <;> rfl)

theorem gives_bind {x : AV} {s : Sem Value} {g : Sem Unit} (hg : ∀ w', g.run P w' = .ok () w') (h : Gives P C H w x s) : Gives P C H w x (do g; s) := by
  obtain ⟨v, hv, hr⟩ := h
  exact ⟨v, fun w' => by simp [hg, hv], hr⟩

theorem un_sound {op : UnOp} {x z : AV} {u : Value} (h : un op x = some z) (hx : Repr C H w x u) : Gives P C H w z (Op.unary op u) := by
  unfold un at h
  split at h
  · cases hx; injection h with h; subst h; exact gives_run (fun w' => rfl) (.bool _)
  · cases hx; injection h with h; subst h; exact gives_run (v := .int _ _) (fun w' => rfl) (.int _ _)
  · cases h
theorem pick_sound {c a b z : AV} {uc ua ub : Value} (h : pickA c a b = some z) (hc : Repr C H w c uc) (ha : Repr C H w a ua) (hb : Repr C H w b ub) :
    Gives P C H w z (do pure (if ← asBool uc then ua else ub)) := by
  unfold pickA at h
  split at h
  · cases hc; injection h with h; subst h
    rename_i t
    exact gives_run (v := if t then ua else ub) (fun w' => by simp [asBool]) (by cases t <;> assumption)
  · cases h

theorem getD_drop {α : Type} (l : List α) (k j : Nat) (d : α) : (l.drop k).getD j d = l.getD (k + j) d := by simp [List.getD]
theorem getD_take {α : Type} (l : List α) (k j : Nat) (d : α) (h : j < k) : (l.take k).getD j d = l.getD j d := by simp [List.getD, h]

/-- A part of an aggregate. -/
theorem part_sound {t : TypeId} {i : TI} (ht : ti P t = some i) {cs : List AV} {vs : Array Value} (h : Repr C H w (.agg cs) (.agg vs)) {off : Nat} {z : AV}
    (hz : readC i.desc.agg i.size (cs.drop off) = some z) : Gives P C H w z (part t vs off) := by
  cases h with
  | agg _ _ hs ho hr =>
    unfold readC at hz
    cases hag : i.desc.agg with
    | true =>
      rw [hag] at hz
      simp only [if_true] at hz
      split at hz
      · rename_i hle
        injection hz with hz; subst hz
        simp only [List.length_drop] at hle
        refine gives_run (v := .agg (vs.extract off (off + i.size))) (fun w' => by simp [part, run_isAgg ht, run_size ht, hag]) (.agg _ _ (by simp; omega) (fun j hj => ?_) (fun j hj => ?_))
        all_goals
          simp only [List.length_take, List.length_drop] at hj
          have e : (vs.extract off (off + i.size)).getD j default = vs.getD (off + j) default := by
            simp only [Array.getD_eq_getD_getElem?, Array.getElem?_extract]
            rw [if_pos (by omega)]
          rw [e]
        · exact ho _ (by omega)
        · rw [getD_take _ _ _ _ (by omega), getD_drop]; exact hr _ (by omega)
      · cases hz
    | false =>
      rw [hag] at hz
      simp only [Bool.false_eq_true, if_false] at hz
      have hlt : off < cs.length := by
        rcases Nat.lt_or_ge off cs.length with h | h
        · exact h
        · rw [List.drop_eq_nil_of_le h] at hz; cases hz
      have hz' : cs.getD off .junk = z := by
        rw [List.head?_drop] at hz
        simp [List.getD, hz]
      have hv : vs[off]? = some (vs[off]'(by omega)) := Array.getElem?_eq_getElem _
      have hd : vs.getD off default = vs[off]'(by omega) := by rw [Array.getD_eq_getD_getElem?, hv]; rfl
      refine gives_run (v := vs[off]'(by omega)) (fun w' => by simp only [part, Sem.run_bind, run_isAgg ht, hag, Result.andThen_ok, hv, Bool.false_eq_true, if_false]; rfl) ?_
      rw [← hz', ← hd]; exact hr _ hlt

theorem td_struct {d : TypeDesc} {fs : List (Nat × TypeId)} (h : .struct fs = TD.of d) : ∃ gs : Array Field, d = .struct gs ∧ fs = gs.toList.map (fun f => (f.offset, f.type)) ∧ gs.toList.all (fun f => f.name != "_") = true := by
  cases d with
  | struct gs =>
    simp only [TD.of] at h
    split at h
    · rename_i ha
      injection h with h
      exact ⟨gs, rfl, h, ha⟩
    · cases h
  | _ => simp [TD.of] at h

theorem eqFields_sound {d n : Nat} {xs ys : List AV} {us vs : Array Value}
    (ih : ∀ t x y u v b, eqT P n t x y = some b → Repr C H w x u → Repr C H w y v → ∀ w', (Op.equalIn d t u v).run P w' = .ok b w')
    (hx : Repr C H w (.agg xs) (.agg us)) (hy : Repr C H w (.agg ys) (.agg vs)) :
    ∀ (fs : List Field) b, fs.all (fun f => f.name != "_") = true → eqFields P (eqT P n) xs ys (fs.map fun f => (f.offset, f.type)) = some b →
      ∀ w', (Op.eqFields d us vs fs).run P w' = .ok b w' := by
  intro fs
  induction fs with
  | nil => intro b _ h w'; simp only [List.map_nil, eqFields] at h; injection h with h; subst h; rfl
  | cons f fs ihf =>
    intro b hn h w'
    simp only [List.all_cons, Bool.and_eq_true, bne_iff_ne] at hn
    simp only [List.map_cons, eqFields] at h
    split at h
    · rename_i i hi
      split at h
      · rename_i x y hx' hy'
        split at h
        · rename_i p q hp hq
          injection h with h
          obtain ⟨u, hu, hur⟩ := part_sound hi hx hx'
          obtain ⟨v, hv, hvr⟩ := part_sound hi hy hy'
          simp only [Op.eqFields, Sem.run_ite, if_pos hn.1, Sem.run_bind, hu, hv, Result.andThen_ok, ih _ _ _ _ _ _ hp hur hvr]
          cases p with
          | false => simp at h; subst h; rfl
          | true => simp at h; subst h; simpa using ihf _ hn.2 hq w'
        · cases h
      · cases h
    · cases h

theorem eqItems_sound {d n : Nat} {e : TypeId} {i : TI} {xs ys : List AV} {us vs : Array Value} (hi : ti P e = some i) (hc : P.cellsOf e = i.size)
    (ih : ∀ t x y u v b, eqT P n t x y = some b → Repr C H w x u → Repr C H w y v → ∀ w', (Op.equalIn d t u v).run P w' = .ok b w')
    (hx : Repr C H w (.agg xs) (.agg us)) (hy : Repr C H w (.agg ys) (.agg vs)) :
    ∀ (is : List Nat) b, eqItems (eqT P n e) i xs ys is = some b → ∀ w', (Op.eqItems d e (P.cellsOf e) us vs is).run P w' = .ok b w' := by
  intro is
  induction is with
  | nil => intro b h w'; simp only [eqItems] at h; injection h with h; subst h; rfl
  | cons k is ihf =>
    intro b h w'
    simp only [eqItems] at h
    split at h
    · rename_i x y hx' hy'
      split at h
      · rename_i p q hp hq
        injection h with h
        obtain ⟨u, hu, hur⟩ := part_sound hi hx hx'
        obtain ⟨v, hv, hvr⟩ := part_sound hi hy hy'
        rw [← hc] at hu hv
        simp only [Op.eqItems, Sem.run_bind, hu, hv, Result.andThen_ok, ih _ _ _ _ _ _ hp hur hvr]
        cases p with
        | false => simp at h; subst h; rfl
        | true => simp at h; subst h; simpa using ihf _ hq w'
      · cases h
    · cases h

theorem eqT_sound : ∀ (n d : Nat), n ≤ d → ∀ t x y u v b, eqT P n t x y = some b → Repr C H w x u → Repr C H w y v → ∀ w', (Op.equalIn d t u v).run P w' = .ok b w' := by
  intro n
  induction n with
  | zero => intro d _ t x y u v b h; simp [eqT] at h
  | succ n ih =>
    intro d hd t x y u v b h hx hy w'
    obtain ⟨d, rfl⟩ : ∃ e, d = e + 1 := ⟨d - 1, by omega⟩
    simp only [eqT] at h
    split at h
    · rename_i i hi
      obtain ⟨info, de, h1, h2, -, -, -, h4⟩ := ti_some hi
      split at h
      · rename_i hdesc
        cases hx; cases hy; injection h with h; subst h
        rw [hdesc] at h4
        have : de = .bool := by
          cases de <;> simp [TD.of] at h4
          · rfl
          · split at h4 <;> cases h4
        subst this
        exact run_equalIn_bool' _ _ _ _ _ h2
      · rename_i hdesc
        cases hx; cases hy
        split at h
        · rename_i hk
          injection h with h; subst h hk
          rw [hdesc] at h4
          have : ∃ k', de = .int k' := by
            cases de <;> simp [TD.of] at h4
            · exact ⟨_, rfl⟩
            · split at h4 <;> cases h4
          obtain ⟨k', rfl⟩ := this
          exact run_equalIn_int _ _ _ _ _ _ _ h2
        · cases h
      · rename_i hdesc
        cases hx; cases hy; injection h with h; subst h
        rename_i s1 e1 s2 e2
        rw [hdesc] at h4
        have : de = .string := by
          cases de <;> simp [TD.of] at h4
          · rfl
          · split at h4 <;> cases h4
        subst this e1 e2
        rw [run_equalIn_string _ _ _ _ _ h2, ByteArray.toList_eq, ByteArray.toList_eq]
        congr 1
        rw [Bool.eq_iff_iff]; simp
      · rename_i fs xs ys hdesc
        cases hx with
        | agg _ us a1 a2 a3 =>
        cases hy with
        | agg _ vs c1 c2 c3 =>
        split at h
        · rename_i hh
          rw [hdesc] at h4
          obtain ⟨gs, rfl, rfl, hall⟩ := td_struct h4
          have hf : P.fieldsOf t = gs := by simp [Program.fieldsOf, h2]
          have hheld : P.stoodInHeld t = false := by
            unfold ti at hi; rw [h1, h2] at hi; injection hi with hi; subst hi; exact hh
          rw [run_equalIn_agg _ _ _ _ _ (by rw [hf]; exact h2) hheld, hf]
          exact eqFields_sound (ih d (by omega)) (.agg _ _ a1 a2 a3) (.agg _ _ c1 c2 c3) _ _ hall h w'
        · cases h
      · rename_i m e xs ys hdesc
        cases hx with
        | agg _ us a1 a2 a3 =>
        cases hy with
        | agg _ vs c1 c2 c3 =>
        split at h
        · rename_i j hj
          rw [hdesc] at h4
          have : de = .array m e := by
            cases de <;> simp [TD.of] at h4
            · obtain ⟨rfl, rfl⟩ := h4; rfl
            · split at h4 <;> cases h4
          subst this
          obtain ⟨info', de', j1, j2, j3, -⟩ := ti_some hj
          have hc : P.cellsOf e = j.size := by simp [Program.cellsOf, j1, j3]
          rw [run_equalIn_array w' d us vs h2 j1]
          exact eqItems_sound hj hc (ih d (by omega)) (.agg _ _ a1 a2 a3) (.agg _ _ c1 c2 c3) _ _ h w'
        · cases h
      · cases h
    · cases h
end
end Go.Abs

/-
  The pure operations, continued.
-/
namespace Go.Abs
open Go.RowKit

section
variable {P : Program} {C : Cx} {H : Heap} {w : World}

theorem ti_desc {t : TypeId} {i : TI} (h : ti P t = some i) : ∃ info d, P.info? t = some info ∧ P.underlying t = some d ∧ i.desc = TD.of d ∧ i.size = info.size ∧ i.bytes = info.bytes ∧
    i.zero = (info.zero.map ofValue).getD .junk ∧ i.held = P.stoodInHeld t ∧ i.guard = P.eqGuardType P.depth t := by
  unfold ti at h
  split at h
  · rename_i info d h1 h2
    injection h with h
    subst h
    exact ⟨info, d, h1, h2, rfl, rfl, rfl, rfl, rfl, rfl⟩
  · cases h
theorem td_plain {d : TypeDesc} {td : TD} (h : td = TD.of d) :
    (td = .bool → d = .bool) ∧ (td = .string → d = .string) ∧ (∀ k, td = .int k → d = .int k) ∧ (∀ e, td = .slice e → d = .slice e) ∧ (∀ n e, td = .array n e → d = .array n e) ∧
    (∀ k e, td = .map k e → d = .map k e) ∧ (td = .iface → ∃ ms, d = .interface ms) ∧ (∀ e, td = .pointer e → d = .pointer e) := by
  subst h
  cases d <;> simp [TD.of]
  all_goals (split <;> simp)

theorem eq_if1 {t : TypeId} {ms : Array (String × TypeId)} (h : P.underlying t = some (.interface ms)) (d : Nat) (a : TypeId) (b : Value) (w' : World) : (Op.equalIn (d + 1) t (.iface a b) .nilIface).run P w' = .ok false w' := by
  simp only [Op.equalIn, Sem.run_bind, run_underlying h, Result.andThen_ok]; rfl
theorem eq_if2 {t : TypeId} {ms : Array (String × TypeId)} (h : P.underlying t = some (.interface ms)) (d : Nat) (a : TypeId) (b : Value) (w' : World) : (Op.equalIn (d + 1) t .nilIface (.iface a b)).run P w' = .ok false w' := by
  simp only [Op.equalIn, Sem.run_bind, run_underlying h, Result.andThen_ok]; rfl
theorem eq_if3 {t : TypeId} {ms : Array (String × TypeId)} (h : P.underlying t = some (.interface ms)) (d : Nat) (w' : World) : (Op.equalIn (d + 1) t .nilIface .nilIface).run P w' = .ok true w' := by
  simp only [Op.equalIn, Sem.run_bind, run_underlying h, Result.andThen_ok]; rfl
theorem eq_pt1 {t e : TypeId} (h : P.underlying t = some (.pointer e)) (d : Nat) (a : Addr) (w' : World) : (Op.equalIn (d + 1) t (.pointer (some a)) (.pointer none)).run P w' = .ok false w' := by
  simp only [Op.equalIn, Sem.run_bind, run_underlying h, Result.andThen_ok]; rfl
theorem eq_pt2 {t e : TypeId} (h : P.underlying t = some (.pointer e)) (d : Nat) (w' : World) : (Op.equalIn (d + 1) t (.pointer none) (.pointer none)).run P w' = .ok true w' := by
  simp only [Op.equalIn, Sem.run_bind, run_underlying h, Result.andThen_ok]; rfl

theorem eqA_sound {t : TypeId} {p q : Operand} {x y : AV} {u v : Value} {b : Bool} (h : eqA P t (isC p) (isC q) x y = some b) (hx : Repr C H w x u) (hy : Repr C H w y v) :
    (∀ op, op = .eql ∨ op = .neq → ∀ w', (eqGuard op t p q u v).run P w' = .ok () w') ∧ (∀ w', (Op.equal t u v).run P w' = .ok b w') ∧
      (∀ k n, u ≠ .int k n) ∧ (∀ s, u ≠ .string s) ∧ (∀ k n, u ≠ .float k n) ∧ (∀ k n m, u ≠ .complex k n m) := by
  unfold eqA at h
  split at h
  · rename_i i hi
    obtain ⟨info, d, h1, h2, h3, -, -, -, hheld, hguard⟩ := ti_desc hi
    have hp := td_plain h3
    split at h
    · rename_i hd
      cases hx; cases hy; injection h with h; subst h
      have := hp.1 hd; subst this
      exact ⟨fun op _ w' => eqGuard_plain (by simp) (by simp) w', fun w' => run_equalIn_bool' _ 9999 _ _ _ h2, by simp, by simp, by simp, by simp⟩
    · rename_i hd
      cases hx; cases hy; injection h with h; subst h
      obtain ⟨ms, rfl⟩ := hp.2.2.2.2.2.2.1 hd
      exact ⟨fun op _ w' => eqGuard_plain (by simp) (by simp) w', fun w' => eq_if1 h2 9999 _ _ w', by simp, by simp, by simp, by simp⟩
    · rename_i hd
      cases hx; cases hy; injection h with h; subst h
      obtain ⟨ms, rfl⟩ := hp.2.2.2.2.2.2.1 hd
      exact ⟨fun op _ w' => by unfold eqGuard; rcases ‹op = _ ∨ _› with rfl | rfl <;> simp, fun w' => eq_if2 h2 9999 _ _ w', by simp, by simp, by simp, by simp⟩
    · rename_i hd
      cases hx; cases hy
      obtain ⟨ms, rfl⟩ := hp.2.2.2.2.2.2.1 hd
      split at h
      · rename_i hc
        injection h with h; subst h
        refine ⟨fun op _ w' => ?_, fun w' => eq_if3 h2 9999 w', by simp, by simp, by simp, by simp⟩
        unfold eqGuard
        rcases ‹op = _ ∨ _› with rfl | rfl <;> cases p <;> cases q <;> first | (simp [isC] at hc; done) | simp
      · cases h
    · rename_i hd
      cases hx; cases hy; injection h with h; subst h
      have he := hp.2.2.2.2.2.2.2 _ hd; subst he
      exact ⟨fun op _ w' => eqGuard_plain (by simp) (by simp) w', fun w' => eq_pt1 h2 9999 _ w', by simp, by simp, by simp, by simp⟩
    · rename_i hd
      cases hx; cases hy; injection h with h; subst h
      have he := hp.2.2.2.2.2.2.2 _ hd; subst he
      exact ⟨fun op _ w' => eqGuard_plain (by simp) (by simp) w', fun w' => eq_pt1 h2 9999 _ w', by simp, by simp, by simp, by simp⟩
    · rename_i hd
      cases hx; cases hy; injection h with h; subst h
      have he := hp.2.2.2.2.2.2.2 _ hd; subst he
      exact ⟨fun op _ w' => eqGuard_plain (by simp) (by simp) w', fun w' => eq_pt1 h2 9999 _ w', by simp, by simp, by simp, by simp⟩
    · rename_i e T sz a T' sz' a' hd
      split at h
      · rename_i hc
        obtain ⟨rfl, hte⟩ := hc
        injection h with h; subst h
        obtain ⟨j, hj⟩ := Option.isSome_iff_exists.1 hte
        obtain ⟨info', d', j1, -⟩ := ti_desc hj
        have he := hp.2.2.2.2.2.2.2 _ hd; subst he
        cases hx; cases hy
        refine ⟨fun op _ w' => eqGuard_plain (by simp) (by simp) w', fun w' => ?_, by simp, by simp, by simp, by simp⟩
        have h : ∀ d : Nat, (Op.equalIn (d + 1) t (.pointer (some ⟨C.β a, 0, none⟩)) (.pointer (some ⟨C.β a, 0, none⟩))).run P w' = .ok true w' := fun d => by
          simp [Op.equalIn, run_underlying h2, sizeOf, typeInfo, j1, run_sameAddr_same]
        exact h 9999
      · cases h
    · rename_i hd
      cases hx; cases hy; injection h with h; subst h
      have he := hp.2.2.2.2.2.2.2 _ hd; subst he
      exact ⟨fun op _ w' => eqGuard_plain (by simp) (by simp) w', fun w' => eq_pt2 h2 9999 w', by simp, by simp, by simp, by simp⟩
    · split at h
      · rename_i hg
        have hq := eqT_sound 6 10000 (by omega) _ _ _ _ _ _ h hx hy
        cases hx; cases hy
        exact ⟨fun op _ w' => run_eqGuard_agg _ _ _ _ _ _ _ (by rw [← hguard]; exact hg), fun w' => hq w', by simp, by simp, by simp, by simp⟩
      · cases h
    · split at h
      · rename_i hg
        have hq := eqT_sound 6 10000 (by omega) _ _ _ _ _ _ h hx hy
        cases hx; cases hy
        exact ⟨fun op _ w' => run_eqGuard_agg _ _ _ _ _ _ _ (by rw [← hguard]; exact hg), fun w' => hq w', by simp, by simp, by simp, by simp⟩
      · cases h
    · cases h
  · cases h

theorem bin_sound {op : BinOp} {x y z : AV} {u v : Value} {t : TypeId} {p q : Operand} (h : bin P op t (isC p) (isC q) x y = some z) (hx : Repr C H w x u) (hy : Repr C H w y v) :
    Gives P C H w z (do eqGuard op t p q u v; binOp op t u v) := by
  unfold bin at h
  split at h
  · cases hx; cases hy
    refine gives_bind (fun w' => eqGuard_plain (by simp) (by simp) w') ?_
    split at h
    · exact shiftI_sound (.inl rfl) h t
    · exact shiftI_sound (.inr rfl) h t
    · split at h
      · rename_i hk; subst hk; exact binI_sound h t
      · cases h
  · cases hx; cases hy
    rename_i h1 _ h2
    refine gives_bind (fun w' => eqGuard_plain (by simp) (by simp) w') ?_
    subst h1 h2
    exact binS_sound h t
  · split at h
    · simp only [Option.map_eq_some_iff] at h
      obtain ⟨b, hb, rfl⟩ := h
      obtain ⟨g, e, n1, n2, n3, n4⟩ := eqA_sound hb hx hy
      refine gives_bind (g _ (.inl rfl)) (gives_run (v := .bool b) (fun w' => ?_) (.bool _))
      cases u <;> first | exact absurd rfl (n1 _ _) | exact absurd rfl (n2 _) | exact absurd rfl (n3 _ _) | exact absurd rfl (n4 _ _ _) | (simp only [binOp]; simp [e])
    · simp only [Option.map_eq_some_iff] at h
      obtain ⟨b, hb, rfl⟩ := h
      obtain ⟨g, e, n1, n2, n3, n4⟩ := eqA_sound hb hx hy
      refine gives_bind (g _ (.inr rfl)) (gives_run (v := .bool (!b)) (fun w' => ?_) (.bool _))
      cases u <;> first | exact absurd rfl (n1 _ _) | exact absurd rfl (n2 _) | exact absurd rfl (n3 _ _) | exact absurd rfl (n4 _ _ _) | (simp only [binOp]; simp [e])
    · cases h

theorem fieldOf_some {s : TypeId} {f off : Nat} {i : TI} (h : fieldOf P s f = some (off, i)) :
    ∃ fs fl, P.underlying s = some (.struct fs) ∧ fs[f]? = some fl ∧ fl.offset = off ∧ ti P fl.type = some i := by
  unfold fieldOf at h
  split at h
  · rename_i is hi
    obtain ⟨info, d, h1, h2, h3, -⟩ := ti_desc hi
    split at h
    · rename_i fs hfs
      rw [hfs] at h3
      obtain ⟨gs, rfl, rfl, -⟩ := td_struct h3
      split at h
      · rename_i off' t hf
        simp only [Option.map_eq_some_iff, Prod.mk.injEq] at h
        obtain ⟨j, hj, rfl, rfl⟩ := h
        simp only [List.getElem?_map, Array.getElem?_toList, Option.map_eq_some_iff, Prod.mk.injEq] at hf
        obtain ⟨fl, hfl, rfl, rfl⟩ := hf
        exact ⟨gs, fl, h2, hfl, rfl, hj⟩
      · cases h
    · cases h
  · cases h

theorem descOf_eq {t : TypeId} {td : TD} (h : descOf P t = td) (hn : td ≠ .other) : ∃ d, P.underlying t = some d ∧ td = TD.of d := by
  unfold descOf at h
  split at h
  · rename_i i hi
    obtain ⟨info, d, h1, h2, h3, -⟩ := ti_desc hi
    exact ⟨d, h2, by rw [← h, h3]⟩
  · exact absurd h.symm hn
theorem sliceE_some {t : TypeId} {e : TI} (h : sliceE P t = some e) : ∃ u, P.underlying t = some (.slice u) ∧ ti P u = some e := by
  unfold sliceE at h
  split at h
  · rename_i u hd
    obtain ⟨d, h1, h2⟩ := descOf_eq hd (by simp)
    have := (td_plain h2).2.2.2.1 _ rfl
    subst this
    exact ⟨u, h1, h⟩
  · cases h
theorem arrayE_some {t : TypeId} {n : Nat} {e : TI} (h : arrayE P t = some (n, e)) : ∃ u, P.underlying t = some (.array n u) ∧ ti P u = some e := by
  unfold arrayE at h
  split at h
  · rename_i m u hd
    obtain ⟨d, h1, h2⟩ := descOf_eq hd (by simp)
    have := (td_plain h2).2.2.2.2.1 _ _ rfl
    subst this
    simp only [Option.map_eq_some_iff, Prod.mk.injEq] at h
    obtain ⟨j, hj, rfl, rfl⟩ := h
    exact ⟨u, h1, hj⟩
  · cases h
theorem desc_string {t : TypeId} (h : descOf P t = .string) : P.underlying t = some .string := by
  obtain ⟨d, h1, h2⟩ := descOf_eq h (by simp)
  have := (td_plain h2).2.1 rfl
  subst this
  exact h1
theorem desc_int {t : TypeId} {k : IntKind} (h : descOf P t = .int k) : P.underlying t = some (.int k) := by
  obtain ⟨d, h1, h2⟩ := descOf_eq h (by simp)
  have := (td_plain h2).2.2.1 _ rfl
  subst this
  exact h1

theorem field_sound {s : TypeId} {f : Nat} {x z : AV} {u : Value} (h : fieldA P s x f = some z) (hx : Repr C H w x u) : Gives P C H w z (Instr.field s u f) := by
  unfold fieldA at h
  split at h
  · rename_i off i cs hf
    obtain ⟨fs, fl, h1, h2, rfl, h3⟩ := fieldOf_some hf
    cases hx with
    | agg _ vs a1 a2 a3 =>
    obtain ⟨v, hv, hr⟩ := part_sound h3 (.agg _ _ a1 a2 a3) h
    exact gives_run (v := v) (fun w' => by simp [Instr.field, run_underlying h1, h2, asAgg, hv]) hr
  · cases h

theorem rptr_drop {cs : List AV} {b off : Nat} (k : Nat) (h : Repr C H w (.rptr cs) (.pointer (some ⟨b, off, none⟩))) : Repr C H w (.rptr (cs.drop k)) (.pointer (some ⟨b, off + k, none⟩)) := by
  cases h with
  | rptr _ _ _ us hc hr =>
  refine .rptr _ b (off + k) (fun j => us (k + j)) (fun j hj => ?_) (fun j hj => ?_)
  · simp only [List.length_drop] at hj
    have := hc (k + j) (by omega)
    rwa [Nat.add_assoc]
  · simp only [List.length_drop] at hj
    rw [getD_drop]
    exact hr (k + j) (by omega)

theorem add_none (b off k : Nat) : Addr.add ⟨b, off, none⟩ k = ⟨b, off + k, none⟩ := by unfold Addr.add; split <;> simp_all

theorem fieldAddr_sound {s : TypeId} {f : Nat} {x z : AV} {u : Value} (h : fieldAddrA P s x f = some z) (hx : Repr C H w x u) : Gives P C H w z (Instr.fieldAt s u f) := by
  unfold fieldAddrA at h
  split at h
  · rename_i off i hf
    obtain ⟨fs, fl, h1, h2, rfl, h3⟩ := fieldOf_some hf
    split at h
    · cases h
    · rename_i hsz
      have hs : ∀ w' : World, (sizeOf fl.type).run P w' = .ok i.size w' := fun w' => run_size h3
      split at h
      · cases hx with
        | ptr _ _ hid =>
        injection h with h; subst h
        exact gives_run (v := .pointer (some ⟨C.β _, _ + fl.offset, none⟩)) (fun w' => by simp [Instr.fieldAt, run_underlying h1, h2, Instr.sureAddr, fieldPlace, hs, hsz, add_none]) (.ptr _ _ hid)
      · injection h with h; subst h
        cases hx with
        | rptr _ b off us hc hr =>
        exact gives_run (v := .pointer (some ⟨b, off + fl.offset, none⟩)) (fun w' => by simp [Instr.fieldAt, run_underlying h1, h2, Instr.sureAddr, fieldPlace, hs, hsz, add_none]) (rptr_drop _ (.rptr _ b off us hc hr))
      · cases hx with
        | tptr _ _ _ hid hsh =>
        injection h with h; subst h
        exact gives_run (v := .pointer (some ⟨C.β _, fl.offset, none⟩)) (fun w' => by simp [Instr.fieldAt, run_underlying h1, h2, Instr.sureAddr, fieldPlace, hs, hsz, add_none]) (.ptr _ _ hid)
      · cases h
  · cases h
end
end Go.Abs

/-
  The pure operations, the rest.
-/
namespace Go.Abs
open Go.RowKit

section
variable {P : Program} {C : Cx} {H : Heap} {w : World}

theorem flatten_len {k : Nat} {es : List (List AV)} (h : Unif k es) : es.flatten.length = es.length * k := by
  induction es with
  | nil => simp
  | cons e es ih =>
    rw [List.flatten_cons, List.length_append, ih (fun x hx => h x (List.mem_cons_of_mem _ hx)), h e (List.mem_cons_self ..), List.length_cons, Nat.add_mul, Nat.one_mul, Nat.add_comm]
theorem flatten_get {k : Nat} {es : List (List AV)} (h : Unif k es) : ∀ (i : Nat) (e : List AV), es[i]? = some e → ∀ j, j < k → es.flatten.getD (i * k + j) .junk = e.getD j .junk := by
  induction es with
  | nil => intro i e h; simp at h
  | cons x es ih =>
    intro i e he j hj
    have hx : x.length = k := h x (List.mem_cons_self ..)
    cases i with
    | zero =>
      simp only [List.getElem?_cons_zero, Option.some.injEq] at he
      subst he
      simp [List.getD, List.getElem?_append_left (show j < x.length by omega)]
    | succ i =>
      simp only [List.getElem?_cons_succ] at he
      rw [← ih (fun y hy => h y (List.mem_cons_of_mem _ hy)) i e he j hj, List.flatten_cons]
      simp only [List.getD]
      rw [List.getElem?_append_right (by rw [hx, Nat.add_mul]; omega)]
      congr 2
      rw [hx, Nat.add_mul]; omega

theorem index_mul_lt {i k n j : Nat} (hi : i < n) (hj : j < k) : i * k + j < n * k := by
  calc i * k + j < i * k + k := by omega
    _ = (i + 1) * k := by rw [Nat.add_mul, Nat.one_mul]
    _ ≤ n * k := Nat.mul_le_mul_right _ hi

/-- The address of an element of a slice that nobody writes. -/
theorem sl_index {es : List (List AV)} {t : Tail} {a : Option Addr} {n cap k : Nat} (h : Repr C H w (.sl es t) (.slice a n cap)) (hu : Unif k es) {i : Nat} {e : List AV} (he : es[i]? = some e) (hk : 0 < k) :
    ∃ b off, a = some ⟨b, off, none⟩ ∧ n = es.length ∧ i < es.length ∧ Repr C H w (.rptr e) (.pointer (some ⟨b, off + i * k, none⟩)) := by
  cases h with
  | sl _ _ _ _ b off us ha hc hr hl ht =>
  have hi : i < es.length := (List.getElem?_eq_some_iff.1 he).1
  have hf := flatten_len hu
  have hek : e.length = k := hu e (List.mem_of_getElem? he)
  have hpos : 0 < es.flatten.length := by rw [hf]; exact Nat.mul_pos (by omega) hk
  refine ⟨b, off, ha hpos, rfl, hi, .rptr _ b _ (fun j => us (i * k + j)) (fun j hj => ?_) (fun j hj => ?_)⟩
  · have := hc (i * k + j) (by rw [hf]; exact index_mul_lt hi (by omega))
    rwa [← Nat.add_assoc] at this
  · rw [← flatten_get hu i e he j (by omega)]
    exact hr _ (by rw [hf]; exact index_mul_lt hi (by omega))

theorem indexAddr_sound {t : TypeId} {x i z : AV} {u v : Value} (h : indexAddrA P t x i = some z) (hx : Repr C H w x u) (hi : Repr C H w i v) : Gives P C H w z (Instr.indexAt t u v) := by
  unfold indexAddrA at h
  split at h
  · cases hi
    rename_i id off len k' kk n
    split at h
    · rename_i e he
      obtain ⟨et, h1, h2⟩ := sliceE_some he
      have hs : ∀ w' : World, (sizeOf et).run P w' = .ok e.size w' := fun w' => run_size h2
      split at h
      · rename_i hc
        obtain ⟨c1, c2, rfl⟩ := hc
        injection h with h; subst h
        cases hx with
        | ms _ _ _ _ a cap hid ha hl hsz =>
        have ha' := ha (by omega)
        subst ha'
        exact gives_run (v := .pointer (some ⟨C.β _, _ + n.toNat * e.size, none⟩)) (fun w' => by simp [Instr.indexAt, asIntOf, run_underlying h1, c1, c2, hs, add_none]) (.ptr _ _ hid)
      · cases h
    · cases h
  · cases hi
    rename_i es tl kk n
    split at h
    · rename_i e he
      obtain ⟨et, h1, h2⟩ := sliceE_some he
      have hs : ∀ w' : World, (sizeOf et).run P w' = .ok e.size w' := fun w' => run_size h2
      split at h
      · rename_i hc
        simp only [Option.map_eq_some_iff] at h
        obtain ⟨el, hel, rfl⟩ := h
        have hx' := hx
        cases hx with
        | sl _ _ a cap b off us ha hc2 hr hl ht =>
        obtain ⟨b', off', ha', -, hlt, hp⟩ := sl_index hx' hc.2.1 hel hc.2.2
        subst ha'
        have hlt' : n < (es.length : Int) := by omega
        exact gives_run (fun w' => by simp [Instr.indexAt, asIntOf, run_underlying h1, hc.1, hlt', hs, add_none]) hp
      · cases h
    · cases h
  · cases hi
    rename_i id off kk n
    split at h
    · rename_i len e he
      obtain ⟨et, h1, h2⟩ := arrayE_some he
      have hs : ∀ w' : World, (sizeOf et).run P w' = .ok e.size w' := fun w' => run_size h2
      split at h
      · rename_i hc
        injection h with h; subst h
        cases hx with
        | ptr _ _ hid =>
        exact gives_run (v := .pointer (some ⟨C.β _, _ + n.toNat * e.size, none⟩)) (fun w' => by simp [Instr.indexAt, asIntOf, run_underlying h1, hc.1, hc.2, hs, Instr.sureAddr, add_none]) (.ptr _ _ hid)
      · cases h
    · cases h
  · cases hi
    rename_i cs kk n
    split at h
    · rename_i len e he
      obtain ⟨et, h1, h2⟩ := arrayE_some he
      have hs : ∀ w' : World, (sizeOf et).run P w' = .ok e.size w' := fun w' => run_size h2
      split at h
      · rename_i hc
        injection h with h; subst h
        cases hx with
        | rptr _ b off us hc' hr =>
        exact gives_run (v := .pointer (some ⟨b, off + n.toNat * e.size, none⟩)) (fun w' => by simp [Instr.indexAt, asIntOf, run_underlying h1, hc.1, hc.2, hs, Instr.sureAddr, add_none]) (rptr_drop _ (.rptr _ b off us hc' hr))
      · cases h
    · cases h
  · cases hi
    rename_i g off kk n
    split at h
    · rename_i len e he
      obtain ⟨et, h1, h2⟩ := arrayE_some he
      have hs : ∀ w' : World, (sizeOf et).run P w' = .ok e.size w' := fun w' => run_size h2
      split at h
      · rename_i hc
        injection h with h; subst h
        cases hx
        exact gives_run (v := .pointer (some ⟨_, _ + n.toNat * e.size, none⟩)) (fun w' => by simp [Instr.indexAt, asIntOf, run_underlying h1, hc.1, hc.2, hs, Instr.sureAddr, add_none]) (.gptr _ _)
      · cases h
    · cases h
  · cases h

theorem bget (s : ByteArray) (i : Nat) : s[i]? = s.data[i]? := by
  by_cases h : i < s.size
  · rw [getElem?_pos s i h, getElem?_pos s.data i h]; rfl
  · rw [getElem?_neg s i h, getElem?_neg s.data i h]
theorem index_sound {t : TypeId} {x i z : AV} {u v : Value} (h : indexA P t x i = some z) (hx : Repr C H w x u) (hi : Repr C H w i v) : Gives P C H w z (Instr.index t u v) := by
  unfold indexA at h
  split at h
  · cases hi; cases hx
    rename_i s kk n bs hbs
    split at h
    · rename_i hc
      simp only [Option.map_eq_some_iff] at h
      obtain ⟨b, hb, rfl⟩ := h
      have hb' : bs[n.toNat]? = some b := by
        rw [← hbs] at hb
        rw [bget]; simpa using hb
      exact gives_run (v := .int .u8 b.toNat) (fun w' => by simp [Instr.index, asIntOf, run_underlying (desc_string hc.2), hc.1, hb']) (.int _ _)
    · cases h
  · cases hi
    rename_i cs kk n
    split at h
    · rename_i len e he
      obtain ⟨et, h1, h2⟩ := arrayE_some he
      have hs : ∀ w' : World, (sizeOf et).run P w' = .ok e.size w' := fun w' => run_size h2
      split at h
      · rename_i hc
        cases hx with
        | agg _ vs a1 a2 a3 =>
        obtain ⟨v, hv, hr⟩ := part_sound h2 (.agg _ _ a1 a2 a3) h
        exact gives_run (v := v) (fun w' => by simp [Instr.index, asIntOf, run_underlying h1, hc.1, hc.2, hs, hv]) hr
      · cases h
    · cases h
  · cases h
end
end Go.Abs

/-
  The pure operations: slicing, literals, len, min, max, conversions; all of them together.
-/
namespace Go.Abs
open Go.RowKit

section
variable {P : Program} {C : Cx} {H : Heap} {w : World}

theorem intOf_sound {r : Regs} {a : Act} (hr : RegsOK C H w r a.tmps) {d : Int} {x : Option Operand} {n : Int} (h : intOf d r x = some n) :
    (x = none ∧ n = d) ∨ (∃ y k, x = some y ∧ a.eval y = .int k n) := by
  unfold intOf at h
  split at h
  · injection h with h; exact .inl ⟨rfl, h.symm⟩
  · rename_i y
    split at h
    · rename_i k m hm
      injection h with h; subst h
      have := ev_sound hr y
      rw [hm] at this
      cases h2 : a.eval y with
      | int k' n' => rw [h2] at this; cases this; exact .inr ⟨y, k, rfl, h2⟩
      | _ => rw [h2] at this; cases this
    · cases h

theorem bound_ok {v : Value} {k : IntKind} {n : Int} (hv : v = .int k n) {y : Nat} (h0 : 0 ≤ n) (h1 : n ≤ y) (c : BoundsCode) (w' : World) : (Instr.sliceBound v y c).run P w' = .ok n.toNat w' := by
  subst hv
  simp [Instr.sliceBound, asIntOf, h0, h1]

theorem bounds_ok {r : Regs} {a : Act} (hr : RegsOK C H w r a.tmps) {lo hi : Option Operand} {l h : Int} {b : Bool} {len cap : Nat} (hl : intOf 0 r lo = some l) (hh : intOf len r hi = some h)
    (h0 : 0 ≤ l) (h1 : l ≤ h) (h2 : h ≤ len) (hc : len ≤ cap) (w' : World) :
    (Instr.sliceBounds b len cap (lo.map a.eval) (hi.map a.eval) none).run P w' = .ok (l.toNat, h.toNat, cap) w' := by
  unfold Instr.sliceBounds
  rcases intOf_sound hr hh with ⟨rfl, rfl⟩ | ⟨y, k, rfl, hy⟩
  · rcases intOf_sound hr hl with ⟨rfl, rfl⟩ | ⟨z, k', rfl, hz⟩
    · simp
    · simp [bound_ok hz h0 h1]
  · have hb : h ≤ (cap : Int) := by omega
    rcases intOf_sound hr hl with ⟨rfl, rfl⟩ | ⟨z, k', rfl, hz⟩
    · simp [bound_ok hy (by omega) hb]
    · have hlh : l ≤ (h.toNat : Int) := by omega
      simp [bound_ok hy (by omega) hb, bound_ok hz h0 hlh]
theorem bounds3_ok {r : Regs} {a : Act} (hr : RegsOK C H w r a.tmps) {lo hi : Option Operand} {mx : Operand} {l h m : Int} {k : IntKind} {b : Bool} {len cap : Nat} (hl : intOf 0 r lo = some l) (hh : intOf len r hi = some h)
    (hm : a.eval mx = .int k m) (hs : hi ≠ none) (h0 : 0 ≤ l) (h1 : l ≤ h) (h2 : h ≤ m) (hc : m ≤ cap) (w' : World) :
    (Instr.sliceBounds b len cap (lo.map a.eval) (hi.map a.eval) (some (a.eval mx))).run P w' = .ok (l.toNat, h.toNat, m.toNat) w' := by
  unfold Instr.sliceBounds
  rcases intOf_sound hr hh with ⟨rfl, rfl⟩ | ⟨y, k, rfl, hy⟩
  · exact absurd rfl hs
  · have hhm : h ≤ (m.toNat : Int) := by omega
    have hm0 : (0 : Int) ≤ m := by omega
    rcases intOf_sound hr hl with ⟨rfl, rfl⟩ | ⟨z, k', rfl, hz⟩
    · simp [bound_ok hm hm0 hc, bound_ok hy (by omega) hhm]
    · have hlh : l ≤ (h.toNat : Int) := by omega
      simp [bound_ok hm hm0 hc, bound_ok hy (by omega) hhm, bound_ok hz h0 hlh]

theorem flatten_take {k : Nat} {es : List (List AV)} (h : Unif k es) (n : Nat) : (es.take n).flatten = es.flatten.take (n * k) := by
  induction es generalizing n with
  | nil => simp
  | cons e es ih =>
    cases n with
    | zero => simp
    | succ n =>
      have he : e.length = k := h e (List.mem_cons_self ..)
      have e1 : (n + 1) * k = e.length + n * k := by rw [he, Nat.add_mul]; omega
      rw [List.take_succ_cons, List.flatten_cons, ih (fun x hx => h x (List.mem_cons_of_mem _ hx)), List.flatten_cons, e1, List.take_length_add_append]
theorem flatten_drop {k : Nat} {es : List (List AV)} (h : Unif k es) (n : Nat) : (es.drop n).flatten = es.flatten.drop (n * k) := by
  induction es generalizing n with
  | nil => simp
  | cons e es ih =>
    cases n with
    | zero => simp
    | succ n =>
      have he : e.length = k := h e (List.mem_cons_self ..)
      have e1 : (n + 1) * k = e.length + n * k := by rw [he, Nat.add_mul]; omega
      rw [List.drop_succ_cons, ih (fun x hx => h x (List.mem_cons_of_mem _ hx)), List.flatten_cons, e1, List.drop_length_add_append]
theorem Unif.take {k : Nat} {es : List (List AV)} (h : Unif k es) (n : Nat) : Unif k (es.take n) := fun e he => h e (List.mem_of_mem_take he)
theorem Unif.drop {k : Nat} {es : List (List AV)} (h : Unif k es) (n : Nat) : Unif k (es.drop n) := fun e he => h e (List.mem_of_mem_drop he)

theorem Unif.flat_cut {k : Nat} {es : List (List AV)} (h : Unif k es) (l n : Nat) : ((es.take n).drop l).flatten = (es.flatten.take (n * k)).drop (l * k) := by
  rw [flatten_drop (h.take n), flatten_take h]

/-- A part of a slice that nobody writes; its room is m. -/
theorem sl_cut {es : List (List AV)} {t t' : Tail} {a : Option Addr} {n cap k : Nat} (h : Repr C H w (.sl es t) (.slice a n cap)) (hu : Unif k es) {l hi m : Nat} (h1 : l ≤ hi) (h2 : hi ≤ es.length) (h3 : hi ≤ m)
    (ht : TailOK C H w (if m = l then a else a.map (·.add (l * k))) (m - l) (hi - l) t') :
    Repr C H w (.sl ((es.take hi).drop l) t') (.slice (if m = l then a else a.map (·.add (l * k))) (hi - l) (m - l)) := by
  cases h with
  | sl _ _ _ _ b off us ha hc hr hl _ =>
  have hlen : ((es.take hi).drop l).length = hi - l := by simp; omega
  have hfl := hu.flat_cut l hi
  have hfn : ((es.take hi).drop l).flatten.length = (hi - l) * k := by rw [flatten_len ((hu.take hi).drop l), hlen]
  have hf0 := flatten_len hu
  have key : ∀ j, j < (hi - l) * k → l * k + j < es.flatten.length := fun j hj => by
    rw [hf0]
    have e1 : (hi - l) * k = hi * k - l * k := Nat.sub_mul ..
    have e2 : hi * k ≤ es.length * k := Nat.mul_le_mul_right _ h2
    omega
  have hget : ∀ j, j < (hi - l) * k → ((es.take hi).drop l).flatten.getD j .junk = es.flatten.getD (l * k + j) .junk := fun j hj => by
    rw [hfl, getD_drop, getD_take]
    have e1 : (hi - l) * k = hi * k - l * k := Nat.sub_mul ..
    omega
  have hlen' := hlen.symm
  rw [hlen']
  refine .sl _ _ _ _ b (off + l * k) (fun j => us (l * k + j)) (fun hp => ?_) (fun j hj => ?_) (fun j hj => ?_) (by omega) (by rw [hlen]; exact ht)
  · rw [hfn] at hp
    have hml : m ≠ l := by
      intro e
      have : hi - l = 0 := by omega
      rw [this] at hp; simp at hp
    rw [if_neg hml, ha (by have := key 0 hp; omega)]
    simp [add_none]
  · rw [hfn] at hj
    have := hc _ (key j hj)
    rwa [← Nat.add_assoc] at this
  · rw [hfn] at hj
    rw [hget j hj]
    exact hr _ (key j hj)

theorem cutTail_ok {r : Regs} {lo hi : Option Operand} {l h : Int} {len cap k : Nat} {ad : Option Addr} {tl : Tail} (ht : TailOK C H w ad cap len tl) (hl : intOf 0 r lo = some l) (hh : intOf len r hi = some h)
    (h0 : 0 ≤ l) (h1 : l ≤ h) : TailOK C H w (if cap = l.toNat then ad else ad.map (·.add (l.toNat * k))) (cap - l.toNat) (h.toNat - l.toNat) (cutTail lo hi tl) := by
  cases lo <;> cases hi <;> cases tl <;> simp only [cutTail, TailOK]
  · simp only [intOf, Option.some.injEq] at hl hh; simp only [TailOK] at ht; omega
  · simp only [intOf, Option.some.injEq] at hl hh
    subst hl hh
    obtain ⟨t1, b, off, ty, sz, t2, t3⟩ := ht
    refine ⟨by omega, b, off, ty, sz, ?_, t3⟩
    subst t2
    split
    · rfl
    · simp [add_none]
  · simp only [intOf, Option.some.injEq] at hl hh
    subst hl hh
    obtain ⟨t1, t2, t3⟩ := ht
    refine ⟨t1, ?_, by simpa using t3⟩
    subst t2
    split
    · rfl
    · simp [add_none]
  · simp only [intOf, Option.some.injEq] at hh; simp only [TailOK] at ht; omega

theorem slice_sound {r : Regs} {a : Act} (hr : RegsOK C H w r a.tmps) {t : TypeId} {x : Operand} {lo hi mx : Option Operand} {z : AV} (h : sliceA P r t (ev r x) lo hi mx = some z) :
    Gives P C H w z (Instr.sliceAt t (a.eval x) (lo.map a.eval) (hi.map a.eval) (mx.map a.eval)) := by
  have hx := ev_sound hr x
  unfold sliceA at h
  split at h
  · rename_i s l hs hl
    rw [hs] at hx
    generalize a.eval x = u at hx
    cases hx
    rename_i bs hbs
    split at h
    · rename_i hv hh
      split at h
      · rename_i hc
        injection h with h; subst h
        have hn : (s.length : Int) = bs.size := by rw [← hbs]; simp
        rw [hn] at hh hc
        have hb := bounds_ok (P := P) (b := false) (cap := bs.size) hr hl hh hc.2.1 hc.2.2.1 hc.2.2.2 (Nat.le_refl _)
        refine gives_run (v := .string (bs.extract l.toNat hv.toNat)) (fun w' => ?_) (.str _ _ (by simp [← hbs, List.drop_take]))
        simp [Instr.sliceAt, Instr.slice, run_underlying (desc_string hc.1), hb]
      · cases h
    · cases h
  · rename_i id off len k l hs hl
    rw [hs] at hx
    generalize a.eval x = u at hx
    cases hx with
    | ms _ _ _ _ ad cap hid ha hlc hsz =>
    split at h
    · rename_i i hv hi' hh
      obtain ⟨et, h1, h2⟩ := sliceE_some hi'
      have hsz' : ∀ w' : World, (sizeOf et).run P w' = .ok i.size w' := fun w' => run_size h2
      split at h
      · rename_i hc
        obtain ⟨c1, c2, c3, rfl⟩ := hc
        injection h with h; subst h
        have hb := bounds_ok (P := P) (b := true) (cap := cap) hr hl hh c1 c2 c3 hlc
        have e : (hv - l).toNat = hv.toNat - l.toNat := by omega
        rw [e]
        refine gives_run (v := .slice (if cap = l.toNat then ad else ad.map (·.add (l.toNat * i.size))) (hv.toNat - l.toNat) (cap - l.toNat)) (fun w' => ?_) (.ms _ _ _ _ _ _ hid (fun hp => ?_) (by omega) ?_)
        · simp [Instr.sliceAt, Instr.slice, run_underlying h1, hb, hsz']
        · rw [if_neg (by omega), ha (by omega)]; simp [add_none]
        · obtain ⟨ty, sz, s1, s2⟩ := hsz
          refine ⟨ty, sz, s1, ?_⟩
          have : l.toNat * i.size + (cap - l.toNat) * i.size = cap * i.size := by rw [← Nat.add_mul]; congr 1; omega
          omega
      · cases h
    · cases h
  · rename_i id n k ty l hs hl
    rw [hs] at hx
    generalize a.eval x = u at hx
    cases hx with
    | rs _ _ _ cap _ hid hn hsz =>
    split at h
    · rename_i i hv hi' hh
      obtain ⟨et, h1, h2⟩ := sliceE_some hi'
      have hsz' : ∀ w' : World, (sizeOf et).run P w' = .ok i.size w' := fun w' => run_size h2
      split at h
      · rename_i hc
        obtain ⟨rfl, rfl, rfl⟩ := hc
        injection h with h; subst h
        have hb := bounds_ok (P := P) (b := true) (cap := cap) hr hl hh (by omega) (by omega) (by omega) hn
        obtain ⟨u, sz, s1, s2, s3, s4⟩ := hsz
        refine gives_run (v := .slice (some ⟨C.β id, 0, none⟩) 0 cap) (fun w' => ?_) (.sl [] _ _ _ 0 0 (fun _ => default) (fun h => by simp at h) (fun j hj => by simp at hj) (fun j hj => by simp at hj) (Nat.zero_le _) ⟨hid, rfl, u, sz, s1, s2, s3, s4⟩)
        have hb2 := hb w'
        simp only [Option.map_none, Int.toNat_zero] at hb2
        simp [Instr.sliceAt, Instr.slice, run_underlying h1, hb2, hsz', add_none]
      · cases h
    · cases h
  · rename_i es tl l hs hl
    rw [hs] at hx
    generalize a.eval x = u at hx
    have hx' := hx
    cases hx with
    | sl _ _ ad cap b off us ha hc2 hr2 hlc ht =>
    split at h
    · rename_i i hv hi' hh
      obtain ⟨et, h1, h2⟩ := sliceE_some hi'
      have hsz' : ∀ w' : World, (sizeOf et).run P w' = .ok i.size w' := fun w' => run_size h2
      split at h
      · rename_i hc
        obtain ⟨c1, c2, c3, c4⟩ := hc
        split at h
        · injection h with h; subst h
          have hb := bounds_ok (P := P) (b := true) (cap := cap) hr hl hh c1 c2 c3 hlc
          refine gives_run (v := .slice (if cap = l.toNat then ad else ad.map (·.add (l.toNat * i.size))) (hv.toNat - l.toNat) (cap - l.toNat)) (fun w' => ?_) (sl_cut hx' c4 (by omega) (by omega) (by omega) (cutTail_ok ht hl hh c1 c2))
          simp [Instr.sliceAt, Instr.slice, run_underlying h1, hb, hsz']
        · rename_i m
          split at h
          · rename_i k mm hmm
            split at h
            · rename_i he
              subst he
              injection h with h; subst h
              have hmv : a.eval m = .int k mm := by
                have := ev_sound hr m
                rw [hmm] at this
                cases h2 : a.eval m with
                | int k' n' => rw [h2] at this; cases this; rfl
                | _ => rw [h2] at this; cases this
              have hb := bounds3_ok (P := P) (b := true) (len := es.length) (cap := cap) hr hl hh hmv (by simp) c1 c2 (Int.le_refl _) (by omega)
              refine gives_run (v := .slice (if mm.toNat = l.toNat then ad else ad.map (·.add (l.toNat * i.size))) (mm.toNat - l.toNat) (mm.toNat - l.toNat)) (fun w' => ?_) (sl_cut hx' c4 (by omega) (by omega) (by omega) rfl)
              simp only [Option.map_some] at hb
              simp [Instr.sliceAt, Instr.slice, run_underlying h1, hb, hsz']
            · cases h
          · cases h
        · cases h
      · cases h
    · cases h
  · cases h
end
end Go.Abs

/-
  The pure operations all together.
-/
namespace Go.Abs
open Go.RowKit

section
variable {P : Program} {C : Cx} {H : Heap} {w : World}

theorem cells_val {v : AV} {u : Value} (h : Repr C H w v u) (hv : v.isVal = true) : u.cells.size = v.cells.length ∧ ∀ j, j < v.cells.length → oneV (u.cells.getD j default) = true ∧ Repr C H w (v.cells.getD j .junk) (u.cells.getD j default) := by
  have one : ∀ (x : AV) (y : Value), x.cells = [x] → y.cells = #[y] → oneV y = true → Repr C H w x y → y.cells.size = x.cells.length ∧ ∀ j, j < x.cells.length → oneV (y.cells.getD j default) = true ∧ Repr C H w (x.cells.getD j .junk) (y.cells.getD j default) := by
    intro x y e1 e2 ho hr
    rw [e1, e2]
    refine ⟨rfl, fun j hj => ?_⟩
    have : j = 0 := by simpa using hj
    subst this
    exact ⟨ho, hr⟩
  cases h with
  | junk => simp [AV.isVal] at hv
  | tup => simp [AV.isVal] at hv
  | agg cs vs h1 h2 h3 => exact ⟨h1.symm, fun j hj => ⟨h2 j hj, h3 j hj⟩⟩
  | bool b => exact one _ _ rfl rfl rfl (.bool b)
  | int k n => exact one _ _ rfl rfl rfl (.int k n)
  | str l s h => exact one _ _ rfl rfl rfl (.str l s h)
  | ptr id off h => exact one _ _ rfl rfl rfl (.ptr id off h)
  | rptr cs b off us hc hr => exact one _ _ rfl rfl rfl (.rptr cs b off us hc hr)
  | gptr g off => exact one _ _ rfl rfl rfl (.gptr g off)
  | nilp => exact one _ _ rfl rfl rfl .nilp
  | snil => exact one _ _ rfl rfl rfl .snil
  | rs id n k cap ty h hn hs => exact one _ _ rfl rfl rfl (.rs id n k cap ty h hn hs)
  | tptr T sz id h hs => exact one _ _ rfl rfl rfl (.tptr T sz id h hs)
  | bp ty l p h => exact one _ _ rfl rfl rfl (.bp ty l p h)
  | sl es t a cap b off us ha hc hr hl ht => exact one _ _ rfl rfl rfl (.sl es t a cap b off us ha hc hr hl ht)
  | ms id off len k a cap h ha hl hs => exact one _ _ rfl rfl rfl (.ms id off len k a cap h ha hl hs)
  | map id h => exact one _ _ rfl rfl rfl (.map id h)
  | nilmap => exact one _ _ rfl rfl rfl .nilmap
  | func f cap vs hs hr => exact one _ _ rfl rfl rfl (.func f cap vs hs hr)
  | nilfunc => exact one _ _ rfl rfl rfl .nilfunc
  | iface t x v hr => exact one _ _ rfl rfl rfl (.iface t x v hr)
  | nilIface => exact one _ _ rfl rfl rfl .nilIface

/-- Cells that stand for cells. -/
def CellsOK (C : Cx) (H : Heap) (w : World) (cs : List AV) (vs : Array Value) : Prop :=
  cs.length = vs.size ∧ ∀ j, j < cs.length → oneV (vs.getD j default) = true ∧ Repr C H w (cs.getD j .junk) (vs.getD j default)
theorem CellsOK.agg {cs : List AV} {vs : Array Value} (h : CellsOK C H w cs vs) : Repr C H w (.agg cs) (.agg vs) := .agg _ _ h.1 (fun j hj => (h.2 j hj).1) fun j hj => (h.2 j hj).2
theorem CellsOK.of_agg {cs : List AV} {vs : Array Value} (h : Repr C H w (.agg cs) (.agg vs)) : CellsOK C H w cs vs := by
  cases h with
  | agg _ _ h1 h2 h3 => exact ⟨h1, fun j hj => ⟨h2 j hj, h3 j hj⟩⟩

theorem foldl_set (vs : Array Value) (off : Nat) (cs : Array Value) (h : off + vs.size ≤ cs.size) :
    (vs.zipIdx.foldl (fun cs (c, j) => cs.setIfInBounds (off + j) c) cs).size = cs.size ∧
    ∀ k, (vs.zipIdx.foldl (fun cs (c, j) => cs.setIfInBounds (off + j) c) cs).getD k default = if off ≤ k ∧ k < off + vs.size then vs.getD (k - off) default else cs.getD k default := by
  have gen : ∀ (l : List Value) (n : Nat) (cs : Array Value), off + n + l.length ≤ cs.size →
      ((l.zipIdx n).foldl (fun cs (c, j) => cs.setIfInBounds (off + j) c) cs).size = cs.size ∧
      ∀ k, ((l.zipIdx n).foldl (fun cs (c, j) => cs.setIfInBounds (off + j) c) cs).getD k default = if off + n ≤ k ∧ k < off + n + l.length then l.getD (k - (off + n)) default else cs.getD k default := by
    intro l
    induction l with
    | nil => intro n cs _; refine ⟨rfl, fun k => ?_⟩; rw [if_neg (by simp)]; rfl
    | cons v l ih =>
      intro n cs hl
      simp only [List.length_cons] at hl
      obtain ⟨h1, h2⟩ := ih (n + 1) (cs.setIfInBounds (off + n) v) (by simp; omega)
      simp only [List.zipIdx_cons, List.foldl_cons]
      refine ⟨by rw [h1]; simp, fun k => ?_⟩
      rw [h2]
      simp only [List.length_cons]
      by_cases hk : off + n = k
      · subst hk
        rw [if_neg (by omega), if_pos (by omega)]
        simp [Array.getD_eq_getD_getElem?, show off + n < cs.size by omega]
      · by_cases hin : off + (n + 1) ≤ k ∧ k < off + (n + 1) + l.length
        · rw [if_pos hin, if_pos (by omega)]
          have : k - (off + n) = (k - (off + (n + 1))) + 1 := by omega
          rw [this]; rfl
        · rw [if_neg hin, if_neg (by omega)]
          simp [Array.getD_eq_getD_getElem?, Array.getElem?_setIfInBounds_ne hk]
  have := gen vs.toList 0 cs (by simpa using h)
  rw [← Array.foldl_toList, Array.toList_zipIdx]
  simp only [Nat.add_zero, Array.length_toList] at this
  refine ⟨this.1, fun k => ?_⟩
  rw [this.2 k]
  simp [List.getD, Array.getD_eq_getD_getElem?]

theorem writeC_length {cs : List AV} {off : Nat} {vs : List AV} (h : off + vs.length ≤ cs.length) : (writeC cs off vs).length = cs.length := by
  unfold writeC
  split
  · simp
  · simp; omega
theorem writeC_get {cs : List AV} {off : Nat} {vs : List AV} (h : off + vs.length ≤ cs.length) (k : Nat) : (writeC cs off vs).getD k .junk = if off ≤ k ∧ k < off + vs.length then vs.getD (k - off) .junk else cs.getD k .junk := by
  unfold writeC
  split
  · rename_i v
    simp only [List.length_singleton] at h ⊢
    simp only [List.getD, List.getElem?_set]
    by_cases hk : off = k
    · subst hk; rw [if_pos (by omega)]; simp [show off < cs.length by omega]
    · rw [if_neg hk, if_neg (by omega)]
  · simp only [List.getD, List.append_assoc]
    by_cases h1 : k < off
    · rw [if_neg (by omega), List.getElem?_append_left (by simp; omega), List.getElem?_take_of_lt h1]
    · rw [List.getElem?_append_right (by simp; omega)]
      have e : (cs.take off).length = off := by simp; omega
      rw [e]
      by_cases h2 : k < off + vs.length
      · rw [if_pos (by omega), List.getElem?_append_left (by omega)]
      · rw [if_neg (by omega), List.getElem?_append_right (by omega), List.getElem?_drop]
        congr 2; omega

theorem fill_sound {place : Nat → Option (Nat × Nat)} : ∀ (parts : List (Nat × AV)) (qs : List (Nat × Value)) (cs zs : List AV) (vs : Array Value),
    fillA place cs parts = some zs → CellsOK C H w cs vs → parts.length = qs.length →
    (∀ j, j < parts.length → (parts.getD j default).1 = (qs.getD j default).1 ∧ Repr C H w (parts.getD j default).2 (qs.getD j default).2) →
    ∃ us, Instr.fill place vs qs = some us ∧ CellsOK C H w zs us := by
  intro parts
  induction parts with
  | nil =>
    intro qs cs zs vs h hc hl _
    cases qs with
    | nil => simp only [fillA] at h; injection h with h; subst h; exact ⟨vs, rfl, hc⟩
    | cons => simp at hl
  | cons p parts ih =>
    intro qs cs zs vs h hc hl hq
    cases qs with
    | nil => simp at hl
    | cons q qs =>
      obtain ⟨i, v⟩ := p
      obtain ⟨i', u⟩ := q
      have h0 := hq 0 (by simp)
      simp only [List.getD_cons_zero] at h0
      obtain ⟨rfl, hvu⟩ := h0
      simp only [fillA] at h
      split at h
      · rename_i off size hp
        split at h
        · rename_i hcond
          obtain ⟨c1, c2, c3⟩ := hcond
          obtain ⟨s1, s2⟩ := cells_val hvu c1
          have hsz : u.cells.size = size := by rw [s1, c2]
          have hb : off + u.cells.size ≤ vs.size := by rw [hsz, ← hc.1]; exact c3
          obtain ⟨f1, f2⟩ := foldl_set u.cells off vs hb
          have hc' : CellsOK C H w (writeC cs off v.cells) (u.cells.zipIdx.foldl (fun cs (c, j) => cs.setIfInBounds (off + j) c) vs) := by
            refine ⟨by rw [writeC_length (by omega), f1, hc.1], fun j hj => ?_⟩
            rw [writeC_length (by omega)] at hj
            rw [f2, writeC_get (by omega)]
            by_cases hin : off ≤ j ∧ j < off + v.cells.length
            · rw [if_pos hin, if_pos (by omega)]; exact s2 _ (by omega)
            · rw [if_neg hin, if_neg (by omega)]; exact hc.2 j hj
          obtain ⟨us, hu1, hu2⟩ := ih qs _ zs _ h hc' (by simpa using hl) (fun j hj => by have := hq (j + 1) (by simpa using hj); simpa using this)
          refine ⟨us, ?_, hu2⟩
          simp only [Instr.fill, hp]
          rw [if_neg (by simp; omega)]
          exact hu1
        · cases h
      · cases h

theorem zero_run {t : TypeId} {i : TI} (h : ti P t = some i) (hz : i.zero ≠ .junk) : ∃ v, (∀ w' : World, (zeroValue t).run P w' = .ok v w') ∧ Repr C H w i.zero v := by
  obtain ⟨info, d, h1, h2, -, -, -, h3, -⟩ := ti_desc h
  cases hzz : info.zero with
  | none => rw [hzz] at h3; simp at h3; exact absurd h3 hz
  | some v =>
    rw [hzz] at h3
    simp only [Option.map_some, Option.getD_some] at h3
    exact ⟨v, fun w' => by simp [zeroValue, typeInfo, h1, hzz], by rw [h3]; exact repr_ofValue v⟩
theorem zero_cells {t : TypeId} {i : TI} (h : ti P t = some i) (hz : i.zero.isVal = true) : ∃ v, (∀ w' : World, (zeroValue t).run P w' = .ok v w') ∧ Repr C H w i.zero v ∧ ∀ j, j < v.cells.size → ofCell (v.cells.getD j default) = i.zero.cells.getD j .junk := by
  obtain ⟨info, d, h1, h2, -, -, -, h3, -⟩ := ti_desc h
  cases hzz : info.zero with
  | none => rw [hzz] at h3; simp at h3; rw [h3] at hz; simp [AV.isVal] at hz
  | some v =>
    rw [hzz] at h3
    simp only [Option.map_some, Option.getD_some] at h3
    refine ⟨v, fun w' => by simp [zeroValue, typeInfo, h1, hzz], by rw [h3]; exact repr_ofValue v, ?_⟩
    rw [h3] at hz ⊢
    have one : ∀ u : Value, (ofCell u).cells = [ofCell u] := fun u => by unfold ofCell; split <;> rfl
    cases v with
    | agg cs =>
      simp only [ofValue] at hz ⊢
      split at hz
      · rename_i ha
        rw [if_pos ha]
        intro j hj
        have hj' : j < cs.size := hj
        simp [AV.cells, Value.cells, List.getD, Array.getD, hj']
      · simp [AV.isVal] at hz
    | _ =>
      intro j hj
      simp only [ofValue, Value.cells] at hj ⊢
      have : j = 0 := by simpa using hj
      subst this
      rw [one]
      rfl
theorem zeroOf_run {t : TypeId} {z : List AV} (h : zeroOf P t = .agg z) : ∃ vs, (∀ w' : World, (zeroValue t).run P w' = .ok (.agg vs) w') ∧ CellsOK C H w z vs := by
  unfold zeroOf at h
  split at h
  · rename_i i hi
    obtain ⟨v, h1, h2⟩ := zero_run (C := C) (H := H) (w := w) hi (by rw [h]; simp)
    rw [h] at h2
    cases v with
    | agg vs => exact ⟨vs, h1, .of_agg h2⟩
    | _ => cases h2
  · cases h

theorem desc_struct {t : TypeId} {fs : List (Nat × TypeId)} (h : descOf P t = .struct fs) : ∃ gs : Array Field, P.underlying t = some (.struct gs) ∧ fs = gs.toList.map fun f => (f.offset, f.type) := by
  obtain ⟨d, h1, h2⟩ := descOf_eq h (by simp)
  obtain ⟨gs, rfl, h3, -⟩ := td_struct h2
  exact ⟨gs, h1, h3⟩

theorem parts_ok {r : Regs} {a : Act} (hr : RegsOK C H w r a.tmps) (parts : Array (Nat × Operand)) :
    (parts.toList.map fun p => (p.1, ev r p.2)).length = (parts.map fun ((i, x) : Nat × Operand) => (i, a.eval x)).toList.length ∧
    ∀ j, j < (parts.toList.map fun p => (p.1, ev r p.2)).length → ((parts.toList.map fun p => (p.1, ev r p.2)).getD j default).1 = ((parts.map fun ((i, x) : Nat × Operand) => (i, a.eval x)).toList.getD j default).1 ∧
      Repr C H w ((parts.toList.map fun p => (p.1, ev r p.2)).getD j default).2 ((parts.map fun ((i, x) : Nat × Operand) => (i, a.eval x)).toList.getD j default).2 := by
  refine ⟨by simp, fun j hj => ?_⟩
  have hj' : j < parts.size := by simpa using hj
  have e1 : (parts.toList.map fun p => (p.1, ev r p.2)).getD j default = (parts[j].1, ev r parts[j].2) := by simp [List.getD, hj']
  have e2 : (parts.map fun ((i, x) : Nat × Operand) => (i, a.eval x)).toList.getD j default = (parts[j].1, a.eval parts[j].2) := by simp [List.getD, hj']
  rw [e1, e2]
  exact ⟨rfl, ev_sound hr _⟩

theorem places_run : ∀ (gs : List Field) (pl : List (Nat × Nat)), placesL P (gs.map fun f => (f.offset, f.type)) = some pl →
    ∀ w' : World, (gs.mapM (m := Sem) fun f => do pure (f.offset, ← sizeOf f.type)).run P w' = .ok pl w' := by
  intro gs
  induction gs with
  | nil => intro pl h w'; simp only [List.map_nil, placesL] at h; injection h with h; subst h; rfl
  | cons f gs ih =>
    intro pl h w'
    simp only [List.map_cons, placesL] at h
    split at h
    · rename_i i l hi hl
      injection h with h; subst h
      simp only [List.mapM_cons, Sem.run_bind, run_size hi, Result.andThen_ok, Sem.run_pure, ih _ hl]
    · cases h
theorem places_runA (gs : Array Field) (pl : List (Nat × Nat)) (h : placesL P (gs.toList.map fun f => (f.offset, f.type)) = some pl) (w' : World) :
    (gs.mapM (m := Sem) fun f => do pure (f.offset, ← sizeOf f.type)).run P w' = .ok pl.toArray w' := by
  rw [Array.mapM_eq_mapM_toList, Sem.run_map, places_run _ _ h]
  rfl

theorem build_sound {r : Regs} {a : Act} (hr : RegsOK C H w r a.tmps) {t : TypeId} {parts : Array (Nat × Operand)} {z : AV} (h : buildA P t (parts.toList.map fun p => (p.1, ev r p.2)) = some z) :
    Gives P C H w z (Instr.build t (parts.map fun ((i, x) : Nat × Operand) => (i, a.eval x))) := by
  obtain ⟨p1, p2⟩ := parts_ok hr parts
  unfold buildA at h
  split at h
  · rename_i fs zs hd hz
    obtain ⟨gs, h1, rfl⟩ := desc_struct hd
    obtain ⟨vs, hv, hvr⟩ := zeroOf_run (C := C) (H := H) (w := w) hz
    split at h
    · rename_i pl hpl
      simp only [Option.map_eq_some_iff] at h
      obtain ⟨ys, hy, rfl⟩ := h
      obtain ⟨us, u1, u2⟩ := fill_sound _ _ _ _ _ hy hvr p1 p2
      have e : (fun i : Nat => pl[i]?) = fun i : Nat => pl.toArray[i]? := by funext i; simp
      rw [e] at u1
      refine gives_run (v := .agg us) (fun w' => ?_) u2.agg
      simp only [Instr.build, Sem.run_bind, hv, Result.andThen_ok, run_underlying h1, places_runA _ _ hpl, Value.cells]
      rw [u1]; rfl
    · cases h
  · rename_i n et zs hd hz
    obtain ⟨vs, hv, hvr⟩ := zeroOf_run (C := C) (H := H) (w := w) hz
    split at h
    · rename_i i hi
      have h1 : P.underlying t = some (.array n et) := by
        obtain ⟨d, d1, d2⟩ := descOf_eq hd (by simp)
        have := (td_plain d2).2.2.2.2.1 _ _ rfl
        subst this; exact d1
      simp only [Option.map_eq_some_iff] at h
      obtain ⟨ys, hy, rfl⟩ := h
      obtain ⟨us, u1, u2⟩ := fill_sound _ _ _ _ _ hy hvr p1 p2
      refine gives_run (v := .agg us) (fun w' => ?_) u2.agg
      simp only [Instr.build, Sem.run_bind, hv, Result.andThen_ok, run_underlying h1, run_size hi, Value.cells]
      rw [u1]; rfl
    · cases h
  · cases h

theorem lenT_sound {ts : Array TypeId} {x z : AV} {u : Value} (h : lenT P ts.toList x = some z) (hx : Repr C H w x u) (t : TypeId) : Gives P C H w z (Builtin.len_ ts t #[u]) := by
  unfold lenT at h
  split at h
  · rename_i t1 hts
    have e0 : ts[0]? = some t1 := by rw [← Array.getElem?_toList, hts]; rfl
    split at h
    · rename_i n et hd
      injection h with h; subst h
      have h1 : P.underlying t1 = some (.array n et) := by
        obtain ⟨d, d1, d2⟩ := descOf_eq hd (by simp)
        have := (td_plain d2).2.2.2.2.1 _ _ rfl
        subst this; exact d1
      exact gives_run (v := .int .i64 n) (fun w' => by simp [Builtin.len_, e0, run_underlying h1, goInt]) (.int _ _)
    · rename_i s hd
      injection h with h; subst h
      cases hx
      rename_i bs hbs
      exact gives_run (v := .int .i64 s.length) (fun w' => by simp [Builtin.len_, e0, run_underlying (desc_string hd), goInt, ← hbs]) (.int _ _)
    · rename_i et es tl hd
      injection h with h; subst h
      have h1 : P.underlying t1 = some (.slice et) := by
        obtain ⟨d, d1, d2⟩ := descOf_eq hd (by simp)
        have := (td_plain d2).2.2.2.1 _ rfl
        subst this; exact d1
      cases hx
      exact gives_run (v := .int .i64 es.length) (fun w' => by simp [Builtin.len_, e0, run_underlying h1, goInt]) (.int _ _)
    · rename_i et hd
      injection h with h; subst h
      have h1 : P.underlying t1 = some (.slice et) := by
        obtain ⟨d, d1, d2⟩ := descOf_eq hd (by simp)
        have := (td_plain d2).2.2.2.1 _ rfl
        subst this; exact d1
      cases hx
      exact gives_run (v := .int .i64 0) (fun w' => by simp [Builtin.len_, e0, run_underlying h1, goInt]) (.int _ _)
    · rename_i et _ _ n _ hd
      injection h with h; subst h
      have h1 : P.underlying t1 = some (.slice et) := by
        obtain ⟨d, d1, d2⟩ := descOf_eq hd (by simp)
        have := (td_plain d2).2.2.2.1 _ rfl
        subst this; exact d1
      cases hx
      exact gives_run (v := .int .i64 n) (fun w' => by simp [Builtin.len_, e0, run_underlying h1, goInt]) (.int _ _)
    · cases h
  · cases h

theorem minG_sound : ∀ (xs : List AV) (us : List Value) (k : IntKind) (n : Int) (z : AV), minG k n xs = some z → xs.length = us.length → (∀ j, j < xs.length → Repr C H w (xs.getD j .junk) (us.getD j default)) →
    ∃ v, (∀ w' : World, (us.foldlM (m := Sem) Builtin.min2 (.int k n)).run P w' = .ok v w') ∧ Repr C H w z v := by
  intro xs
  induction xs with
  | nil =>
    intro us k n z h hl _
    cases us with
    | nil => simp only [minG] at h; injection h with h; subst h; exact ⟨_, fun w' => rfl, .int _ _⟩
    | cons => simp at hl
  | cons x xs ih =>
    intro us k n z h hl hr
    cases us with
    | nil => simp at hl
    | cons u us =>
      unfold minG at h
      split at h
      · rename_i h0; cases h0
      · rename_i k' b r h0
        injection h0 with h1 h2; subst h1 h2
        have := hr 0 (by simp)
        simp only [List.getD_cons_zero] at this
        cases this
        obtain ⟨v, hv, hvr⟩ := ih us _ _ _ h (by simpa using hl) (fun j hj => by have := hr (j + 1) (by simpa using hj); simpa using this)
        exact ⟨v, fun w' => by simp [List.foldlM_cons, Builtin.min2, hv], hvr⟩
      · cases h
theorem maxG_sound : ∀ (xs : List AV) (us : List Value) (k : IntKind) (n : Int) (z : AV), maxG k n xs = some z → xs.length = us.length → (∀ j, j < xs.length → Repr C H w (xs.getD j .junk) (us.getD j default)) →
    ∃ v, (∀ w' : World, (us.foldlM (m := Sem) Builtin.max2 (.int k n)).run P w' = .ok v w') ∧ Repr C H w z v := by
  intro xs
  induction xs with
  | nil =>
    intro us k n z h hl _
    cases us with
    | nil => simp only [maxG] at h; injection h with h; subst h; exact ⟨_, fun w' => rfl, .int _ _⟩
    | cons => simp at hl
  | cons x xs ih =>
    intro us k n z h hl hr
    cases us with
    | nil => simp at hl
    | cons u us =>
      unfold maxG at h
      split at h
      · rename_i h0; cases h0
      · rename_i k' b r h0
        injection h0 with h1 h2; subst h1 h2
        have := hr 0 (by simp)
        simp only [List.getD_cons_zero] at this
        cases this
        obtain ⟨v, hv, hvr⟩ := ih us _ _ _ h (by simpa using hl) (fun j hj => by have := hr (j + 1) (by simpa using hj); simpa using this)
        exact ⟨v, fun w' => by simp [List.foldlM_cons, Builtin.max2, hv], hvr⟩
      · cases h

theorem args_ok {r : Regs} {a : Act} (hr : RegsOK C H w r a.tmps) (xs : Array Operand) : ReprL C H w (xs.toList.map (ev r)) (xs.map a.eval).toList := by
  refine ⟨by simp, fun j hj => ?_⟩
  have hj' : j < xs.size := by simpa using hj
  have e1 : (xs.toList.map (ev r)).getD j .junk = ev r xs[j] := by simp [List.getD, hj']
  have e2 : (xs.map a.eval).toList.getD j default = a.eval xs[j] := by simp [List.getD, hj']
  rw [e1, e2]
  exact ev_sound hr _

theorem minA_sound {xs : List AV} {us : Array Value} {z : AV} (h : minA xs = some z) (hx : ReprL C H w xs us.toList) (ts : Array TypeId) (t : TypeId) : Gives P C H w z (Builtin.min_ ts t us) := by
  unfold minA at h
  split at h
  · rename_i k a r
    obtain ⟨hl, hr⟩ := hx
    cases hu : us.toList with
    | nil => rw [hu] at hl; simp at hl
    | cons u us' =>
      rw [hu] at hl hr
      have h0 := hr 0 (by simp)
      simp only [List.getD_cons_zero] at h0
      cases h0
      obtain ⟨v, hv, hvr⟩ := minG_sound (P := P) _ us' _ _ _ h (by simpa using hl) (fun j hj => by have := hr (j + 1) (by simpa using hj); simpa using this)
      exact ⟨v, fun w' => by simp only [Builtin.min_, hu]; exact hv w', hvr⟩
  · cases h
theorem maxA_sound {xs : List AV} {us : Array Value} {z : AV} (h : maxA xs = some z) (hx : ReprL C H w xs us.toList) (ts : Array TypeId) (t : TypeId) : Gives P C H w z (Builtin.max_ ts t us) := by
  unfold maxA at h
  split at h
  · rename_i k a r
    obtain ⟨hl, hr⟩ := hx
    cases hu : us.toList with
    | nil => rw [hu] at hl; simp at hl
    | cons u us' =>
      rw [hu] at hl hr
      have h0 := hr 0 (by simp)
      simp only [List.getD_cons_zero] at h0
      cases h0
      obtain ⟨v, hv, hvr⟩ := maxG_sound (P := P) _ us' _ _ _ h (by simpa using hl) (fun j hj => by have := hr (j + 1) (by simpa using hj); simpa using this)
      exact ⟨v, fun w' => by simp only [Builtin.max_, hu]; exact hv w', hvr⟩
  · cases h

theorem conv_sound {src dst : TypeId} {x z : AV} {u : Value} (h : convA P src dst x = some z) (hx : Repr C H w x u) : Gives P C H w z (convert src dst u) := by
  unfold convA at h
  split at h
  · rename_i k k' n hd
    split at h
    · cases h
    · rename_i hs
      injection h with h; subst h
      cases hx
      obtain ⟨d, d1, -⟩ := descOf_eq (P := P) (t := src) rfl hs
      exact gives_run (v := .int k (k.wrap n)) (fun w' => by simp [convert, run_underlying d1, run_underlying (desc_int hd), Conv.intToInt]) (.int _ _)
  · rename_i s hd
    split at h
    · rename_i hs
      injection h with h; subst h
      cases hx
      rename_i bs hbs
      exact gives_run (v := .string bs) (fun w' => by simp [convert, run_underlying (desc_string hs), run_underlying (desc_string hd)]) (.str _ _ hbs)
    · cases h
  · cases h
end
end Go.Abs

/-
  A pure operation of the machine.
-/
namespace Go.Abs
open Go.RowKit

section
variable {P : Program} {C : Cx} {H : Heap} {w : World}

/-- An operation yields a value in every world. -/
def Yes (P : Program) (C : Cx) (H : Heap) (w : World) (z : AV) (s : Sem Next) : Prop := ∃ v, (∀ w' : World, s.run P w' = .ok (.value v) w') ∧ Repr C H w z v
theorem Yes.of_gives {z : AV} {s : Sem Value} (h : Gives P C H w z s) : Yes P C H w z (do pure (.value (← s))) := by
  obtain ⟨v, h1, h2⟩ := h
  exact ⟨v, fun w' => by simp [h1], h2⟩

theorem exec_builtin (ρ : Operand → Value) (dst : Option Tmp) (b : Builtin) (args : Array Operand) (ts : Array TypeId) (type : TypeId) (pos : String) (after : Array Edge) (guard : Option (Nat × Bool)) :
    execOp ρ ⟨dst, .call ⟨.builtin b, args, ts⟩, type, pos, after, guard⟩ = builtin b ts type (args.map fun | .const _ => true | _ => false) (args.map ρ) := rfl

theorem desc_ptr {t e : TypeId} (h : descOf P t = .pointer e) : P.underlying t = some (.pointer e) := by
  obtain ⟨d, h1, h2⟩ := descOf_eq h (by simp)
  have := (td_plain h2).2.2.2.2.2.2.2 _ rfl
  rw [h1, this]
theorem desc_slice {t e : TypeId} (h : descOf P t = .slice e) : P.underlying t = some (.slice e) := by
  obtain ⟨d, h1, h2⟩ := descOf_eq h (by simp)
  have := (td_plain h2).2.2.2.1 _ rfl
  rw [h1, this]
theorem u8s_some : ∀ (es : List (List AV)) (l : List UInt8), u8s es = some l → es = l.map fun b => [AV.int .u8 b.toNat] := by
  intro es
  induction es with
  | nil => intro l h; cases h; rfl
  | cons e es ih =>
    intro l h
    unfold u8s at h
    split at h
    · cases h; contradiction
    · rename_i n es' heq
      cases heq
      split at h
      · rename_i hn
        cases hu : u8s es with
        | none => rw [hu] at h; cases h
        | some l' =>
          rw [hu] at h
          cases h
          rw [ih l' hu, List.map_cons, ← hn]
      · cases h
    · cases h
theorem singles8 (l : List UInt8) : (l.map fun b : UInt8 => [AV.int .u8 b.toNat]).flatten = l.map fun b : UInt8 => AV.int .u8 b.toNat := by
  induction l with
  | nil => rfl
  | cons b l ih => simp [ih]
theorem sliceData_gives {xs : List AV} {us : Array Value} {z : AV} (h : sliceDataL xs = some z) (hx : ReprL C H w xs us.toList) (ts : Array TypeId) (ty : TypeId) : Gives P C H w z (Builtin.unsafeSliceData_ ts ty us) := by
  unfold sliceDataL at h
  split at h
  · rename_i x
    obtain ⟨l1, l2⟩ := hx
    have hus : ∃ u, us = #[u] := Array.size_eq_one_iff.1 (by simpa using l1.symm)
    obtain ⟨u, rfl⟩ := hus
    have hu : Repr C H w x u := by simpa using l2 0 (by simp)
    unfold sliceDataA at h
    split at h
    · cases h
      cases hu
      exact gives_run (fun w' => Lib.run_unsafeSliceData_nil w' _ _ _ _) (.bp 0 [] none (fun h => absurd rfl h))
    · rename_i es id k t
      split at h
      · rename_i hc
        obtain ⟨rfl, hne⟩ := hc
        rw [Option.map_eq_some_iff] at h
        obtain ⟨l, hl8, rfl⟩ := h
        have hes := u8s_some _ _ hl8
        subst hes
        cases hu with
        | sl _ _ a cap b off us' ha hc hr hl ht =>
        obtain ⟨t1, t2, ty0, sz0, t3, t4, t5, t6⟩ := ht
        have t5 := t5 t rfl
        subst t5
        subst t2
        simp only [List.length_map] at hl
        have hne' : l ≠ [] := by intro e; subst e; exact hne rfl
        have hlp := List.length_pos_iff.2 hne'
        refine gives_run (fun w' => Lib.run_unsafeSliceData_row w' _ _ _ _ _ (show cap ≠ 0 by omega)) (.bp ty0 l _ fun hne => ⟨C.β id, sz0, rfl, t6, t3, by omega, fun j x hj => ?_⟩)
        have hfl : (l.map fun b : UInt8 => [AV.int .u8 b.toNat]).flatten = l.map fun b : UInt8 => AV.int .u8 b.toNat := singles8 l
        rw [hfl] at ha hc hr
        simp only [List.length_map] at ha hc hr
        have hjl : j < l.length := (List.getElem?_eq_some_iff.1 hj).1
        have hab := ha (by omega)
        injection hab with hab
        injection hab with hb1 hb2
        subst hb1; subst hb2
        obtain ⟨c1, c2, c3⟩ := hc j hjl
        have hrj := hr j hjl
        have e3 : (l.map fun b : UInt8 => AV.int .u8 b.toNat).getD j .junk = .int .u8 x.toNat := by simp [List.getD, hj]
        rw [e3] at hrj
        rw [Nat.zero_add] at c1 c3
        generalize us' j = y at c1 hrj
        cases hrj
        exact ⟨c1, c3⟩
      · cases h
    · cases h
  · cases h
theorem cap_gives {xs : List AV} {us : Array Value} {z : AV} {ts : Array TypeId} (h : capL P ts.toList xs = some z) (hx : ReprL C H w xs us.toList) (ty : TypeId) : Gives P C H w z (Builtin.cap_ ts ty us) := by
  unfold capL at h
  split at h
  · rename_i t hts
    obtain ⟨l1, l2⟩ := hx
    have hus : ∃ u, us = #[u] := Array.size_eq_one_iff.1 (by simpa using l1.symm)
    obtain ⟨u, rfl⟩ := hus
    have hu : Repr C H w .snil u := by simpa using l2 0 (by simp)
    obtain rfl : ts = #[t] := by apply Array.ext'; exact hts
    split at h
    · rename_i e he
      cases h
      cases hu
      exact gives_run (v := .int .i64 0) (fun w' => by simp [Builtin.cap_, run_underlying (desc_slice he), goInt]) (.int _ _)
    · cases h
  · cases h
theorem pop_sound {r : Regs} {a : Act} (hr : RegsOK C H w r a.tmps) (o : Oper) {z : AV} (h : pop P r o.op = some z) : Yes P C H w z (execOp a.eval o) := by
  obtain ⟨dst, op, type, pos, after, guard⟩ := o
  simp only at h
  unfold pop at h
  split at h
  · injection h with h; subst h; exact ⟨_, fun w' => rfl, ev_sound hr _⟩
  · injection h with h; subst h; exact ⟨_, fun w' => rfl, ev_sound hr _⟩
  · obtain ⟨v, h1, h2⟩ := pick_sound (P := P) h (ev_sound hr _) (ev_sound hr _) (ev_sound hr _)
    refine ⟨v, fun w' => ?_, h2⟩
    have := h1 w'
    simp only [execOp] at this ⊢
    rename_i c _ _
    cases hc : a.eval c <;> simp [hc, asBool] at this ⊢
    exact this
  · exact .of_gives (bin_sound h (ev_sound hr _) (ev_sound hr _))
  · exact .of_gives (un_sound h (ev_sound hr _))
  · exact .of_gives (field_sound h (ev_sound hr _))
  · exact .of_gives (fieldAddr_sound h (ev_sound hr _))
  · exact .of_gives (index_sound h (ev_sound hr _) (ev_sound hr _))
  · exact .of_gives (indexAddr_sound h (ev_sound hr _) (ev_sound hr _))
  · exact .of_gives (slice_sound hr h)
  · rename_i x i
    have hx := ev_sound hr x
    unfold extractA at h
    split at h
    · rename_i vs hvs
      rw [hvs] at hx
      generalize hu : a.eval x = u at hx
      cases hx with
      | tup _ us h1 h2 =>
      have hlt : i < vs.length := (List.getElem?_eq_some_iff.1 h).1
      have e : us[i]? = some (us.getD i default) := by rw [Array.getD_eq_getD_getElem?, Array.getElem?_eq_getElem (by omega)]; rfl
      have hz : vs.getD i .junk = z := by simp [List.getD, h]
      refine .of_gives (gives_run (v := us.getD i default) (fun w' => ?_) (by rw [← hz]; exact h2 i hlt))
      rw [hu]; simp only [Instr.extract, e]; rfl
    · cases h
  · rename_i x
    have hx := ev_sound hr x
    generalize hv : ev r x = v at h hx
    generalize hu : a.eval x = u at hx
    cases hx <;> simp only [nilChk, reduceCtorEq, Option.some.injEq] at h
    · subst h; rename_i hid; exact ⟨_, fun w' => by simp [execOp, hu], .ptr _ _ hid⟩
    · subst h; rename_i hc hr; exact ⟨_, fun w' => by simp [execOp, hu], .rptr _ _ _ _ hc hr⟩
    · subst h; rename_i hid hs; exact ⟨_, fun w' => by simp [execOp, hu], .tptr _ _ _ hid hs⟩
    · subst h; rename_i hs hr; exact ⟨_, fun w' => by simp [execOp, hu], .func _ _ _ hs hr⟩
  · rename_i fn first captured
    unfold funcA at h
    split at h
    · rename_i f hf
      injection h with h; subst h
      have hfe : first = #[] := by
        have : first.toList = [] := by simpa using hf
        simpa using this
      subst hfe
      obtain ⟨l1, l2⟩ := args_ok hr captured
      refine .of_gives (gives_run (v := .func (.func f) #[] (captured.map a.eval)) (fun w' => by simp [Instr.makeFunc]) (.func _ _ _ (by simp) (fun j hj => ?_)))
      have := l2 j hj
      simpa [List.getD, Array.getD_eq_getD_getElem?] using this
    · cases h
  · rename_i t x
    unfold ifaceA at h
    split at h
    · rename_i i hi
      split at h
      · cases h
      · rename_i hn
        injection h with h; subst h
        obtain ⟨info, d, h1, h2, h3, -⟩ := ti_desc hi
        refine .of_gives (gives_run (v := .iface t (a.eval x)) (fun w' => ?_) (.iface _ _ _ (ev_sound hr _)))
        simp only [Instr.makeInterface, Sem.run_bind, run_underlying h2, Result.andThen_ok]
        cases d <;> first | rfl | exact absurd h3 hn
    · cases h
  · exact .of_gives (build_sound hr h)
  · rename_i xs ts
    split at h
    · rename_i x hx
      have hxs : xs.size = 1 := by have := congrArg List.length hx; simpa using this
      obtain ⟨l1, l2⟩ := args_ok hr xs
      rw [hx] at l1 l2
      have h0 := l2 0 (by simp)
      simp only [List.getD_cons_zero] at h0
      have e : xs.map a.eval = #[(xs.map a.eval).toList.getD 0 default] := by
        apply Array.ext
        · simp [hxs]
        · intro i hi1 hi2
          have : i = 0 := by simp [hxs] at hi1; exact hi1
          subst this
          simp [List.getD, hxs]
      obtain ⟨v, h1, h2⟩ := lenT_sound h h0 type
      refine ⟨v, fun w' => ?_, h2⟩
      rw [exec_builtin]
      simp only [builtin, Sem.run_bind]
      rw [e, h1]; rfl
    · cases h
  · rename_i xs _
    obtain ⟨v, h1, h2⟩ := minA_sound h (args_ok hr xs) ‹_› type
    refine ⟨v, fun w' => ?_, h2⟩
    rw [exec_builtin]
    simp only [builtin, Sem.run_bind]
    rw [h1]; rfl
  · rename_i xs _
    obtain ⟨v, h1, h2⟩ := maxA_sound h (args_ok hr xs) ‹_› type
    refine ⟨v, fun w' => ?_, h2⟩
    rw [exec_builtin]
    simp only [builtin, Sem.run_bind]
    rw [h1]; rfl
  · rename_i xs _
    obtain ⟨v, h1, h2⟩ := sliceData_gives h (args_ok hr xs) ‹_› type
    refine ⟨v, fun w' => ?_, h2⟩
    rw [exec_builtin]
    simp only [builtin, Sem.run_bind]
    rw [h1]; rfl
  · rename_i xs _
    obtain ⟨v, h1, h2⟩ := cap_gives h (args_ok hr xs) type
    refine ⟨v, fun w' => ?_, h2⟩
    rw [exec_builtin]
    simp only [builtin, Sem.run_bind]
    rw [h1]; rfl
  · exact .of_gives (conv_sound h (ev_sound hr _))
  · cases h
end
end Go.Abs
