/- Part of the proof of a statement about the given program: EvDef EvRep EvOps EvOps2 EvOps3. No condition of its own. -/
import Derived.Orders
import Derived.WalkKit
section
/-!  -/
namespace Go.Ev

/-- Values without addresses. -/
inductive AV where
  /-- not known -/
  | undef
  /-- nothing was put here -/
  | void
  | bool (b : Bool)
  | int (k : IntKind) (n : Int)
  | str (s : ByteArray)
  /-- a slice that never changes -/
  | slice (sz : Nat) (xs : List AV)
  | nils (sz : Nat)
  /-- a slice of a block of the call's own; may it be appended to? -/
  | arr (id gen off len sz : Nat) (app : Bool)
  /-- the address of cells that never change -/
  | eptr (cs : List AV)
  | ptr (id gen off : Nat)
  | nilp
  | nilf
  | nili
  /-- an interface that holds something -/
  | iface
  | agg (cs : List AV)
  | tup (vs : List AV)
  | fn (f : FuncId) (cap : List AV)
  deriving Inhabited

def AV.cells : AV → List AV
  | .agg cs => cs
  | x => [x]

/-- One cell's value: none that is laid open, none that is not known. -/
def AV.one : AV → Bool
  | .undef | .void | .agg _ | .tup _ => false
  | _ => true

/-- A cell's value that leads to nothing that changes. -/
def AV.calm : AV → Bool
  | .undef | .void | .agg _ | .tup _ | .ptr _ _ _ | .arr _ _ _ _ _ _ | .nils _ => false
  | .fn _ cap => cap.isEmpty
  | _ => true

/-- Does a call that takes this share the caller's memory? -/
def AV.loud : AV → Bool
  | .ptr _ _ _ => true
  | .fn _ cap => !cap.isEmpty
  | _ => false

def upd {α : Type} (f : Nat → α) (i : Nat) (v : α) : Nat → α := fun j => if j = i then v else f j

/-- A block of the call's own. gen: how often it was appended to; froz: its cells stay. -/
structure Blk where
  cells : List AV
  gen : Nat := 0
  froz : Bool := false
  /-- the type of what it holds, if that is known; is it of just these cells? -/
  ty : Option (TypeId × Bool) := none

structure Mem where
  sto : Nat → Blk
  nid : Nat

def Mem.empty : Mem := ⟨fun _ => ⟨[], 0, false, none⟩, 0⟩

structure St extends Mem where
  env : Nat → AV

/-- What an operation comes to: its value, the blocks it reads, those it writes, how many it makes. -/
structure Act where
  val : AV
  sr : List Nat := []
  sw : List (Nat × Blk) := []
  nb : Nat := 0

/-- The elements of cells. -/
def elems (sz : Nat) : Nat → List AV → List AV
  | 0, _ => []
  | n + 1, cs => (if sz = 1 then cs.headD .undef else .agg (cs.take sz)) :: elems sz n (cs.drop sz)

/-- A value as another function's memory knows it. -/
def snapD (m : Mem) : Nat → AV → Option AV
  | 0, _ => none
  | k + 1, .arr id g off n sz _ => if g = (m.sto id).gen ∧ n * sz ≤ ((m.sto id).cells.drop off).length then ((((m.sto id).cells.drop off).take (n * sz)).mapM (snapD m k)).map fun cs => .slice sz (elems sz n cs) else none
  | k + 1, .agg cs => (cs.mapM (snapD m k)).map .agg
  | k + 1, .tup cs => (cs.mapM (snapD m k)).map .tup
  | _, .nils sz => some (.slice sz [])
  | _, .ptr _ _ _ | _, .undef | _, .void => none
  | _, .fn f cap => if cap.isEmpty then some (.fn f []) else none
  | _, x => some x

/-- The blocks that a value leads to. -/
def reachD (m : Mem) : Nat → AV → List Nat
  | 0, _ => []
  | k + 1, .arr id _ _ _ _ _ => id :: ((m.sto id).cells.map (reachD m k)).flatten
  | k + 1, .agg cs => (cs.map (reachD m k)).flatten
  | k + 1, .tup cs => (cs.map (reachD m k)).flatten
  | _, _ => []

section
variable (P : Program)

def szT (t : TypeId) : Nat := ((P.info? t).map (·.size)).getD 0
def bytesT (t : TypeId) : Nat := ((P.info? t).map (·.bytes)).getD 0
def isAggT (t : TypeId) : Option Bool :=
  (P.underlying t).map fun
    | .struct _ | .array _ _ => true
    | _ => false
def noIntT (t : TypeId) : Bool :=
  match P.underlying t with
  | some (.int _) | none => false
  | _ => true
def elemT (t : TypeId) : Option TypeId :=
  match P.underlying t with
  | some (.slice e) => some e
  | _ => none
def fieldsT (t : TypeId) : Option (Array Field) :=
  match P.underlying t with
  | some (.struct fs) => some fs
  | _ => none

/-- A constant of a type that is no struct. -/
def cv1 (t : TypeId) : Value → Option AV
  | .bool b => some (.bool b)
  | .int k n => some (.int k n)
  | .string s => some (.str s)
  | .pointer none => some .nilp
  | .nilFunc => some .nilf
  | .nilIface => some .nili
  | .slice none 0 0 => (elemT P t).map fun e => .nils (szT P e)
  | _ => none

/-- What a variable of a type begins as, cell by cell; by the depth of the type. -/
def zeroC : Nat → TypeId → Option (List AV)
  | 0, _ => none
  | d + 1, t =>
    if P.types.size ≤ t then none else
    match P.underlying t with
    | some (.struct fs) => (fs.toList.mapM fun f => zeroC d f.type).map List.flatten
    | some (.array n e) => (zeroC d e).map fun cs => (List.replicate n cs).flatten
    | _ => ((P.info? t).bind (·.zero)).bind fun z => (cv1 P t z).map fun x => [x]

def zeroA (t : TypeId) : Option AV := (zeroC P 6 t).bind fun cs => (isAggT P t).bind fun b => if b then some (.agg cs) else cs.head?

end

/-- What a function is given besides the program. -/
structure Ctx where
  P : Program
  glob : Nat → Option (List AV)
  /-- functions that are called in the caller's memory, whatever they take -/
  share : List FuncId := []
  /-- variables of packages whose blocks hold just these cells -/
  tabs : List (Nat × (Array Value → Prop)) := []
  /-- functions that are called in the caller's memory, and of whose results a plain value is made -/
  snaps : List FuncId := []
  /-- functions that are called in the caller's memory, and that take plain values for what they are given (but addresses) -/
  snapA : List FuncId := []
  /-- functions by contract that are called in the caller's memory -/
  pI : FuncId → List AV → Mem → Option (AV × Mem) := fun _ _ _ => none

variable (C : Ctx)

def opd (env : Nat → AV) (t : TypeId) : Operand → Option AV
  | .tmp i => some (env i)
  | .const v => cv1 C.P t v
  | .func f => some (.fn f [])
  | .global g => (C.glob g).map .eptr

def loadA (t : TypeId) (cs : List AV) : Option AV :=
  let n := szT C.P t
  (isAggT C.P t).bind fun b => if b then (if n ≤ cs.length then some (.agg (cs.take n)) else none) else cs.head?

def spliceA (cs : List AV) (off : Nat) (new : List AV) : List AV := cs.take off ++ new ++ cs.drop (off + new.length)

def fillA (cells : List AV) : List (Nat × Nat × AV) → Option (List AV)
  | [] => some cells
  | (off, size, v) :: rest => if v.cells.length = size ∧ off + size ≤ cells.length ∧ v.cells.all AV.one then fillA (spliceA cells off v.cells) rest else none

def wrapI (k : IntKind) (n : Int) : AV := .int k (k.wrap n)

def bitsI (k : IntKind) (f : BitVec k.bits → BitVec k.bits → BitVec k.bits) (a b : Int) : AV :=
  .int k (k.wrap (f (BitVec.ofInt k.bits a) (BitVec.ofInt k.bits b)).toNat)

/-- Comparing for equality what is no number and no string. -/
def eqV : Option TypeDesc → AV → AV → Option Bool
  | some .bool, .bool a, .bool b => some (a == b)
  | some (.pointer _), .nilp, .nilp => some true
  | some (.pointer _), .ptr _ _ _, .nilp | some (.pointer _), .eptr _, .nilp | some (.pointer _), .nilp, .ptr _ _ _ | some (.pointer _), .nilp, .eptr _ => some false
  | some (.slice _), .nils _, .nils _ => some true
  | some (.interface _), .iface, .nili | some (.interface _), .nili, .iface => some false
  | some (.slice _), .slice _ (_ :: _), .nils _ | some (.slice _), .nils _, .slice _ (_ :: _) => some false
  | some (.slice _), .arr _ _ _ _ _ _, .nils _ | some (.slice _), .nils _, .arr _ _ _ _ _ _ => some false
  | _, _, _ => none

def cmpI (op : BinOp) (a b : Int) : Option Bool :=
  match op with
  | .eql => some (a == b)
  | .neq => some (a != b)
  | .lss => some (a < b)
  | .leq => some (a ≤ b)
  | .gtr => some (a > b)
  | .geq => some (a ≥ b)
  | _ => none

def arithI (op : BinOp) (k : IntKind) (a b : Int) : Option AV :=
  match op with
  | .add => some (wrapI k (a + b))
  | .sub => some (wrapI k (a - b))
  | .mul => some (wrapI k (a * b))
  | .quo => if b = 0 then none else some (wrapI k (a.tdiv b))
  | .rem => if b = 0 then none else some (.int k (a.tmod b))
  | .and => some (bitsI k (· &&& ·) a b)
  | .or => some (bitsI k (· ||| ·) a b)
  | .xor => some (bitsI k (· ^^^ ·) a b)
  | .andNot => some (bitsI k (fun p q => p &&& ~~~q) a b)
  | _ => (cmpI op a b).map .bool

def strOp (op : BinOp) (a b : ByteArray) : Option AV :=
  match op with
  | .add => if a.size + b.size ≤ 9223372036854775807 then some (.str (a ++ b)) else none
  | .eql => some (.bool (a.toList == b.toList))
  | .neq => some (.bool !(a.toList == b.toList))
  | _ => none

def shiftI (op : BinOp) (k : IntKind) (a b : Int) : Option AV :=
  if b < 0 then none else
  match op with
  | .shl => some (.int k (k.wrap (a * 2 ^ (min b.toNat k.bits))))
  | .shr => some (.int k (a.fdiv (2 ^ (min b.toNat k.bits))))
  | _ => none

def binA (d : Option TypeDesc) (op : BinOp) (x y : AV) : Option AV :=
  match x, y with
  | .int k a, .int k' b => if op = .shl ∨ op = .shr then shiftI op k a b else if k = k' then arithI op k a b else none
  | .str a, .str b => strOp op a b
  | a, b => match op with
    | .eql => (eqV d a b).map .bool
    | .neq => (eqV d a b).map fun r => .bool (!r)
    | _ => none

/-- Comparing two cells by what they are. -/
def eq1 : Option TypeDesc → AV → AV → Option Bool
  | some .bool, .bool a, .bool b => some (a == b)
  | some (.int _), .int k a, .int k' b => if k = k' then some (a == b) else none
  | some .string, .str a, .str b => some (decide (a = b))
  | _, _, _ => none

/-- Comparing structs, field by field. -/
def eqF (E : TypeId → List AV → List AV → Option Bool) (xs ys : List AV) : List Field → Option Bool
  | [] => some true
  | f :: r => if f.name = "_" then none else
    ((loadA C f.type (xs.drop f.offset)).bind fun x => (loadA C f.type (ys.drop f.offset)).bind fun y => match x, y with
      | .agg a, .agg b => E f.type a b
      | x, y => eq1 (C.P.underlying f.type) x y).bind fun b => (eqF E xs ys r).map (b && ·)

def eqS : Nat → TypeId → List AV → List AV → Option Bool
  | 0, _, _, _ => none
  | d + 1, t, xs, ys => match C.P.underlying t with
    | some (.struct fs) => if C.P.stoodInHeld t then none else eqF C (eqS d) xs ys fs.toList
    | _ => none

/-- Comparing structs; a nil interface is compared with the literal nil alone. -/
def binX (t : TypeId) (y : Operand) (op : BinOp) (a b : AV) : Option AV :=
  match a with
  | .agg xs => match b with
    | .agg ys => if C.P.eqGuardType C.P.depth t then none else match op with
      | .eql => (eqS C 4 t xs ys).map .bool
      | .neq => (eqS C 4 t xs ys).map fun r => .bool (!r)
      | _ => none
    | _ => none
  | .nili => match y, b, C.P.underlying t with
    | .const _, .nili, some (.interface _) => match op with
      | .eql => some (.bool true)
      | .neq => some (.bool false)
      | _ => none
    | _, _, _ => none
  | a => binA (C.P.underlying t) op a b

def unA (op : UnOp) (x : AV) : Option AV :=
  match op, x with
  | .neg, .int k n => some (wrapI k (0 - n))
  | .xor, .int k n => some (bitsI k (· ^^^ ·) (if k.signed then -1 else k.max) n)
  | .not, .bool b => some (.bool !b)
  | _, _ => none

def strBytes (s : ByteArray) : List AV := s.data.toList.map fun b => .int .u8 b.toNat

def bytesStr : List AV → Option (List UInt8)
  | [] => some []
  | .int .u8 n :: r => (bytesStr r).map (UInt8.ofNat n.toNat :: ·)
  | _ => none

def convA (src dst : TypeId) (s : St) (fb : Nat) (x : AV) : Option Act :=
  match C.P.underlying src, C.P.underlying dst, x with
  | some (.int _), some (.int k), .int _ n => some { val := wrapI k n }
  | some .string, some .string, .str b => some { val := .str b }
  | some .string, some (.slice e), .str b =>
    match C.P.underlying e with
    | some (.int .u8) => some { val := .arr fb 0 0 b.size 1 false, sw := [(fb, ⟨strBytes b, 0, false, none⟩)], nb := 1 }
    | _ => none
  | some (.slice e), some .string, x =>
    match C.P.underlying e, x with
    | some (.int .u8), .slice 1 xs => (bytesStr xs).map fun l => { val := .str ⟨l.toArray⟩ }
    | some (.int .u8), .nils _ => some { val := .str ⟨#[]⟩ }
    | some (.int .u8), .arr id g off n 1 _ => if g = (s.sto id).gen ∧ n ≤ ((s.sto id).cells.drop off).length then (bytesStr (((s.sto id).cells.drop off).take n)).map fun l => { val := .str ⟨l.toArray⟩, sr := [id] } else none
    | _, _ => none
  | _, _, _ => none

/-- How long something that grows may be. -/
def most : Nat := 1099511627776

def idx (x : AV) (n : Nat) : Option Nat :=
  match x with
  | .int _ i => if 0 ≤ i ∧ i < n then some i.toNat else none
  | _ => none

def bound (x : Option AV) (n d : Nat) : Option Nat :=
  match x with
  | none => some d
  | some (.int _ i) => if 0 ≤ i ∧ i ≤ n then some i.toNat else none
  | _ => none

def opds (env : Nat → AV) (t : TypeId) : Option Operand → Option (Option AV)
  | none => some none
  | some x => (opd C env t x).map some

def sliceA (t : TypeId) (x : AV) (lo hi mx : Option AV) : Option AV :=
  match C.P.underlying t, x with
  | some .string, .str s => if mx.isSome then none else (bound hi s.size s.size).bind fun h => (bound lo h 0).map fun l => .str (s.extract l h)
  | some (.slice e), .slice sz xs =>
    if sz = szT C.P e ∧ 0 < sz then (bound mx xs.length xs.length).bind fun m => (bound hi m (min xs.length m)).bind fun h => (bound lo h 0).map fun l => .slice sz ((xs.take h).drop l) else none
  | some (.slice e), .nils sz => if sz = szT C.P e ∧ 0 < sz then (bound mx 0 0).bind fun _ => (bound hi 0 0).bind fun _ => (bound lo 0 0).map fun _ => .nils sz else none
  | some (.slice e), .arr id g off n sz _ =>
    if sz = szT C.P e ∧ 0 < sz then (bound mx n n).bind fun m => (bound hi m (min n m)).bind fun h => (bound lo h 0).map fun l => if h = l then .slice sz [] else .arr id g (off + l * sz) (h - l) sz false else none
  | _, _ => none

/-- The cells of what is appended, and how many elements. -/
def newsA (s : St) (sz : Nat) : AV → Option (List AV × Nat × List Nat)
  | .slice z xs => if z = sz then some ((xs.map AV.cells).flatten, xs.length, []) else none
  | .nils _ => some ([], 0, [])
  | .arr id g off n z _ => if z = sz ∧ g = (s.sto id).gen ∧ n * sz ≤ ((s.sto id).cells.drop off).length then some (((s.sto id).cells.drop off).take (n * sz), n, [id]) else none
  | .str b => if sz = 1 then some (strBytes b, b.size, []) else none
  | _ => none

def grewT (e : TypeId) : Option (TypeId × Bool) → Option (TypeId × Bool)
  | some (t, _) => if t = e then some (e, false) else none
  | none => none

def appendA (t : TypeId) (s : St) (fb : Nat) (x y : AV) : Option Act :=
  (elemT C.P t).bind fun e =>
  let sz := szT C.P e
  if 0 < sz ∧ bytesT C.P e ≤ 128 ∧ (zeroC C.P 6 e).map List.length = some sz then
    (newsA s sz y).bind fun (ys, m, sr) =>
      match x with
      | .nils z => if z = sz then (if m = 0 then some { val := x, sr } else if m ≤ most then some { val := .arr fb 0 0 m sz true, sr, sw := [(fb, ⟨ys, 0, false, some (e, false)⟩)], nb := 1 } else none) else none
      | .arr id g 0 n z true =>
        let b := s.sto id
        if z = sz ∧ g = b.gen ∧ n * sz = b.cells.length ∧ n + m ≤ most then some { val := .arr id (g + 1) 0 (n + m) sz true, sr := id :: sr, sw := [(id, ⟨b.cells ++ ys, g + 1, b.froz, grewT e b.ty⟩)] } else none
      | _ => none
  else none

def lenA (d : Option TypeDesc) (x : AV) : Option AV :=
  match d, x with
  | some .string, .str a => some (.int .i64 a.size)
  | some (.slice _), .slice _ xs => some (.int .i64 xs.length)
  | some (.slice _), .nils _ => some (.int .i64 0)
  | some (.slice _), .arr _ _ _ n _ _ => some (.int .i64 n)
  | _, _ => none

def maxA (x y : AV) : Option AV :=
  match x, y with
  | .int k a, .int k' b => if k = k' then some (.int k (if a < b then b else a)) else none
  | _, _ => none

def minA (x y : AV) : Option AV :=
  match x, y with
  | .int k a, .int k' b => if k = k' then some (.int k (if b < a then b else a)) else none
  | _, _ => none

def capA (d : Option TypeDesc) (x : AV) : Option AV :=
  match d, x with
  | some (.slice _), .nils _ => some (.int .i64 0)
  | _, _ => none

/-- unsafe.SliceData -/
def dataA (s : St) : AV → Option Act
  | .nils _ => some { val := .nilp }
  | .arr id g off n _ _ => if g = (s.sto id).gen ∧ 0 < n then some { val := .ptr id g off, sr := [id] } else none
  | _ => none

/-- unsafe.String: the bytes are read, and stay as they are: the block is not looked at again. -/
def textA (pt : TypeId) (s : St) : AV → AV → Option Act
  | .nilp, .int .i64 n => if n = 0 then some { val := .str ⟨#[]⟩ } else none
  | .ptr id g 0, .int .i64 n =>
    match C.P.underlying pt with
    | some (.pointer e) =>
      if 0 < n ∧ n ≤ most ∧ g = (s.sto id).gen ∧ n.toNat ≤ (s.sto id).cells.length ∧ szT C.P e = 1 ∧ ((s.sto id).ty.map (·.1)) = some e then
        (bytesStr ((s.sto id).cells.take n.toNat)).map fun l => { val := .str ⟨l.toArray⟩, sr := [id], sw := [(id, ⟨[], g + 1, true, none⟩)] }
      else none
    | _ => none
  | _, _ => none

def builtinA (b : Builtin) (ts : List TypeId) (s : St) (fb : Nat) (args : List AV) : Option Act :=
  match b, args, ts with
  | .len, [x], [t] => (lenA (C.P.underlying t) x).map fun r => { val := r }
  | .append, [x, y], [t, t2] => if noIntT C.P t2 then appendA C t s fb x y else none
  | .max, [x, y], _ => (maxA x y).map fun r => { val := r }
  | .min, [x, y], _ => (minA x y).map fun r => { val := r }
  | .unsafeSliceData, [x], _ => dataA s x
  | .unsafeString, [p, n], [pt, _] => textA C pt s p n
  | .cap, [x], [t] => (capA (C.P.underlying t) x).map fun r => { val := r }
  | _, _, _ => none

/-- A call's arguments: a constant by its type. -/
def argsA (env : Nat → AV) (xs : List Operand) (ts : List TypeId) : Option (List AV) :=
  match xs, ts with
  | [], _ => some []
  | x :: xs, t :: ts => (opd C env t x).bind fun a => (argsA env xs ts).map (a :: ·)
  | _ :: _, [] => none

def froz (s : St) (ids : List Nat) : List (Nat × Blk) := ids.map fun i => (i, { s.sto i with froz := true })

/-- A value that reads the same whatever memory holds. -/
def AV.cool1 : AV → Bool
  | .bool _ | .int _ _ | .str _ | .nilp | .nilf | .nili | .iface => true
  | _ => false
def AV.cool2 : AV → Bool
  | .agg cs => cs.all AV.cool1
  | x => x.cool1
def AV.cool : AV → Bool
  | .tup cs => cs.all AV.cool2
  | x => x.cool2

/-- What a call leaves of the blocks that it was given: they are to stay if its result may lead into them. -/
def frozV (s : St) (r : AV) (ids : List Nat) : List (Nat × Blk) := if r.cool then [] else froz s ids

/-- What an operation comes to that is no call which shares memory. fb: the number of the block that it makes. -/
def act (call : FuncId → List AV → Option AV) (fb : Nat) (o : Oper) (s : St) : Option Act :=
  let v (x : Option AV) : Option Act := x.map fun x => { val := x }
  match o.op with
  | .move x | .assign x => v (opd C s.env o.type x)
  | .pick c a b => (opd C s.env o.type c).bind fun c => match c with
    | .bool b' => v (if b' then opd C s.env o.type a else opd C s.env o.type b)
    | _ => none
  | .alloc e => (zeroC C.P 6 e).map fun cs => { val := .ptr fb 0 0, sw := [(fb, ⟨cs, 0, false, some (e, true)⟩)], nb := 1 }
  | .box e x => (opd C s.env e x).bind fun a => if a.cells.all AV.one then some { val := .ptr fb 0 0, sw := [(fb, ⟨a.cells, 0, false, none⟩)], nb := 1 } else none
  | .build t parts =>
    match fieldsT C.P t with
    | some fs => (zeroC C.P 6 t).bind fun z =>
      (parts.toList.mapM fun (p : Nat × Operand) => (fs[p.1]?).bind fun (f : Field) => (opd C s.env f.type p.2).map fun a => (f.offset, szT C.P f.type, a)).bind fun ps => v ((fillA z ps).map .agg)
    | none => none
  | .buildSlice t n parts =>
    (elemT C.P t).bind fun e => (zeroC C.P 6 e).bind fun z =>
      let sz := szT C.P e
      if 0 < sz ∧ z.length = sz ∧ n * sz ≤ 16777216 then
        (parts.toList.mapM fun (p : Nat × Operand) => if p.1 < n then (opd C s.env e p.2).map fun a => (p.1 * sz, sz, a) else none).bind fun ps =>
          (fillA (List.replicate n z).flatten ps).map fun cs => { val := .arr fb 0 0 n sz true, sw := [(fb, ⟨cs, 0, false, none⟩)], nb := 1 }
      else none
  | .load t a => (opd C s.env o.type a).bind fun a => match a with
    | .ptr id g off => if g = (s.sto id).gen then (loadA C t ((s.sto id).cells.drop off)).map fun x => { val := x, sr := [id] } else none
    | .eptr cs => v (loadA C t cs)
    | _ => none
  | .store t a x => (opd C s.env o.type a).bind fun a => (opd C s.env t x).bind fun x => match a with
    | .ptr id g off =>
      let b := s.sto id
      if g = b.gen ∧ b.froz = false ∧ x.cells.length = szT C.P t ∧ off + x.cells.length ≤ b.cells.length ∧ x.cells.all AV.one = true ∧ (C.P.info? t).isSome = true then some { val := .void, sr := [id], sw := [(id, { b with cells := spliceA b.cells off x.cells })] } else none
    | _ => none
  | .nilCheck x => (opd C s.env o.type x).bind fun a => match a with
    | .ptr _ _ _ | .eptr _ => v (some a)
    | .fn _ _ => v (some a)
    | _ => none
  | .binOp op xt x y yt => (opd C s.env xt x).bind fun a => (opd C s.env (if op == .shl || op == .shr then yt else xt) y).bind fun b => v (binX C xt y op a b)
  | .unOp op xt x => (opd C s.env xt x).bind fun a => v (unA op a)
  | .convert src dst x => (opd C s.env src x).bind fun a => convA C src dst s fb a
  | .makeFunc fn first captured =>
    match fn with
    | .func f => if first.isEmpty then (captured.toList.mapM fun x => opd C s.env 0 x).bind fun cs => if cs.all AV.one then v (some (.fn f cs)) else none else none
    | _ => none
  | .makeInterface t x => (opd C s.env t x).bind fun _ => match C.P.underlying t with
    | some (.interface _) | none => none
    | _ => v (some .iface)
  | .makeSlice t l c => (elemT C.P t).bind fun e => (opd C s.env 3 l).bind fun l => (opd C s.env 3 c).bind fun c => match l, c with
    | .int k n, .int k' m => if n = m ∧ 0 ≤ n ∧ n ≤ most ∧ bytesT C.P e ≤ 128 ∧ k = .i64 ∧ k' = .i64 then (zeroC C.P 6 e).bind fun z => if z.length = szT C.P e ∧ 0 < z.length then some { val := .arr fb 0 0 n.toNat z.length true, sw := [(fb, ⟨(List.replicate n.toNat z).flatten, 0, false, none⟩)], nb := 1 } else none else none
    | _, _ => none
  | .slice t x lo hi mx => (opd C s.env t x).bind fun a => (opds C s.env 3 lo).bind fun lo => (opds C s.env 3 hi).bind fun hi => (opds C s.env 3 mx).bind fun mx => if hi.isNone && mx.isSome then none else v (sliceA C t a lo hi mx)
  | .fieldAddr t x f => (fieldsT C.P t).bind fun (fs : Array Field) => (fs[f]?).bind fun (f : Field) => if szT C.P f.type = 0 then none else (opd C s.env o.type x).bind fun a => match a with
    | .ptr id g off => v (some (.ptr id g (off + f.offset)))
    | .eptr cs => v (some (.eptr (cs.drop f.offset)))
    | _ => none
  | .field t x f => (fieldsT C.P t).bind fun (fs : Array Field) => (fs[f]?).bind fun (f : Field) => (opd C s.env t x).bind fun a => match a with
    | .agg cs => v (loadA C f.type (cs.drop f.offset))
    | _ => none
  | .indexAddr t x i => (opd C s.env t x).bind fun a => (opd C s.env 3 i).bind fun i => match a with
    | .slice sz xs => (idx i xs.length).bind fun i => (elemT C.P t).bind fun e => if sz = szT C.P e ∧ 0 < sz then v ((xs[i]?).map fun x => .eptr x.cells) else none
    | .arr id g off n sz _ => (idx i n).bind fun i => (elemT C.P t).bind fun e => if sz = szT C.P e ∧ 0 < sz then v (some (.ptr id g (off + i * sz))) else none
    | .eptr cs => match C.P.underlying t with
      | some (.array n e) => (idx i n).bind fun i => if 0 < szT C.P e then v (some (.eptr (cs.drop (i * szT C.P e)))) else none
      | _ => none
    | .ptr id g off => match C.P.underlying t with
      | some (.array n e) => (idx i n).bind fun i => if 0 < szT C.P e then v (some (.ptr id g (off + i * szT C.P e))) else none
      | _ => none
    | _ => none
  | .index t x i => (opd C s.env t x).bind fun a => (opd C s.env 3 i).bind fun i => match a with
    | .str s => match C.P.underlying t with
      | some .string => (idx i s.size).bind fun i => v ((s[i]?).map fun b => .int .u8 b.toNat)
      | _ => none
    | _ => none
  | .extract t i => (opd C s.env 0 t).bind fun a => match a with
    | .tup vs => v (vs[i]?)
    | _ => none
  | .call c =>
    match c.callee with
    | .builtin b => (argsA C s.env c.args.toList c.argTypes.toList).bind fun args => builtinA C b c.argTypes.toList s fb args
    | .value f => (opd C s.env 0 f).bind fun f => (argsA C s.env c.args.toList c.argTypes.toList).bind fun args => match f with
      | .fn f cap => if C.share.contains f || (args ++ cap).any AV.loud then none else let ids := ((args ++ cap).map (reachD s.toMem 2097152)).flatten; ((args ++ cap).mapM (snapD s.toMem 2097152)).bind fun l => (call f l).map fun r => { val := r, sr := ids, sw := frozV s r ids }
      | _ => none
    | _ => none
  | _ => none

def putE (env : Nat → AV) (d : Option Tmp) (a : AV) : Nat → AV := match d with | some d => upd env d a | none => env

def St.put (s : St) (d : Option Tmp) (a : AV) : St := { s with env := putE s.env d a }

def updL (f : Nat → Blk) : List (Nat × Blk) → Nat → Blk
  | [] => f
  | (i, b) :: r => updL (upd f i b) r

def Act.on (a : Act) (d : Option Tmp) (s : St) : St :=
  { env := putE s.env d a.val
    sto := updL s.sto a.sw
    nid := s.nid + a.nb }

/-- Is an operation's guard met? (none: it can't be told.) -/
def wants (ops : Array Oper) (env : Nat → AV) (o : Oper) : Option Bool :=
  match o.guard with
  | none => some true
  | some (j, w) => match (ops[j]?).bind (·.dst) with
    | some d => match env d with
      | .bool b => some (b == w)
      | .void => some false
      | _ => none
    | none => some false

/-- A call that shares the caller's memory. -/
def loudCall (o : Oper) (s : St) : Option (FuncId × List AV) :=
  match o.op with
  | .call c => match c.callee with
    | .value f => (opd C s.env 0 f).bind fun f => (argsA C s.env c.args.toList c.argTypes.toList).bind fun args => match f with
      | .fn f cap => if C.share.contains f || (args ++ cap).any AV.loud then some (f, args ++ cap) else none
      | _ => none
    | _ => none
  | _ => none

/-- One operation of a region whose order is the text's. -/
def stepN (callI : FuncId → List AV → Mem → Option (AV × Mem)) (call : FuncId → List AV → Option AV) (ops : Array Oper) (o : Oper) (s : St) : Option St :=
  (wants ops s.env o).bind fun w =>
    if w then
      match loudCall C o s with
      | some (f, args) => (callI f args s.toMem).map fun (r, m) => { m with env := putE s.env o.dst r }
      | none => (act C call s.nid o s).map fun a => a.on o.dst s
    else some (s.put o.dst .void)

def runT (callI : FuncId → List AV → Mem → Option (AV × Mem)) (call : FuncId → List AV → Option AV) (ops : Array Oper) : List Oper → St → Option St
  | [], s => some s
  | o :: r, s => (stepN C callI call ops o s).bind (runT callI call ops r)

/-- An operation that touches no memory. -/
def worldless : Op → Bool
  | .move _ | .assign _ | .pick _ _ _ | .build _ _ | .nilCheck _ | .binOp _ _ _ _ _ | .unOp _ _ _ | .makeFunc _ _ _ | .makeInterface _ _ | .slice _ _ _ _ _ | .fieldAddr _ _ _ | .field _ _ _ | .indexAddr _ _ _ | .index _ _ _ | .extract _ _ => true
  | .call { callee := .builtin .len, .. } => true
  | _ => false

/-- The blocks that a value leads to, addresses and captured ones too. -/
def reachL (m : Mem) : Nat → AV → List Nat
  | 0, _ => []
  | k + 1, .arr id _ _ _ _ _ => id :: ((m.sto id).cells.map (reachL m k)).flatten
  | k + 1, .ptr id _ _ => id :: ((m.sto id).cells.map (reachL m k)).flatten
  | k + 1, .agg cs => (cs.map (reachL m k)).flatten
  | k + 1, .tup cs => (cs.map (reachL m k)).flatten
  | k + 1, .fn _ cs => (cs.map (reachL m k)).flatten
  | _, _ => []

/-- Does a value lead into these blocks alone, as they are now? -/
def leadsB (m : Mem) (ids : List Nat) : Nat → AV → Bool
  | _, .ptr id g _ => ids.contains id && g == (m.sto id).gen
  | _, .arr id g _ _ _ _ => ids.contains id && g == (m.sto id).gen
  | k + 1, .agg cs => cs.all (leadsB m ids k)
  | k + 1, .tup cs => cs.all (leadsB m ids k)
  | k + 1, .fn _ cs => cs.all (leadsB m ids k)
  | 0, .agg _ | 0, .tup _ | 0, .fn _ _ => false
  | _, _ => true

def closedB (m : Mem) (ids : List Nat) (args : List AV) : Bool := args.all (leadsB m ids 2097152) && ids.all fun i => (m.sto i).cells.all (leadsB m ids 2097152)

/-- A memory that shows these blocks alone. -/
def mask (ids : List Nat) (m : Mem) : Mem := ⟨fun i => if ids.contains i then m.sto i else ⟨[], 0, false, none⟩, m.nid⟩

/-- What an operation of a region that draws comes to: it is passed over; an act; a call in the caller's memory: the blocks that it sees, the number of the first that it makes, what it returns and leaves. -/
inductive Do where
  | skip
  | act (a : Act)
  | call (ids : List Nat) (n0 : Nat) (r : AV) (m : Mem)

def maskOf (look : Nat → Nat) (l : List Edge) : Nat := l.foldr (fun e acc => if Region.binds .any e then (1 <<< e.on) ||| look e.on ||| acc else acc) 0

def befT (ops : Array Oper) : List Nat → List Nat → List Nat
  | [], tbl => tbl
  | j :: r, tbl => befT ops r (tbl.set j (maskOf (fun i => tbl.getD i 0) (((ops[j]?).map (·.after.toList)).getD [])))

def topoK (ops : Array Oper) : Nat → List Nat → List Nat
  | 0, _ => []
  | k + 1, done => match (List.range ops.size).find? fun i => !done.contains i && (((ops[i]?).map (·.after.toList)).getD []).all fun e => !Region.binds .any e || done.contains e.on with
    | some i => i :: topoK ops k (i :: done)
    | none => []

def backOk (ops : Array Oper) : List Nat → Bool
  | [] => true
  | i :: r => (((ops[i]?).map (·.after.toList)).getD []).all (fun e => !Region.binds .any e || (decide (e.on < ops.size) && e.on != i && !r.contains e.on)) && !r.contains i && decide (i < ops.size) && backOk ops r

/-- An order of the region's operations, and the pairs (by their places in it) that may come up in either order and both touch memory; none: two that may, but must not. -/
def planD (ops : Array Oper) : Option (List Nat × List (Nat × Nat)) :=
  let ord := topoK ops ops.size []
  let tbl := befT ops ord (List.replicate ops.size 0)
  if !(backOk ops ord && (List.range ops.size).all (ord.contains ·) && ord.length == ops.size) then none else
  ((ord.zipIdx.mapM fun (q : Nat × Nat) => ((ord.zipIdx.take q.2).mapM fun (p : Nat × Nat) =>
    if (tbl.getD q.1 0).testBit p.1 then some [] else
      (ops[p.1]?).bind fun a => (ops[q.1]?).bind fun b => if a.apart ops b then some (if worldless a.op || worldless b.op then [] else [(p.2, q.2)]) else none).map List.flatten).map List.flatten).map fun ps => (ord, ps)

def farB (ids : List Nat) (n0 : Nat) (a : Act) : Bool := a.sr.all (fun i => !ids.contains i && decide (i < n0)) && a.sw.all (fun x => !ids.contains x.1 && decide (x.1 < n0))

def noConf : Do → Do → Bool
  | .act a, .act b => a.sw.all (fun x => !b.sr.contains x.1 && b.sw.all (fun y => x.1 != y.1)) && b.sw.all (fun y => !a.sr.contains y.1)
  | .act a, .call ids n0 _ _ => farB ids n0 a
  | .call ids n0 _ _, .act a => farB ids n0 a
  | .call _ _ _ _, .call _ _ _ _ => false
  | _, _ => true

def farOf (callI : FuncId → List AV → Mem → Option (AV × Mem)) (f : FuncId) (args : List AV) (m : Mem) : Option Do :=
  let ids := (args.map (reachL m 2097152)).flatten
  if closedB m ids args then (callI f args (mask ids m)).bind fun (r, m') => if ids.all (fun i => decide ((m.sto i).gen ≤ (m'.sto i).gen)) then some (.call ids m.nid r m') else none else none

/-- What an operation of a region that draws comes to. -/
def resD (callI : FuncId → List AV → Mem → Option (AV × Mem)) (call : FuncId → List AV → Option AV) (ops : Array Oper) (base i : Nat) (o : Oper) (s : St) : Option Do :=
  (wants ops s.env o).bind fun w => if w then (match loudCall C o s with
    | some (f, args) => farOf callI f args s.toMem
    | none => (act C call (base + i) o s).map .act) else some .skip

def onD (o : Oper) (a : Do) (s : St) : St :=
  match a with
  | .skip => s.put o.dst .void
  | .act a => { env := putE s.env o.dst a.val, sto := updL s.sto a.sw, nid := s.nid }
  | .call ids n0 r m => { env := putE s.env o.dst r, sto := fun i => if ids.contains i || decide (n0 ≤ i) then m.sto i else s.sto i, nid := m.nid }

def goD (callI : FuncId → List AV → Mem → Option (AV × Mem)) (call : FuncId → List AV → Option AV) (ops : Array Oper) (base : Nat) : List Nat → St → Option (List Do × St)
  | [], s => some ([], s)
  | i :: r, s => (ops[i]?).bind fun o => (resD C callI call ops base i o s).bind fun a => (goD callI call ops base r (onD o a s)).map fun (l, s) => (a :: l, s)

/-- A region whose order is drawn. -/
def runD (callI : FuncId → List AV → Mem → Option (AV × Mem)) (call : FuncId → List AV → Option AV) (ops : Array Oper) (s : St) : Option St :=
  (planD ops).bind fun (ord, ps) => (goD C callI call ops s.nid ord { s with nid := s.nid + ops.size }).bind fun (l, s) =>
    if ps.all (fun (p : Nat × Nat) => noConf (l.getD p.1 .skip) (l.getD p.2 .skip)) then some s else none

inductive Ex where
  | normal
  | exit (n : Nat)
  | ret
  deriving DecidableEq, Inhabited

def loopN (body : St → Option (Ex × St)) : Nat → St → Option (Ex × St)
  | 0, _ => none
  | k + 1, s => (body s).bind fun (e, s) => match e with
    | .normal => loopN body k s
    | e => some (e, s)

def thenS (x : Option (Ex × St)) (f : St → Option (Ex × St)) : Option (Ex × St) :=
  match x with
  | none => none
  | some (.normal, s) => f s
  | some (e, s) => some (e, s)

def blockS (n : Nat) (x : Option (Ex × St)) : Option (Ex × St) :=
  match x with
  | none => none
  | some (.exit k, s) => if k = n then some (.normal, s) else some (.exit k, s)
  | some (e, s) => some (e, s)

def regS (x : Option St) : Option (Ex × St) := x.map fun s => (.normal, s)

def condS (c : Option AV) (a b : St → Option (Ex × St)) (s : St) : Option (Ex × St) :=
  match c with
  | some (.bool t) => if t then a s else b s
  | _ => none

def evc (callI : FuncId → List AV → Mem → Option (AV × Mem)) (call : FuncId → List AV → Option AV) (lp : (St → Option (Ex × St)) → St → Option (Ex × St)) : Code → St → Option (Ex × St)
  | .skip, s => some (.normal, s)
  | .region _ ops true, s => regS (runD C callI call ops s)
  | .region _ ops false, s => regS (runT C callI call ops ops.toList s)
  | .seq a b, s => thenS (evc callI call lp a s) (evc callI call lp b)
  | .cond c a b, s => condS (opd C s.env 0 c) (evc callI call lp a) (evc callI call lp b) s
  | .block n a, s => blockS n (evc callI call lp a s)
  | .loop a, s => lp (evc callI call lp a) s
  | .exit n, s => some (.exit n, s)
  | .ret, s => some (.ret, s)
  | _, _ => none

def resA (fn : Func) (s : St) : Option AV :=
  (fn.results.toList.mapM fun r => match r with
    | ResultVar.tmp t => some (s.env t)
    | .cell a t => match s.env a with
      | .ptr id g off => if g = (s.sto id).gen then loadA C t ((s.sto id).cells.drop off) else none
      | _ => none).map fun vs => match vs with
    | [x] => x
    | vs => .tup vs

def enterA (_fn : Func) (args : List AV) (m : Mem) : St := { m with env := fun i => args.getD i .void }

/-- The blocks of some numbers are to stay as they are. -/
def frozM (m : Mem) (ids : List Nat) : Mem := ⟨fun i => if i ∈ ids then { m.sto i with froz := true } else m.sto i, m.nid⟩

/-- A function's result as a plain value, where it is to be one. -/
def snapI (f : FuncId) (r : AV) (m : Mem) : Option (AV × Mem) :=
  if C.snaps.contains f then (snapD m 2097152 r).map fun x => (x, frozM m (reachD m 2097152 r)) else some (r, m)

/-- A function's arguments, as plain values where they are to be. -/
def entryI (f : FuncId) (args : List AV) (m : Mem) : Option (List AV × Mem) :=
  if C.snapA.contains f then (args.mapM fun (a : AV) => if a.loud then some a else snapD m 2097152 a).map fun l => (l, frozM m ((args.map fun (a : AV) => if a.loud then [] else reachD m 2097152 a)).flatten)
  else some (args, m)

/-- What a body comes to, in the caller's memory. -/
def endI (f : FuncId) (fn : Func) (x : Option (Ex × St)) : Option (AV × Mem) :=
  match x with
  | none | some (.exit _, _) => none
  | some (_, s) => (resA C fn s).bind fun r => snapI C f r s.toMem

/-- What a body comes to, in a memory of its own. -/
def endF (fn : Func) (x : Option (Ex × St)) : Option AV :=
  match x with
  | none | some (.exit _, _) => none
  | some (_, s) => (resA C fn s).bind fun r => snapD s.toMem 2097152 r

def bodyI (callI : FuncId → List AV → Mem → Option (AV × Mem)) (call : FuncId → List AV → Option AV) (lp : (St → Option (Ex × St)) → St → Option (Ex × St)) (f : FuncId) (args : List AV) (m : Mem) : Option (AV × Mem) :=
  match C.P.funcs[f]? with
  | some fn => match fn.body with
    | some c => if args.length ≤ fn.ntmps then (entryI C f args m).bind fun p => endI C f fn (evc C callI call lp c (enterA fn p.1 p.2)) else none
    | none => none
  | none => none

def bodyF (callI : FuncId → List AV → Mem → Option (AV × Mem)) (call : FuncId → List AV → Option AV) (lp : (St → Option (Ex × St)) → St → Option (Ex × St)) (f : FuncId) (args : List AV) : Option AV :=
  match C.P.funcs[f]? with
  | some fn => match fn.body with
    | some c => if args.length ≤ fn.ntmps then endF C fn (evc C callI call lp c (enterA fn args .empty)) else none
    | none => none
  | none => none

variable (prim : FuncId → List AV → Option AV)

mutual
def evI (k : Nat) (f : FuncId) (args : List AV) (m : Mem) : Option (AV × Mem) :=
  match k with
  | 0 => none
  | k + 1 => match C.pI f args m with
    | some r => some r
    | none => bodyI C (evI k) (evf k) (fun b s => loopN b k s) f args m
def evf (k : Nat) (f : FuncId) (args : List AV) : Option AV :=
  match k with
  | 0 => none
  | k + 1 => match prim f args with
    | some r => some r
    | none => bodyF C (evI k) (evf k) (fun b s => loopN b k s) f args
end
end Go.Ev
end
section
namespace Go.Ev
set_option linter.unusedVariables false

/-- What is known of memory: cells that stay (block by block, from the first on); where the numbered blocks lie, how many cells they have, and whether they may be appended to. -/
structure Gh where
  M : Nat → List Value
  T : Nat → Nat → Option (Nat × Nat × Bool)

def Gh.bare (G : Gh) : Gh := ⟨G.M, fun _ _ => none⟩

abbrev flat (xs : List AV) : List AV := (xs.map AV.cells).flatten

inductive Rep : Gh → Value → AV → Prop
  | undef (G : Gh) (v : Value) : Rep G v .undef
  | void (G : Gh) : Rep G Go.undef .void
  | bool (G : Gh) (b : Bool) : Rep G (.bool b) (.bool b)
  | int (G : Gh) (k : IntKind) (n : Int) : Rep G (.int k n) (.int k n)
  | str (G : Gh) (s : ByteArray) : Rep G (.string s) (.str s)
  | nilp (G : Gh) : Rep G (.pointer none) .nilp
  | nilf (G : Gh) : Rep G .nilFunc .nilf
  | nili (G : Gh) : Rep G .nilIface .nili
  | iface (G : Gh) (t : TypeId) (v : Value) : Rep G (.iface t v) .iface
  | nils (G : Gh) (sz : Nat) : Rep G (.slice none 0 0) (.nils sz)
  | slice0 (G : Gh) (sz : Nat) : Rep G (.slice none 0 0) (.slice sz [])
  | sliceE (G : Gh) (a : Addr) (cap sz : Nat) : Rep G (.slice (some a) 0 cap) (.slice sz [])
  | slice (G : Gh) (b off n cap sz : Nat) (xs : List AV) (vs : List Value) (hn : xs.length = n) (hc : n ≤ cap) (hs : ∀ x ∈ xs, x.cells.length = sz)
      (hl : vs.length = (flat xs).length) (hM : ∀ (j : Nat) v, vs[j]? = some v → (G.M b)[off + j]? = some v)
      (h1 : ∀ c ∈ flat xs, c.one = true) (hr : ∀ (j : Nat) v c, vs[j]? = some v → (flat xs)[j]? = some c → Rep G.bare v c) :
      Rep G (.slice (some ⟨b, off, none⟩) n cap) (.slice sz xs)
  | eptr (G : Gh) (b off : Nat) (cs : List AV) (vs : List Value)
      (hl : vs.length = cs.length) (hM : ∀ (j : Nat) v, vs[j]? = some v → (G.M b)[off + j]? = some v)
      (hr : ∀ (j : Nat) v c, vs[j]? = some v → cs[j]? = some c → Rep G.bare v c) : Rep G (.pointer (some ⟨b, off, none⟩)) (.eptr cs)
  | ptr (G : Gh) (id g off b : Nat) (x : Nat × Bool) (h : G.T id g = some (b, x)) : Rep G (.pointer (some ⟨b, off, none⟩)) (.ptr id g off)
  | arr (G : Gh) (id g off n sz b cap tot : Nat) (app ap : Bool) (h : G.T id g = some (b, tot, ap)) (hc : n ≤ cap) (ha : app = true → off = 0 ∧ cap * sz = tot ∧ ap = true) :
      Rep G (.slice (some ⟨b, off, none⟩) n cap) (.arr id g off n sz app)
  | agg (G : Gh) (vs : Array Value) (cs : List AV) (hl : vs.size = cs.length) (hr : ∀ (j : Nat) v c, vs[j]? = some v → cs[j]? = some c → Rep G v c) : Rep G (.agg vs) (.agg cs)
  | tup (G : Gh) (vs : Array Value) (cs : List AV) (hl : vs.size = cs.length) (hr : ∀ (j : Nat) v c, vs[j]? = some v → cs[j]? = some c → Rep G v c) : Rep G (.tuple vs) (.tup cs)
  | fn (G : Gh) (f : FuncId) (vs : Array Value) (cs : List AV) (hl : vs.size = cs.length) (hr : ∀ (j : Nat) v c, vs[j]? = some v → cs[j]? = some c → Rep G v c) : Rep G (.func (.func f) #[] vs) (.fn f cs)

theorem prefix_get {α : Type} {l m : List α} (h : l <+: m) {j : Nat} {v : α} (hv : l[j]? = some v) : m[j]? = some v := by
  obtain ⟨t, rfl⟩ := h
  rw [List.getElem?_append_left (List.getElem?_eq_some_iff.1 hv).1]
  exact hv

theorem Rep.mono {G G' : Gh} {v : Value} {x : AV} (h : Rep G v x) (hM : ∀ b, G.M b <+: G'.M b) (hT : ∀ id g y, G.T id g = some y → G'.T id g = some y) : Rep G' v x := by
  induction h generalizing G' with
  | undef => exact .undef _ _
  | void => exact .void _
  | bool => exact .bool _ _
  | int => exact .int _ _ _
  | str => exact .str _ _
  | nilp => exact .nilp _
  | nilf => exact .nilf _
  | nili => exact .nili _
  | iface => exact .iface _ _ _
  | nils => exact .nils _ _
  | slice0 => exact .slice0 _ _
  | sliceE => exact .sliceE _ _ _ _
  | slice G b off n cap sz xs vs hn hc hs hl hm h1 hr ih => exact .slice _ b off n cap sz xs vs hn hc hs hl (fun j v hv => prefix_get (hM b) (hm j v hv)) h1 (fun j v c hv hc => ih j v c hv hc (G' := G'.bare) hM (fun _ _ _ h => h))
  | eptr G b off cs vs hl hm hr ih => exact .eptr _ b off cs vs hl (fun j v hv => prefix_get (hM b) (hm j v hv)) (fun j v c hv hc => ih j v c hv hc (G' := G'.bare) hM (fun _ _ _ h => h))
  | ptr G id g off b x h => exact .ptr _ id g off b x (hT _ _ _ h)
  | arr G id g off n sz b cap tot app ap h hc ha => exact .arr _ id g off n sz b cap tot app ap (hT _ _ _ h) hc ha
  | agg G vs cs hl hr ih => exact .agg _ vs cs hl (fun j v c hv hc => ih j v c hv hc hM hT)
  | tup G vs cs hl hr ih => exact .tup _ vs cs hl (fun j v c hv hc => ih j v c hv hc hM hT)
  | fn G f vs cs hl hr ih => exact .fn _ f vs cs hl (fun j v c hv hc => ih j v c hv hc hM hT)

theorem Rep.one {G : Gh} {v : Value} {x : AV} (h : Rep G v x) (h1 : x.one = true) : v.oneCell' = true := by
  cases h <;> first | rfl | (simp [AV.one] at h1)

theorem AV.cells_one {x : AV} (h : x.one = true) : x.cells = [x] := by cases x <;> first | rfl | (simp [AV.one] at h)
theorem cells_one {v : Value} (h : v.oneCell' = true) : v.cells = #[v] := by cases v <;> first | rfl | (simp [Value.oneCell'] at h)

/-- The cells of a value. -/
theorem Rep.cells {G : Gh} {v : Value} {x : AV} (h : Rep G v x) (h1 : x.cells.all AV.one = true) : v.cells.size = x.cells.length ∧ (∀ (j : Nat) u c, v.cells[j]? = some u → x.cells[j]? = some c → Rep G u c) ∧ ∀ (j : Nat) u, v.cells[j]? = some u → u.oneCell' = true := by
  by_cases hx : x.one = true
  · have hv := h.one hx
    rw [AV.cells_one hx, cells_one hv]
    refine ⟨rfl, fun j u c hu hc => ?_, fun j u hu => ?_⟩
    · rcases j with _ | j
      · simp only [List.getElem?_cons_zero, Option.some.injEq, List.getElem?_toArray] at hu hc
        subst hu hc
        exact h
      · simp at hu
    · rcases j with _ | j
      · simp at hu
        exact hu ▸ hv
      · simp at hu
  · cases h with
    | agg _ vs cs hl hr =>
      refine ⟨hl, hr, fun j u hu => ?_⟩
      simp only [Value.cells] at hu
      have hj : j < cs.length := hl ▸ (Array.getElem?_eq_some_iff.1 hu).1
      have hc : cs[j]? = some cs[j] := List.getElem?_eq_getElem hj
      refine (hr j u _ hu hc).one ?_
      simp only [AV.cells, List.all_eq_true] at h1
      exact h1 _ (List.getElem_mem hj)
    | _ => first | (simp [AV.cells, AV.one] at h1; done) | exact absurd rfl hx

structure LiveAt (G : Gh) (w : World) (m : Mem) (id b tot : Nat) (ap : Bool) (cur : Array Value) (e : TypeId) (fr : Nat × Nat) : Prop where
  t : G.T id (m.sto id).gen = some (b, tot, ap)
  heap : w.heap[b]? = some (.cells cur e fr)
  size : cur.size = tot
  fr : fr = (0, 0) ∨ (ap = false ∧ fr = (tot, tot + 1))
  len : (m.sto id).cells.length ≤ tot
  rep : ∀ (j : Nat) v c, cur[j]? = some v → (m.sto id).cells[j]? = some c → Rep G v c
  one : ∀ c ∈ (m.sto id).cells, c.one = true
  kept : (G.M b).length ≤ (m.sto id).cells.length
  soft : (m.sto id).froz = false → G.M b = []
  typ : ∀ t x, (m.sto id).ty = some (t, x) → e = t ∧ (x = true → tot = (m.sto id).cells.length)

structure Inv (G : Gh) (w : World) (m : Mem) : Prop where
  okM : ∀ b (j : Nat) v, (G.M b)[j]? = some v → w.cell? ⟨b, j, none⟩ = some v
  live : ∀ id b tot ap, G.T id (m.sto id).gen = some (b, tot, ap) → ∃ cur e fr, LiveAt G w m id b tot ap cur e fr
  dist : ∀ id id' b x y, G.T id (m.sto id).gen = some (b, x) → G.T id' (m.sto id').gen = some (b, y) → id = id'
  dom : ∀ id g x, G.T id g = some x → id < m.nid ∧ g ≤ (m.sto id).gen

structure Ext (G : Gh) (w : World) (G' : Gh) (w' : World) : Prop where
  M : ∀ b, G.M b <+: G'.M b
  T : ∀ id g x, G.T id g = some x → G'.T id g = some x
  os : w'.os = w.os
  tape : w'.tape = w.tape
  output : w'.output = w.output
  size : w.heap.size ≤ w'.heap.size
  frame : ∀ b, b < w.heap.size → (∀ id g x, G.T id g ≠ some (b, x)) → w'.heap[b]? = w.heap[b]? ∧ G'.M b = G.M b
  own : ∀ id g b x, G'.T id g = some (b, x) → b < w.heap.size → ∃ id' g' x', G.T id' g' = some (b, x')

theorem Ext.refl (G : Gh) (w : World) : Ext G w G w := ⟨fun _ => List.prefix_refl _, fun _ _ _ h => h, rfl, rfl, rfl, Nat.le_refl _, fun _ _ _ => ⟨rfl, rfl⟩, fun id g b x h _ => ⟨id, g, x, h⟩⟩

theorem Ext.trans {G G1 G2 : Gh} {w w1 w2 : World} (h : Ext G w G1 w1) (k : Ext G1 w1 G2 w2) : Ext G w G2 w2 where
  M b := (h.M b).trans (k.M b)
  T id g x hx := k.T _ _ _ (h.T _ _ _ hx)
  os := k.os.trans h.os
  tape := k.tape.trans h.tape
  output := k.output.trans h.output
  size := Nat.le_trans h.size k.size
  frame b hb hn := by
    obtain ⟨h1, h2⟩ := h.frame b hb hn
    obtain ⟨k1, k2⟩ := k.frame b (Nat.lt_of_lt_of_le hb h.size) (fun id g x hx => by
      obtain ⟨i, g', x', hx'⟩ := h.own id g b x hx hb
      exact hn _ _ _ hx')
    exact ⟨k1.trans h1, k2.trans h2⟩
  own id g b x hx hb := by
    obtain ⟨i, g', x', hx'⟩ := k.own id g b x hx (Nat.lt_of_lt_of_le hb h.size)
    exact h.own _ _ _ _ hx' hb

theorem Rep.ext {G G' : Gh} {w w' : World} {v : Value} {x : AV} (h : Rep G v x) (e : Ext G w G' w') : Rep G' v x := h.mono e.M e.T

/-- What the frame's slots hold. -/
def EnvRep (G : Gh) (tmps : Array Value) (env : Nat → AV) : Prop := ∀ t, Rep G (tmps.getD t Go.undef) (env t)

theorem EnvRep.ext {G G' : Gh} {w w' : World} {a : Array Value} {env : Nat → AV} (h : EnvRep G a env) (e : Ext G w G' w') : EnvRep G' a env := fun t => (h t).ext e

theorem EnvRep.put {G : Gh} {a : Array Value} {env : Nat → AV} (h : EnvRep G a env) {d : Nat} {v : Value} {x : AV} (hd : d < a.size) (hr : Rep G v x) : EnvRep G (a.setIfInBounds d v) (upd env d x) := by
  intro t
  unfold upd
  by_cases e : t = d
  · subst e
    simpa [Array.getD, hd] using hr
  · rw [if_neg e]
    have := h t
    simp only [Array.getD_eq_getD_getElem?] at this ⊢
    rwa [Array.getElem?_setIfInBounds_ne (Ne.symm e)]

end Go.Ev
end
section
namespace Go.Ev
set_option linter.unusedVariables false
variable {C : Ctx} {G : Gh} {w : World} {m : Mem}

structure CtxOk (C : Ctx) (G : Gh) (w : World) : Prop where
  glob : ∀ g cs, C.glob g = some cs → Rep G (.pointer (some ⟨g, 0, none⟩)) (.eptr cs)
  tabs : ∀ p ∈ C.tabs, (∃ t fr cs, w.heap[p.1]? = some (.cells cs t fr) ∧ p.2 cs) ∧ ∀ id gen x, G.T id gen ≠ some (p.1, x)

theorem CtxOk.ext {G G' : Gh} {w w' : World} (h : CtxOk C G w) (e : Ext G w G' w') : CtxOk C G' w' := ⟨fun g cs hg => (h.glob g cs hg).ext e, fun p hp => by
  obtain ⟨⟨t, fr, cs, h1, hcs⟩, h2⟩ := h.tabs p hp
  have hlt : p.1 < w.heap.size := (Array.getElem?_eq_some_iff.1 h1).1
  refine ⟨⟨t, fr, cs, ?_, hcs⟩, fun id gen x hx => ?_⟩
  · rw [(e.frame p.1 hlt h2).1]
    exact h1
  · obtain ⟨i, g', x', hx'⟩ := e.own _ _ _ _ hx hlt
    exact h2 _ _ _ hx'⟩

theorem cv1_rep {P : Program} {t : TypeId} {v : Value} {a : AV} (h : cv1 P t v = some a) : Rep G v a := by
  unfold cv1 at h
  split at h <;> simp only [Option.some.injEq, reduceCtorEq, Option.map_eq_some_iff] at h
  · subst h; exact .bool _ _
  · subst h; exact .int _ _ _
  · subst h; exact .str _ _
  · subst h; exact .nilp _
  · subst h; exact .nilf _
  · subst h; exact .nili _
  · obtain ⟨e, _, rfl⟩ := h; exact .nils _ _

theorem opd_rep {A : _root_.Go.Act} {env : Nat → AV} (he : EnvRep G A.tmps env) (hc : CtxOk C G w) {t : TypeId} {x : Operand} {a : AV} (h : opd C env t x = some a) : Rep G (A.eval x) a := by
  cases x with
  | tmp i => simp only [opd, Option.some.injEq] at h; subst h; exact he i
  | const v => exact cv1_rep h
  | global g =>
    simp only [opd, Option.map_eq_some_iff] at h
    obtain ⟨cs, hg, rfl⟩ := h
    exact hc.glob g cs hg
  | func f =>
    simp only [opd, Option.some.injEq] at h
    subst h
    exact .fn _ f #[] [] rfl (fun j v c hv => by simp at hv)

theorem add_addr (b off j : Nat) : (⟨b, off, none⟩ : Addr).add j = ⟨b, off + j, none⟩ := by
  unfold Addr.add; split <;> simp_all

theorem info_of {P : Program} {t : TypeId} {d : TypeDesc} (h : P.underlying t = some d) : ∃ i, P.info? t = some i := by
  unfold Program.underlying at h
  cases hi : P.info? t with
  | none => rw [hi] at h; cases h
  | some i => exact ⟨i, rfl⟩

theorem run_sizeOf {P : Program} {t : TypeId} {i : TypeInfo} (h : P.info? t = some i) : (sizeOf t).run P w = .ok (szT P t) w := by
  simp [sizeOf, typeInfo, h, szT]

theorem info_of_sz {P : Program} {t : TypeId} (h : 0 < szT P t) : ∃ i, P.info? t = some i := by
  unfold szT at h
  cases hi : P.info? t with
  | none => rw [hi] at h; simp at h
  | some i => exact ⟨i, rfl⟩

theorem run_isAgg {P : Program} {t : TypeId} {b : Bool} (h : isAggT P t = some b) : (isAgg t).run P w = .ok b w := by
  unfold isAggT at h
  simp only [Option.map_eq_some_iff] at h
  obtain ⟨d, hd, rfl⟩ := h
  cases d <;> simp [isAgg, run_underlying hd]

/-- A row of cells read as a value. -/
theorem run_loadA {t : TypeId} {cs : List AV} {x : AV} (h : loadA C t cs = some x) {b off : Nat} (vs : List Value) (hl : cs.length ≤ vs.length)
    (hc : ∀ (j : Nat) v, vs[j]? = some v → w.cell? ⟨b, off + j, none⟩ = some v) (hr : ∀ (j : Nat) v c, vs[j]? = some v → cs[j]? = some c → Rep G v c) :
    ∃ v, (loadVar t ⟨b, off, none⟩).run C.P w = .ok v w ∧ Rep G v x := by
  unfold loadA at h
  simp only [Option.bind_eq_some_iff] at h
  obtain ⟨bb, hb, h⟩ := h
  have hag := run_isAgg (w := w) hb
  cases bb with
  | true =>
    simp only [if_true] at h
    split at h
    · rename_i hn
      simp only [Option.some.injEq] at h
      subst h
      have hi : ∃ i, C.P.info? t = some i := by
        unfold isAggT at hb
        simp only [Option.map_eq_some_iff] at hb
        obtain ⟨d, hd, _⟩ := hb
        exact info_of hd
      obtain ⟨i, hi⟩ := hi
      have hlen : (vs.take (szT C.P t)).length = szT C.P t := by rw [List.length_take]; omega
      have hld := run_loadCells_list (P := C.P) w ⟨b, off, none⟩ (vs.take (szT C.P t)) (fun j v hv => by
        rw [add_addr]
        exact hc j v (by rw [List.getElem?_take] at hv; split at hv <;> first | exact hv | cases hv))
      rw [hlen] at hld
      refine ⟨.agg (vs.take (szT C.P t)).toArray, by simp [loadVar, hag, run_sizeOf hi, hld], .agg _ _ _ (by simp; omega) (fun j v c hv hcc => ?_)⟩
      simp only [List.getElem?_toArray, List.getElem?_take] at hv hcc
      split at hv
      · rw [if_pos (by assumption)] at hcc
        exact hr j v c hv hcc
      · cases hv
    · cases h
  | false =>
    simp only [Bool.false_eq_true, if_false] at h
    cases cs with
    | nil => simp at h
    | cons c cs =>
      simp only [List.head?_cons, Option.some.injEq] at h
      subst h
      have h00 : 0 < vs.length := by simp at hl; omega
      have hv : vs[0]? = some vs[0] := List.getElem?_eq_getElem h00
      refine ⟨vs[0], ?_, hr 0 _ _ hv rfl⟩
      have h0 := hc 0 _ hv
      simp only [Nat.add_zero] at h0
      simp [loadVar, hag, h0]

/-- What an operation that leaves memory alone comes to. -/
structure Still (C : Ctx) (G : Gh) (A : _root_.Go.Act) (w : World) (o : Oper) (a : Act) : Prop where
  sw : a.sw = []
  nb : a.nb = 0
  run : ∃ v, (execOp A.eval o).run C.P w = .ok (.value v) w ∧ Rep G v a.val

theorem still_v {A : _root_.Go.Act} {o : Oper} {a : Act} {x : Option AV} (h : x.map (fun x => ({ val := x } : Act)) = some a) (H : ∀ y, x = some y → ∃ v, (execOp A.eval o).run C.P w = .ok (.value v) w ∧ Rep G v y) : Still C G A w o a := by
  simp only [Option.map_eq_some_iff] at h
  obtain ⟨y, hy, rfl⟩ := h
  exact ⟨rfl, rfl, H y hy⟩

theorem rep_bool {v : Value} {b : Bool} (h : Rep G v (.bool b)) : v = .bool b := by cases h; rfl
theorem rep_int {v : Value} {k : IntKind} {n : Int} (h : Rep G v (.int k n)) : v = .int k n := by cases h; rfl
theorem rep_str {v : Value} {s : ByteArray} (h : Rep G v (.str s)) : v = .string s := by cases h; rfl

theorem run_arith {op : BinOp} {k : IntKind} {a b : Int} {r : AV} (h : arithI op k a b = some r) (hs : ¬ (op = .shl ∨ op = .shr)) (t : TypeId) :
    ∃ v, (binOp op t (.int k a) (.int k b)).run C.P w = .ok v w ∧ Rep G v r := by
  cases op <;> simp only [arithI, cmpI, wrapI, bitsI, Option.map_some, Option.some.injEq, Option.map_none, reduceCtorEq] at h
  case quo =>
    split at h
    · cases h
    · rename_i hb
      simp only [Option.some.injEq] at h
      subst h
      exact ⟨_, by simp [binOp, Op.intDiv, hb], .int _ _ _⟩
  case rem =>
    split at h
    · cases h
    · rename_i hb
      simp only [Option.some.injEq] at h
      subst h
      exact ⟨_, by simp [binOp, Op.intDiv, hb], .int _ _ _⟩
  case andNot =>
    subst h
    exact ⟨_, by simp only [binOp, ne_eq, not_true_eq_false, if_false, Op.intBits]; rfl, .int _ _ _⟩
  all_goals
    subst h
    refine ⟨_, by simp [binOp, Op.intArith, Op.intBits, Op.intCmp] <;> rfl, ?_⟩
    constructor

theorem run_strOp {op : BinOp} {a b : ByteArray} {r : AV} (h : strOp op a b = some r) (t : TypeId) :
    ∃ v, (binOp op t (.string a) (.string b)).run C.P w = .ok v w ∧ Rep G v r := by
  cases op <;> simp only [strOp, Option.some.injEq, reduceCtorEq] at h
  case add =>
    split at h
    · rename_i hb
      simp only [Option.some.injEq] at h
      subst h
      have hm : ¬ (((a.size + b.size : Nat) : Int) > IntKind.i64.max) := by
        have : IntKind.i64.max = 9223372036854775807 := rfl
        rw [this]
        omega
      refine ⟨_, by simp only [binOp, Op.stringOp]; rw [if_neg hm]; rfl, .str _ _⟩
    · cases h
  all_goals
    subst h
    exact ⟨_, by simp [binOp, Op.stringOp] <;> rfl, .bool _ _⟩

theorem run_shift {op : BinOp} {k k' : IntKind} {a b : Int} {r : AV} (h : shiftI op k a b = some r) (t : TypeId) :
    ∃ v, (binOp op t (.int k a) (.int k' b)).run C.P w = .ok v w ∧ Rep G v r := by
  unfold shiftI at h
  split at h
  · cases h
  · rename_i hb
    cases op <;> simp only [Option.some.injEq, reduceCtorEq] at h
    all_goals
      subst h
      exact ⟨_, by simp [binOp, Op.shift, hb] <;> rfl, .int _ _ _⟩

theorem run_eqV {d : TypeDesc} {t : TypeId} (hd : C.P.underlying t = some d) {x y : AV} {r : Bool} (h : eqV (some d) x y = some r) {u v : Value} (hu : Rep G u x) (hv : Rep G v y) :
    (Op.equal t u v).run C.P w = .ok r w := by
  obtain ⟨dd, hdd⟩ : ∃ dd, Op.maxDepth = dd + 1 := ⟨9999, rfl⟩
  rw [Op.equal, hdd]
  unfold eqV at h
  split at h <;> simp only [Option.some.injEq, reduceCtorEq] at h <;> rename_i hd' <;> (try (simp only [Option.some.injEq] at hd')) <;> subst_vars <;> cases hu <;> cases hv <;> simp [Op.equalIn, run_underlying hd]

theorem run_binA {op : BinOp} {xt : TypeId} {x y : AV} {r : AV} (h : binA (C.P.underlying xt) op x y = some r) {u v : Value} (hu : Rep G u x) (hv : Rep G v y) (xo yo : Operand) :
    ∃ z, (do eqGuard op xt xo yo u v; binOp op xt u v : Sem Value).run C.P w = .ok z w ∧ Rep G z r := by
  have guardOk : (∀ e, ¬ (u = .nilIface ∧ v = .nilIface ∧ e = ())) → (∀ p q, ¬ (u = .agg p ∧ v = .agg q)) → (eqGuard op xt xo yo u v).run C.P w = .ok () w := by
    intro h1 h2
    unfold eqGuard
    split
    all_goals first
      | rfl
      | (cases u <;> cases v <;> first | rfl | (exact absurd ⟨rfl, rfl, rfl⟩ (h1 ())) | (exact absurd ⟨rfl, rfl⟩ (h2 _ _)))
  unfold binA at h
  split at h
  · rename_i k a k' b
    obtain rfl := rep_int hu
    obtain rfl := rep_int hv
    have hg := guardOk (by simp) (by simp)
    split at h
    · obtain ⟨z, hz, hr⟩ := run_shift (C := C) (G := G) (w := w) (k' := k') h xt
      exact ⟨z, by simp [hg, hz], hr⟩
    · rename_i hs
      split at h
      · rename_i hk
        subst hk
        obtain ⟨z, hz, hr⟩ := run_arith (C := C) (G := G) (w := w) h hs xt
        exact ⟨z, by simp [hg, hz], hr⟩
      · cases h
  · rename_i a b
    obtain rfl := rep_str hu
    obtain rfl := rep_str hv
    have hg := guardOk (by simp) (by simp)
    obtain ⟨z, hz, hr⟩ := run_strOp (C := C) (G := G) (w := w) h xt
    exact ⟨z, by simp [hg, hz], hr⟩
  · rename_i n1 n2
    have heq : ∀ q, eqV (C.P.underlying xt) x y = some q → (eqGuard op xt xo yo u v).run C.P w = .ok () w ∧ (Op.equal xt u v).run C.P w = .ok q w := by
      intro q hq
      cases hd : C.P.underlying xt with
      | none => rw [hd] at hq; simp [eqV] at hq
      | some d =>
        rw [hd] at hq
        refine ⟨?_, run_eqV hd hq hu hv⟩
        unfold eqV at hq
        split at hq <;> first | (cases hq; done) | (cases hu <;> cases hv <;> exact guardOk (by simp) (by simp))
    have hbin : ∀ q, eqV (C.P.underlying xt) x y = some q → (binOp .eql xt u v = (do pure (.bool (← Op.equal xt u v)))) ∧ (binOp .neq xt u v = (do pure (.bool (!(← Op.equal xt u v))))) := by
      intro q hq
      cases hd : C.P.underlying xt with
      | none => rw [hd] at hq; simp [eqV] at hq
      | some d =>
        rw [hd] at hq
        unfold eqV at hq
        split at hq <;> first | (cases hq; done) | (cases hu <;> cases hv <;> exact ⟨rfl, rfl⟩)
    split at h
    · simp only [Option.map_eq_some_iff] at h
      obtain ⟨q, hq, rfl⟩ := h
      obtain ⟨h1, h2⟩ := heq q hq
      exact ⟨.bool q, by simp [h1, (hbin q hq).1, h2], .bool _ _⟩
    · simp only [Option.map_eq_some_iff] at h
      obtain ⟨q, hq, rfl⟩ := h
      obtain ⟨h1, h2⟩ := heq q hq
      exact ⟨.bool (!q), by simp [h1, (hbin q hq).2, h2], .bool _ _⟩
    · cases h

end Go.Ev
end
section
namespace Go.Ev
set_option linter.unusedVariables false
set_option linter.unusedSimpArgs false
variable {C : Ctx} {G : Gh} {w : World} {m : Mem}

/-- The cells of a live block, from a place on. -/
theorem live_row {id b tot : Nat} {ap : Bool} {cur : Array Value} {e : TypeId} {fr : Nat × Nat} (h : LiveAt G w m id b tot ap cur e fr) (off : Nat) :
    (((m.sto id).cells.drop off).length ≤ (cur.toList.drop off).length) ∧ (∀ (j : Nat) v, (cur.toList.drop off)[j]? = some v → w.cell? ⟨b, off + j, none⟩ = some v) ∧
      ∀ (j : Nat) v c, (cur.toList.drop off)[j]? = some v → ((m.sto id).cells.drop off)[j]? = some c → Rep G v c := by
  refine ⟨?_, fun j v hv => ?_, fun j v c hv hc => ?_⟩
  · have := h.len
    have := h.size
    simp only [List.length_drop, Array.length_toList]
    omega
  · rw [List.getElem?_drop] at hv
    simp only [World.cell?, h.heap, Option.isSome_none, Bool.false_eq_true, if_false]
    simpa using hv
  · rw [List.getElem?_drop] at hv hc
    exact h.rep _ _ _ (by simpa using hv) hc

theorem row_still {b off : Nat} {vs : List Value} (hi : Inv G w m) (hM : ∀ (j : Nat) v, vs[j]? = some v → (G.M b)[off + j]? = some v) (j : Nat) (v : Value) (hv : vs[j]? = some v) : w.cell? ⟨b, off + j, none⟩ = some v :=
  hi.okM _ _ _ (hM j v hv)

theorem Rep.of_bare {v : Value} {x : AV} (h : Rep G.bare v x) : Rep G v x := h.mono (fun _ => List.prefix_refl _) (fun _ _ _ h => by simp [Gh.bare] at h)

theorem live_of (hi : Inv G w m) {id b : Nat} {x : Nat × Bool} (h : G.T id (m.sto id).gen = some (b, x)) : ∃ cur e fr, LiveAt G w m id b x.1 x.2 cur e fr :=
  hi.live id b x.1 x.2 h

/-- A load. -/
theorem run_load_op (hi : Inv G w m) {t : TypeId} {u : Value} {a x : AV} (hu : Rep G u a)
    (h : (∃ id g off, a = .ptr id g off ∧ g = (m.sto id).gen ∧ loadA C t ((m.sto id).cells.drop off) = some x) ∨ ∃ cs, a = .eptr cs ∧ loadA C t cs = some x) :
    ∃ v, (Instr.loadAt t u).run C.P w = .ok v w ∧ Rep G v x := by
  rcases h with ⟨id, g, off, rfl, rfl, h⟩ | ⟨cs, rfl, h⟩
  · cases hu with
    | ptr _ _ _ _ b y hT =>
      obtain ⟨cur, e, fr, hl⟩ := live_of hi hT
      obtain ⟨h1, h2, h3⟩ := live_row hl off
      obtain ⟨v, hv, hr⟩ := run_loadA (C := C) h (cur.toList.drop off) h1 h2 h3
      exact ⟨v, by simp [Instr.loadAt, Instr.sureAddr, hv], hr⟩
  · cases hu with
    | eptr _ b off _ vs hl hM hr =>
      obtain ⟨v, hv, hrr⟩ := run_loadA (C := C) h vs (Nat.le_of_eq hl.symm) (row_still hi hM) (fun j v c hv hc => (hr j v c hv hc).of_bare)
      exact ⟨v, by simp [Instr.loadAt, Instr.sureAddr, hv], hrr⟩

theorem run_fieldAt {t : TypeId} {fs : Array Field} (hf : fieldsT C.P t = some fs) {f : Nat} {fd : Field} (hfd : fs[f]? = some fd) (hsz : ¬ szT C.P fd.type = 0) (b off : Nat) :
    (Instr.fieldAt t (.pointer (some ⟨b, off, none⟩)) f).run C.P w = .ok (.pointer (some ⟨b, off + fd.offset, none⟩)) w := by
  unfold fieldsT at hf
  split at hf
  · rename_i fs' hu
    simp only [Option.some.injEq] at hf
    subst hf
    obtain ⟨i, hi⟩ := info_of_sz (Nat.pos_of_ne_zero hsz)
    simp [Instr.fieldAt, run_underlying hu, hfd, Instr.sureAddr, fieldPlace, run_sizeOf hi, hsz, add_addr]
  · cases hf

theorem eptr_drop {b off : Nat} {cs : List AV} {k : Nat} (h : Rep G (.pointer (some ⟨b, off, none⟩)) (.eptr cs)) : Rep G (.pointer (some ⟨b, off + k, none⟩)) (.eptr (cs.drop k)) := by
  cases h with
  | eptr _ _ _ _ vs hl hM hr =>
    refine .eptr _ b (off + k) _ (vs.drop k) (by simp [hl]) (fun j v hv => ?_) (fun j v c hv hc => ?_)
    · rw [List.getElem?_drop] at hv
      have := hM _ _ hv
      rwa [Nat.add_assoc]
    · rw [List.getElem?_drop] at hv hc
      exact hr _ _ _ hv hc

theorem idx_spec {x : AV} {n i : Nat} (h : idx x n = some i) {u : Value} (hu : Rep G u x) : ∃ k z, u = .int k z ∧ 0 ≤ z ∧ z < n ∧ i = z.toNat := by
  unfold idx at h
  split at h
  · rename_i k z
    split at h
    · rename_i hz
      simp only [Option.some.injEq] at h
      exact ⟨k, z, rep_int hu, hz.1, hz.2, h.symm⟩
    · cases h
  · cases h

theorem flat_drop (sz : Nat) : ∀ (xs : List AV) (i : Nat) (x : AV), (∀ y ∈ xs, y.cells.length = sz) → xs[i]? = some x → ∃ r, (flat xs).drop (i * sz) = x.cells ++ r
  | [], i, x, _, h => by simp at h
  | y :: ys, 0, x, hs, h => by
    simp only [List.getElem?_cons_zero, Option.some.injEq] at h
    subst h
    exact ⟨flat ys, by simp [flat]⟩
  | y :: ys, i + 1, x, hs, h => by
    simp only [List.getElem?_cons_succ] at h
    obtain ⟨r, hr⟩ := flat_drop sz ys i x (fun z hz => hs z (List.mem_cons_of_mem _ hz)) h
    refine ⟨r, ?_⟩
    have hy := hs y (List.mem_cons_self ..)
    simp only [flat, List.map_cons, List.flatten_cons] at hr ⊢
    rw [List.drop_append, hy, List.drop_eq_nil_of_le (by rw [hy, Nat.add_mul, Nat.one_mul]; omega), List.nil_append]
    rw [show (i + 1) * sz - sz = i * sz by rw [Nat.add_mul, Nat.one_mul]; omega]
    exact hr

theorem flat_length (sz : Nat) : ∀ (xs : List AV), (∀ y ∈ xs, y.cells.length = sz) → (flat xs).length = xs.length * sz
  | [], _ => by simp [flat]
  | y :: ys, hs => by
    have := flat_length sz ys (fun z hz => hs z (List.mem_cons_of_mem _ hz))
    simp only [flat, List.map_cons, List.flatten_cons, List.length_append, hs y (List.mem_cons_self ..), List.length_cons, Nat.add_mul, Nat.one_mul] at this ⊢
    omega

/-- An element's address. -/
theorem run_indexAt {t e : TypeId} (he : elemT C.P t = some e) {sz : Nat} (hsz : sz = szT C.P e) (h0 : 0 < sz) {k : IntKind} {z : Int} {n cap b off : Nat} (hz : 0 ≤ z) (hn : z < n) :
    (Instr.indexAt t (.slice (some ⟨b, off, none⟩) n cap) (.int k z)).run C.P w = .ok (.pointer (some ⟨b, off + z.toNat * sz, none⟩)) w := by
  subst hsz
  unfold elemT at he
  split at he
  · rename_i e' hu
    simp only [Option.some.injEq] at he
    subst he
    obtain ⟨i, hi⟩ := info_of_sz h0
    simp [Instr.indexAt, asIntOf, run_underlying hu, run_sizeOf hi, hz, hn, add_addr]
  · cases he

theorem run_index_op {t : TypeId} {a ix x : AV} {u v : Value} (hu : Rep G u a) (hv : Rep G v ix)
    (h : (∃ sz xs i e y, a = .slice sz xs ∧ idx ix xs.length = some i ∧ elemT C.P t = some e ∧ (sz = szT C.P e ∧ 0 < sz) ∧ xs[i]? = some y ∧ x = .eptr y.cells) ∨
      (∃ id g off n sz app i e, a = .arr id g off n sz app ∧ idx ix n = some i ∧ elemT C.P t = some e ∧ (sz = szT C.P e ∧ 0 < sz) ∧ x = .ptr id g (off + i * sz)) ∨
      (∃ cs n e i, a = .eptr cs ∧ C.P.underlying t = some (.array n e) ∧ idx ix n = some i ∧ 0 < szT C.P e ∧ x = .eptr (cs.drop (i * szT C.P e))) ∨
      ∃ id g off n e i, a = .ptr id g off ∧ C.P.underlying t = some (.array n e) ∧ idx ix n = some i ∧ 0 < szT C.P e ∧ x = .ptr id g (off + i * szT C.P e)) :
    ∃ r, (Instr.indexAt t u v).run C.P w = .ok r w ∧ Rep G r x := by
  rcases h with ⟨sz, xs, i, e, y, rfl, hi, he, ⟨hsz, h0⟩, hy, rfl⟩ | ⟨id, g, off, n, sz, app, i, e, rfl, hi, he, ⟨hsz, h0⟩, rfl⟩ | ⟨cs, n, e, i, rfl, hut, hi, h0, rfl⟩ | ⟨id, g, off, n, e, i, rfl, hut, hi, h0, rfl⟩
  · obtain ⟨k, z, rfl, hz0, hzn, rfl⟩ := idx_spec hi hv
    cases hu with
    | slice0 => simp at hzn; omega
    | sliceE => simp at hzn; omega
    | slice _ b off n cap _ _ vs hn hc hs hl hM h1 hr =>
      subst hn
      refine ⟨_, run_indexAt he hsz h0 hz0 hzn, ?_⟩
      obtain ⟨r, hrr⟩ := flat_drop sz xs z.toNat y hs hy
      have hfl := congrArg List.length hrr
      simp only [List.length_drop, List.length_append] at hfl
      refine .eptr _ b _ _ ((vs.drop (z.toNat * sz)).take y.cells.length) (by simp only [List.length_take, List.length_drop, hl]; omega) (fun j v hv => ?_) (fun j v c hv hcc => ?_)
      · rw [List.getElem?_take] at hv
        split at hv
        · rw [List.getElem?_drop] at hv
          have := hM _ _ hv
          rwa [Nat.add_assoc]
        · cases hv
      · rw [List.getElem?_take] at hv
        split at hv
        · rename_i hj
          rw [List.getElem?_drop] at hv
          refine hr _ v c hv ?_
          rw [← List.getElem?_drop, hrr, List.getElem?_append_left hj]
          exact hcc
        · cases hv
  · obtain ⟨k, z, rfl, hz0, hzn, rfl⟩ := idx_spec hi hv
    cases hu with
    | arr _ _ _ _ _ _ b cap tot _ ap hT hc ha =>
      exact ⟨_, run_indexAt he hsz h0 hz0 hzn, .ptr _ _ _ _ _ _ hT⟩
  · obtain ⟨k, z, rfl, hz0, hzn, rfl⟩ := idx_spec hi hv
    obtain ⟨ii, hii⟩ := info_of_sz h0
    cases hu with
    | eptr _ b off _ vs hl hM hr =>
      refine ⟨.pointer (some ⟨b, off + z.toNat * szT C.P e, none⟩), ?_, eptr_drop (.eptr _ b off cs vs hl hM hr)⟩
      simp [Instr.indexAt, asIntOf, run_underlying hut, Instr.sureAddr, run_sizeOf hii, hz0, hzn, add_addr]
  · obtain ⟨k, z, rfl, hz0, hzn, rfl⟩ := idx_spec hi hv
    obtain ⟨ii, hii⟩ := info_of_sz h0
    cases hu with
    | ptr _ _ _ _ b y hT =>
      refine ⟨.pointer (some ⟨b, off + z.toNat * szT C.P e, none⟩), ?_, .ptr _ _ _ _ _ _ hT⟩
      simp [Instr.indexAt, asIntOf, run_underlying hut, Instr.sureAddr, run_sizeOf hii, hz0, hzn, add_addr]

theorem run_index_str {t : TypeId} {s : ByteArray} {u v : Value} {ix : AV} {i : Nat} {b : UInt8} (ht : C.P.underlying t = some .string) (hu : Rep G u (.str s)) (hv : Rep G v ix) (hi : idx ix s.size = some i) (hb : s[i]? = some b) :
    (Instr.index t u v).run C.P w = .ok (.int .u8 b.toNat) w := by
  obtain rfl := rep_str hu
  obtain ⟨k, z, rfl, hz0, hzn, rfl⟩ := idx_spec hi hv
  simp [Instr.index, asIntOf, run_underlying ht, hz0, hb]

theorem bound_spec {x : Option AV} {u : Option Value} {n d r : Nat} (h : bound x n d = some r) (hu : ∀ a, x = some a → ∃ v, u = some v ∧ Rep G v a) (hn : x = none → u = none) :
    (x = none ∧ u = none ∧ r = d) ∨ ∃ k z, u = some (.int k z) ∧ 0 ≤ z ∧ z ≤ n ∧ r = z.toNat ∧ x.isSome := by
  unfold bound at h
  split at h
  · simp only [Option.some.injEq] at h
    exact .inl ⟨rfl, hn rfl, h.symm⟩
  · rename_i k z
    split at h
    · rename_i hz
      simp only [Option.some.injEq] at h
      obtain ⟨v, rfl, hv⟩ := hu _ rfl
      exact .inr ⟨k, z, by rw [rep_int hv], hz.1, hz.2, h.symm, rfl⟩
    · cases h
  · cases h

theorem run_bound {k : IntKind} {z : Int} {y : Nat} {code : BoundsCode} (h0 : 0 ≤ z) (h1 : z ≤ y) : (Instr.sliceBound (.int k z) y code).run C.P w = .ok z.toNat w := by
  simp [Instr.sliceBound, asIntOf, h0, h1]

/-- The three bounds of a cut. -/
theorem run_bounds {isS : Bool} {len cap : Nat} (hlc : len ≤ cap) {lo hi mx : Option AV} {ul uh um : Option Value}
    (hul : ∀ a, lo = some a → ∃ v, ul = some v ∧ Rep G v a) (hul' : lo = none → ul = none)
    (huh : ∀ a, hi = some a → ∃ v, uh = some v ∧ Rep G v a) (huh' : hi = none → uh = none)
    (hum : ∀ a, mx = some a → ∃ v, um = some v ∧ Rep G v a) (hum' : mx = none → um = none)
    (hnm : ¬ (hi.isNone = true ∧ mx.isSome = true)) {m h l : Nat} (hm : bound mx len len = some m) (hh : bound hi m (min len m) = some h) (hl : bound lo h 0 = some l) :
    ∃ m', (Instr.sliceBounds isS len cap ul uh um).run C.P w = .ok (l, h, m') w ∧ h ≤ m' ∧ l ≤ h ∧ h ≤ len ∧ m' ≤ cap := by
  rcases bound_spec hm hum hum' with ⟨rfl, rfl, rfl⟩ | ⟨km, zm, rfl, hm0, hm1, rfl, hms⟩
  · rcases bound_spec hh huh huh' with ⟨rfl, rfl, rfl⟩ | ⟨kh, zh, rfl, hh0, hh1, rfl, _⟩
    · rw [Nat.min_self] at hl ⊢
      rcases bound_spec hl hul hul' with ⟨rfl, rfl, rfl⟩ | ⟨kl, zl, rfl, hl0, hl1, rfl, _⟩
      · exact ⟨cap, by simp [Instr.sliceBounds], hlc, Nat.zero_le _, Nat.le_refl _, Nat.le_refl _⟩
      · exact ⟨cap, by simp [Instr.sliceBounds, run_bound (C := C) hl0 hl1], hlc, by omega, Nat.le_refl _, Nat.le_refl _⟩
    · have hh2 : zh ≤ (cap : Int) := by omega
      rcases bound_spec hl hul hul' with ⟨rfl, rfl, rfl⟩ | ⟨kl, zl, rfl, hl0, hl1, rfl, _⟩
      · exact ⟨cap, by simp [Instr.sliceBounds, run_bound (C := C) hh0 hh2], by omega, Nat.zero_le _, by omega, by omega⟩
      · exact ⟨cap, by simp [Instr.sliceBounds, run_bound (C := C) hh0 hh2, run_bound (C := C) hl0 hl1], by omega, by omega, by omega, by omega⟩
  · have hm2 : zm ≤ (cap : Int) := by omega
    rcases bound_spec hh huh huh' with ⟨rfl, rfl, rfl⟩ | ⟨kh, zh, rfl, hh0, hh1, rfl, _⟩
    · exact absurd ⟨rfl, hms⟩ hnm
    · rcases bound_spec hl hul hul' with ⟨rfl, rfl, rfl⟩ | ⟨kl, zl, rfl, hl0, hl1, rfl, _⟩
      · exact ⟨zm.toNat, by simp [Instr.sliceBounds, run_bound (C := C) hm0 hm2, run_bound (C := C) hh0 hh1], by omega, Nat.zero_le _, by omega, by omega⟩
      · exact ⟨zm.toNat, by simp [Instr.sliceBounds, run_bound (C := C) hm0 hm2, run_bound (C := C) hh0 hh1, run_bound (C := C) hl0 hl1], by omega, by omega, by omega, by omega⟩

theorem flat_cut (sz : Nat) (xs : List AV) (hs : ∀ y ∈ xs, y.cells.length = sz) (l h : Nat) : flat ((xs.take h).drop l) = ((flat xs).take (h * sz)).drop (l * sz) := by
  have take : ∀ (xs : List AV) (h : Nat), (∀ y ∈ xs, y.cells.length = sz) → flat (xs.take h) = (flat xs).take (h * sz) := by
    intro xs
    induction xs with
    | nil => intro h _; simp [flat]
    | cons y ys ih =>
      intro h hs
      cases h with
      | zero => simp [flat]
      | succ h =>
        have := ih h (fun z hz => hs z (List.mem_cons_of_mem _ hz))
        have hy := hs y (List.mem_cons_self ..)
        simp only [flat, List.take_succ_cons, List.map_cons, List.flatten_cons] at this ⊢
        have e1 : y.cells.take ((h + 1) * sz) = y.cells := List.take_of_length_le (by rw [hy, Nat.add_mul, Nat.one_mul]; omega)
        rw [this, List.take_append, hy, e1, show (h + 1) * sz - sz = h * sz by rw [Nat.add_mul, Nat.one_mul]; omega]
  have drop : ∀ (xs : List AV) (l : Nat), (∀ y ∈ xs, y.cells.length = sz) → flat (xs.drop l) = (flat xs).drop (l * sz) := by
    intro xs
    induction xs with
    | nil => intro l _; simp [flat]
    | cons y ys ih =>
      intro l hs
      cases l with
      | zero => simp [flat]
      | succ l =>
        have := ih l (fun z hz => hs z (List.mem_cons_of_mem _ hz))
        have hy := hs y (List.mem_cons_self ..)
        simp only [flat, List.drop_succ_cons, List.map_cons, List.flatten_cons] at this ⊢
        have e1 : y.cells.drop ((l + 1) * sz) = [] := List.drop_eq_nil_of_le (by rw [hy, Nat.add_mul, Nat.one_mul]; omega)
        rw [this, List.drop_append, hy, e1, List.nil_append, show (l + 1) * sz - sz = l * sz by rw [Nat.add_mul, Nat.one_mul]; omega]
  rw [drop _ _ (fun y hy => hs y (List.mem_of_mem_take hy)), take _ _ hs]

theorem run_slice_op {t : TypeId} {x r : AV} {lo hi mx : Option AV} {u : Value} {ul uh um : Option Value} (hu : Rep G u x)
    (hul : ∀ a, lo = some a → ∃ v, ul = some v ∧ Rep G v a) (hul' : lo = none → ul = none)
    (huh : ∀ a, hi = some a → ∃ v, uh = some v ∧ Rep G v a) (huh' : hi = none → uh = none)
    (hum : ∀ a, mx = some a → ∃ v, um = some v ∧ Rep G v a) (hum' : mx = none → um = none)
    (hnm : ¬ (hi.isNone && mx.isSome) = true) (h : sliceA C t x lo hi mx = some r) :
    ∃ v, (Instr.sliceAt t u ul uh um).run C.P w = .ok v w ∧ Rep G v r := by
  have hnm' : ¬ (hi.isNone = true ∧ mx.isSome = true) := by simpa using hnm
  unfold sliceA at h
  split at h
  · rename_i s hut
    obtain rfl := rep_str hu
    split at h
    · cases h
    · rename_i hmx
      have hmx' : mx = none := by cases mx <;> simp at hmx ⊢
      subst hmx'
      obtain rfl := hum' rfl
      simp only [Option.bind_eq_some_iff, Option.map_eq_some_iff] at h
      obtain ⟨hh, h1, l, h2, rfl⟩ := h
      obtain ⟨m', hr, a1, a2, a3, a4⟩ := run_bounds (C := C) (w := w) (isS := false) (len := s.size) (cap := s.size) (Nat.le_refl _) hul hul' huh huh' (mx := none) (um := none) (fun a h => by cases h) (fun _ => rfl) hnm' (m := s.size) rfl (by rw [Nat.min_self]; exact h1) h2
      exact ⟨.string (s.extract l hh), by simp [Instr.sliceAt, Instr.slice, run_underlying hut, hr], .str _ _⟩
  · rename_i e sz xs hut
    split at h
    · rename_i hsz
      obtain ⟨hsz, h0⟩ := hsz
      simp only [Option.bind_eq_some_iff, Option.map_eq_some_iff] at h
      obtain ⟨mm, h1, hh, h2, l, h3, rfl⟩ := h
      obtain ⟨i, hi'⟩ := info_of_sz (P := C.P) (t := e) (hsz ▸ h0)
      cases hu with
      | slice0 =>
        simp only [List.length_nil] at h1 h2
        obtain ⟨m', hr, a1, a2, a3, a4⟩ := run_bounds (C := C) (w := w) (isS := true) (len := 0) (cap := 0) (Nat.le_refl _) hul hul' huh huh' hum hum' hnm' h1 h2 h3
        obtain rfl : hh = 0 := by omega
        obtain rfl : l = 0 := by omega
        have hm' : m' = 0 := by omega
        subst hm'
        exact ⟨.slice none 0 0, by simp [Instr.sliceAt, Instr.slice, run_underlying hut, hr, run_sizeOf hi'], by simpa using Rep.slice0 _ _⟩
      | sliceE _ ad cap =>
        simp only [List.length_nil] at h1 h2
        obtain ⟨m', hr, a1, a2, a3, a4⟩ := run_bounds (C := C) (w := w) (isS := true) (len := 0) (cap := cap) (Nat.zero_le _) hul hul' huh huh' hum hum' hnm' h1 h2 h3
        obtain rfl : hh = 0 := by omega
        obtain rfl : l = 0 := by omega
        refine ⟨.slice (if m' = 0 then some ad else some (ad.add (0 * szT C.P e))) (0 - 0) (m' - 0), ?_, ?_⟩
        · simp only [Instr.sliceAt, Instr.slice, Sem.run_bind, run_underlying hut, Result.andThen_ok, hr, run_sizeOf hi', Option.map_some]
          rfl
        · simp only [List.take_nil, List.drop_nil]
          split <;> exact .sliceE _ _ _ _
      | slice _ b off n cap _ _ vs hn hc hs hl hM hone hrr =>
        subst hn
        obtain ⟨m', hr, a1, a2, a3, a4⟩ := run_bounds (C := C) (w := w) (isS := true) (len := xs.length) (cap := cap) hc hul hul' huh huh' hum hum' hnm' h1 h2 h3
        have hcut := flat_cut sz xs hs l hh
        have hfl := flat_length sz xs hs
        have hb1 : l * sz ≤ hh * sz := Nat.mul_le_mul_right _ a2
        have hb2 : hh * sz ≤ xs.length * sz := Nat.mul_le_mul_right _ a3
        refine ⟨.slice (if m' = l then some ⟨b, off, none⟩ else some ⟨b, off + l * sz, none⟩) (hh - l) (m' - l), ?_, ?_⟩
        · subst hsz
          simp only [Instr.sliceAt, Instr.slice, Sem.run_bind, run_underlying hut, Result.andThen_ok, hr, run_sizeOf hi', Option.map_some, add_addr]
          rfl
        · have hsub : ∀ y ∈ (xs.take hh).drop l, y.cells.length = sz := fun y hy => hs y (List.mem_of_mem_take (List.mem_of_mem_drop hy))
          by_cases hml : m' = l
          · rw [if_pos hml]
            have : (xs.take hh).drop l = [] := List.drop_eq_nil_of_le (by rw [List.length_take]; omega)
            rw [this]
            exact .slice _ b off _ _ sz [] [] (by simp; omega) (by omega) (by simp) (by simp [flat]) (by simp) (by simp [flat]) (by simp)
          · rw [if_neg hml]
            refine .slice _ b _ _ _ sz _ ((vs.take (hh * sz)).drop (l * sz)) (by simp; omega) (by omega) hsub ?_ (fun j v hv => ?_) (fun c hc => ?_) (fun j v c hv hcc => ?_)
            · rw [hcut]; simp [hl]
            · rw [List.getElem?_drop, List.getElem?_take] at hv
              split at hv
              · have := hM _ _ hv
                rwa [Nat.add_assoc]
              · cases hv
            · rw [hcut] at hc
              exact hone c (List.mem_of_mem_take (List.mem_of_mem_drop hc))
            · rw [hcut, List.getElem?_drop, List.getElem?_take] at hcc
              rw [List.getElem?_drop, List.getElem?_take] at hv
              split at hv
              · rw [if_pos (by assumption)] at hcc
                exact hrr _ _ _ hv hcc
              · cases hv
    · cases h
  · rename_i e sz hut
    split at h
    · rename_i hsz
      obtain ⟨hsz, h0⟩ := hsz
      simp only [Option.bind_eq_some_iff, Option.map_eq_some_iff] at h
      obtain ⟨mm, h1, hh, h2, l, h3, rfl⟩ := h
      obtain ⟨i, hi'⟩ := info_of_sz (P := C.P) (t := e) (hsz ▸ h0)
      cases hu with
      | nils =>
        obtain ⟨m', hr, a1, a2, a3, a4⟩ := run_bounds (C := C) (w := w) (isS := true) (len := 0) (cap := 0) (Nat.le_refl _) hul hul' huh huh' hum hum' hnm' (m := mm) (h := hh) (l := l) h1 (by
          have : mm = 0 := by rcases bound_spec h1 hum hum' with ⟨_, _, rfl⟩ | ⟨_, _, _, b0, b1, rfl, _⟩ <;> omega
          subst this
          exact h2) (by
          have : hh = 0 := by rcases bound_spec h2 huh huh' with ⟨_, _, rfl⟩ | ⟨_, _, _, b0, b1, rfl, _⟩ <;> omega
          subst this
          exact h3)
        obtain rfl : hh = 0 := by omega
        obtain rfl : l = 0 := by omega
        obtain rfl : m' = 0 := by omega
        have key := hr
        exact ⟨.slice none 0 0, by simp [Instr.sliceAt, Instr.slice, run_underlying hut, key, run_sizeOf hi'], .nils _ _⟩
    · cases h
  · rename_i e id g off n sz app hut
    split at h
    · rename_i hsz
      obtain ⟨hsz, h0⟩ := hsz
      simp only [Option.bind_eq_some_iff, Option.map_eq_some_iff] at h
      obtain ⟨mm, h1, hh, h2, l, h3, rfl⟩ := h
      obtain ⟨i, hi'⟩ := info_of_sz (P := C.P) (t := e) (hsz ▸ h0)
      cases hu with
      | arr _ _ _ _ _ _ b cap tot _ ap hT hc ha =>
        obtain ⟨m', hr, a1, a2, a3, a4⟩ := run_bounds (C := C) (w := w) (isS := true) (len := n) (cap := cap) hc hul hul' huh huh' hum hum' hnm' h1 h2 h3
        refine ⟨.slice (if m' = l then some ⟨b, off, none⟩ else some ⟨b, off + l * sz, none⟩) (hh - l) (m' - l), ?_, ?_⟩
        · subst hsz
          simp only [Instr.sliceAt, Instr.slice, Sem.run_bind, run_underlying hut, Result.andThen_ok, hr, run_sizeOf hi', Option.map_some, add_addr]
          rfl
        · by_cases hhl : hh = l
          · rw [if_pos hhl]
            have e0 : hh - l = 0 := by omega
            rw [e0]
            split <;> exact .slice _ b _ _ _ sz [] [] rfl (by omega) (by simp) (by simp [flat]) (by simp) (by simp [flat]) (by simp)
          · rw [if_neg hhl, if_neg (by omega)]
            exact .arr _ _ _ _ _ _ b _ _ _ _ hT (by omega) (by simp)
    · cases h
  · cases h

end Go.Ev
end
section
namespace Go.Ev
set_option linter.unusedVariables false
set_option linter.unusedSimpArgs false
variable {C : Ctx} {G : Gh} {w : World} {m : Mem}

theorem fold_set : ∀ (vs : List Value) (off k : Nat) (cells : Array Value),
    ((vs.zipIdx k).foldl (fun (cs : Array Value) (p : Value × Nat) => cs.setIfInBounds (off + p.2) p.1) cells).size = cells.size ∧
    ∀ i : Nat, ((vs.zipIdx k).foldl (fun (cs : Array Value) (p : Value × Nat) => cs.setIfInBounds (off + p.2) p.1) cells)[i]? = if off + k ≤ i ∧ i < off + k + vs.length ∧ i < cells.size then vs[i - off - k]? else cells[i]?
  | [], off, k, cells => ⟨rfl, fun i => by simp; omega⟩
  | v :: vs, off, k, cells => by
    obtain ⟨h1, h2⟩ := fold_set vs off (k + 1) (cells.setIfInBounds (off + k) v)
    simp only [List.zipIdx_cons, List.foldl_cons]
    refine ⟨by rw [h1]; simp, fun i => ?_⟩
    rw [h2 i]
    simp only [Array.size_setIfInBounds, List.length_cons]
    by_cases hi : i = off + k
    · subst hi
      rw [if_neg (by omega), Array.getElem?_setIfInBounds_self]
      by_cases hs : off + k < cells.size
      · rw [if_pos hs, if_pos ⟨by omega, by omega, hs⟩]
        simp [show off + k - off - k = 0 by omega]
      · rw [if_neg hs, if_neg (by omega), Array.getElem?_eq_none (by omega)]
    · rw [Array.getElem?_setIfInBounds_ne (Ne.symm hi)]
      by_cases hc : off + (k + 1) ≤ i ∧ i < off + (k + 1) + vs.length ∧ i < cells.size
      · rw [if_pos hc, if_pos ⟨by omega, by omega, hc.2.2⟩]
        rw [show i - off - k = (i - off - (k + 1)) + 1 by omega, List.getElem?_cons_succ]
      · rw [if_neg hc, if_neg (by omega)]

/-- A row of cells with others in the place of some. -/
structure RowRep (G : Gh) (cells : Array Value) (cs : List AV) : Prop where
  size : cells.size = cs.length
  rep : ∀ (j : Nat) v c, cells[j]? = some v → cs[j]? = some c → Rep G v c

theorem splice_get (cs new : List AV) (off i : Nat) (h : off + new.length ≤ cs.length) : (spliceA cs off new)[i]? = if off ≤ i ∧ i < off + new.length then new[i - off]? else cs[i]? := by
  unfold spliceA
  by_cases h1 : i < off
  · rw [if_neg (by omega), List.getElem?_append_left (by simp; omega), List.getElem?_append_left (by simp; omega), List.getElem?_take, if_pos h1]
  · by_cases h2 : i < off + new.length
    · rw [if_pos ⟨by omega, h2⟩, List.getElem?_append_left (by simp; omega), List.getElem?_append_right (by simp; omega)]
      congr 1
      simp; omega
    · rw [if_neg (by omega), List.getElem?_append_right (by simp; omega), List.getElem?_drop]
      congr 1
      simp; omega

theorem splice_length (cs new : List AV) (off : Nat) (h : off + new.length ≤ cs.length) : (spliceA cs off new).length = cs.length := by
  unfold spliceA; simp; omega

theorem fill_rep {place : Nat → Option (Nat × Nat)} : ∀ (ps : List (Nat × Value)) (qs : List (Nat × Nat × AV)) (cells : Array Value) (cs r : List AV),
    ps.length = qs.length → (∀ (j : Nat) p q, ps[j]? = some p → qs[j]? = some q → place p.1 = some (q.1, q.2.1) ∧ Rep G p.2 q.2.2) → RowRep G cells cs → fillA cs qs = some r →
    ∃ out, Instr.fill place cells ps = some out ∧ RowRep G out r
  | [], [], cells, cs, r, _, _, hr, h => by
    simp only [fillA, Option.some.injEq] at h
    subst h
    exact ⟨cells, rfl, hr⟩
  | p :: ps, q :: qs, cells, cs, r, hl, hp, hr, h => by
    obtain ⟨i, v⟩ := p
    obtain ⟨off, size, a⟩ := q
    have h1 : place i = some (off, size) := (hp 0 _ _ rfl rfl).1
    have h2 : Rep G v a := (hp 0 _ _ rfl rfl).2
    simp only [fillA] at h
    split at h
    · rename_i hc
      obtain ⟨c1, c2, c3⟩ := hc
      obtain ⟨d1, d2, d3⟩ := h2.cells c3
      have key := fold_set v.cells.toList off 0 cells
      have hrow : RowRep G ((v.cells.toList.zipIdx 0).foldl (fun (cs : Array Value) (p : Value × Nat) => cs.setIfInBounds (off + p.2) p.1) cells) (spliceA cs off a.cells) := by
        refine ⟨by rw [key.1, splice_length _ _ _ (by omega)]; exact hr.size, fun j v' c' hv hc => ?_⟩
        rw [key.2] at hv
        rw [splice_get _ _ _ _ (by omega)] at hc
        simp only [Nat.add_zero, Array.length_toList] at hv
        have hsz := hr.size
        by_cases hj : off ≤ j ∧ j < off + a.cells.length
        · rw [if_pos hj] at hc
          rw [if_pos ⟨hj.1, by omega, by omega⟩] at hv
          exact d2 _ _ _ (by simpa using hv) hc
        · rw [if_neg hj] at hc
          rw [if_neg (by omega)] at hv
          exact hr.rep _ _ _ hv hc
      obtain ⟨out, ho, hor⟩ := fill_rep ps qs _ _ r (by simpa using hl) (fun j p q hpj hqj => hp (j + 1) p q (by simpa using hpj) (by simpa using hqj)) hrow h
      refine ⟨out, ?_, hor⟩
      have hsz := hr.size
      simp only [Instr.fill, h1]
      rw [if_neg (by simp; omega)]
      rw [← ho]
      congr 1
      rw [← Array.foldl_toList, Array.toList_zipIdx]
    · cases h
  | [], _ :: _, _, _, _, hl, _, _, _ => by simp at hl
  | _ :: _, [], _, _, _, hl, _, _, _ => by simp at hl

theorem mapM_spec {α β : Type} {f : α → Option β} : ∀ {l : List α} {r : List β}, l.mapM f = some r → r.length = l.length ∧ ∀ (j : Nat) a, l[j]? = some a → ∃ b, r[j]? = some b ∧ f a = some b
  | [], r, h => by simp at h; subst h; exact ⟨rfl, fun j a ha => by simp at ha⟩
  | x :: l, r, h => by
    simp only [List.mapM_cons, Option.bind_eq_bind, Option.bind_eq_some_iff, Option.pure_def, Option.some.injEq] at h
    obtain ⟨b, hb, bs, hbs, rfl⟩ := h
    obtain ⟨h1, h2⟩ := mapM_spec hbs
    refine ⟨by simp [h1], fun j a ha => ?_⟩
    cases j with
    | zero => simp only [List.getElem?_cons_zero, Option.some.injEq] at ha; subst ha; exact ⟨b, rfl, hb⟩
    | succ j => simp only [List.getElem?_cons_succ] at ha ⊢; exact h2 j a ha

/-- What a type's variables begin as. -/
theorem zeroC_cv {P : Program} {t : TypeId} {z : Value} {x : AV} (h : cv1 P t z = some x) : x.one = true := by
  unfold cv1 at h
  split at h <;> simp only [Option.some.injEq, reduceCtorEq, Option.map_eq_some_iff] at h <;> first | (subst h; rfl) | (obtain ⟨_, _, rfl⟩ := h; rfl)

theorem zeroC_one (P : Program) : ∀ (d : Nat) (t : TypeId) (cs : List AV), zeroC P d t = some cs → ∀ c ∈ cs, c.one = true
  | 0, t, cs, h => by simp [zeroC] at h
  | d + 1, t, cs, h => by
    rw [zeroC] at h
    split at h
    · cases h
    split at h
    · simp only [Option.map_eq_some_iff] at h
      obtain ⟨ls, hls, rfl⟩ := h
      obtain ⟨h1, h2⟩ := mapM_spec hls
      intro c hc
      obtain ⟨l, hl, hcl⟩ := List.mem_flatten.1 hc
      obtain ⟨j, hj, rfl⟩ := List.mem_iff_getElem.1 hl
      obtain ⟨b, hb, hbf⟩ := h2 j _ (List.getElem?_eq_getElem (h1 ▸ hj))
      rw [List.getElem?_eq_getElem hj] at hb
      cases hb
      exact zeroC_one P d _ _ hbf c hcl
    · simp only [Option.map_eq_some_iff] at h
      obtain ⟨l, hl, rfl⟩ := h
      intro c hc
      obtain ⟨l', hl', hcl⟩ := List.mem_flatten.1 hc
      rw [List.eq_of_mem_replicate hl'] at hcl
      exact zeroC_one P d _ _ hl c hcl
    · simp only [Option.map_eq_some_iff, Option.bind_eq_some_iff] at h
      obtain ⟨z, ⟨y, _, hz⟩, x', hx', rfl⟩ := h
      intro c hc
      simp only [List.mem_singleton] at hc
      subst hc
      exact zeroC_cv hx'

/-- The zero value of a type reads as zeroC tells: a closed fact of the program. -/
def ZeroOk (P : Program) : Prop := ∀ (G : Gh) (t : TypeId) (cs : List AV), zeroC P 6 t = some cs → ∃ z, (P.info? t).bind (·.zero) = some z ∧ RowRep G z.cells cs

theorem run_zero {P : Program} (hz : ZeroOk P) {t : TypeId} {cs : List AV} (h : zeroC P 6 t = some cs) (G : Gh) : ∃ z, (zeroValue t).run P w = .ok z w ∧ RowRep G z.cells cs := by
  obtain ⟨z, h1, h2⟩ := hz G t cs h
  simp only [Option.bind_eq_some_iff] at h1
  obtain ⟨i, hi, hz⟩ := h1
  exact ⟨z, by simp [zeroValue, typeInfo, hi, hz], h2⟩

theorem run_unA {op : UnOp} {x r : AV} (h : unA op x = some r) {u : Value} (hu : Rep G u x) : ∃ v, (Op.unary op u).run C.P w = .ok v w ∧ Rep G v r := by
  unfold unA at h
  split at h <;> simp only [Option.some.injEq, reduceCtorEq] at h <;> subst h
  · obtain rfl := rep_int hu
    exact ⟨_, by simp only [Op.unary, Op.intArith]; rfl, .int _ _ _⟩
  · obtain rfl := rep_int hu
    exact ⟨_, by simp only [Op.unary, Op.intBits]; rfl, .int _ _ _⟩
  · obtain rfl := rep_bool hu
    exact ⟨_, rfl, .bool _ _⟩

theorem run_part {t : TypeId} {cs : List AV} {x : AV} {off : Nat} {vs : Array Value} (h : loadA C t (cs.drop off) = some x) (hr : RowRep G vs cs) : ∃ v, (part t vs off).run C.P w = .ok v w ∧ Rep G v x := by
  unfold loadA at h
  simp only [Option.bind_eq_some_iff] at h
  obtain ⟨bb, hb, h⟩ := h
  have hag := run_isAgg (w := w) hb
  have hsz := hr.size
  cases bb with
  | true =>
    simp only [if_true] at h
    split at h
    · rename_i hn
      simp only [Option.some.injEq] at h
      subst h
      have hi : ∃ i, C.P.info? t = some i := by
        unfold isAggT at hb
        simp only [Option.map_eq_some_iff] at hb
        obtain ⟨d, hd, _⟩ := hb
        exact info_of hd
      obtain ⟨i, hi⟩ := hi
      simp only [List.length_drop] at hn
      refine ⟨.agg (vs.extract off (off + szT C.P t)), by simp [part, hag, run_sizeOf hi], .agg _ _ _ (by simp; omega) (fun j v c hv hcc => ?_)⟩
      rw [List.getElem?_take] at hcc
      split at hcc
      · rename_i hj
        rw [List.getElem?_drop] at hcc
        have hv' : vs[off + j]? = some v := by
          rw [Array.getElem?_extract] at hv
          split at hv <;> first | exact hv | cases hv
        exact hr.rep _ _ _ hv' hcc
      · cases hcc
    · cases h
  | false =>
    simp only [Bool.false_eq_true, if_false] at h
    have hc : cs[off]? = some x := by
      rw [List.head?_drop] at h
      exact h
    have hlt : off < vs.size := hsz ▸ (List.getElem?_eq_some_iff.1 hc).1
    refine ⟨vs[off], ?_, hr.rep off _ _ (Array.getElem?_eq_getElem hlt) hc⟩
    simp [part, hag, hlt]

theorem Rep.row {vs : Array Value} {cs : List AV} (h : Rep G (.agg vs) (.agg cs)) : RowRep G vs cs := by
  cases h with
  | agg _ _ _ hl hr => exact ⟨hl, hr⟩

theorem run_field {t : TypeId} {fs : Array Field} {f : Nat} {fd : Field} {cs : List AV} {x : AV} {u : Value} (hf : fieldsT C.P t = some fs) (hfd : fs[f]? = some fd) (hu : Rep G u (.agg cs)) (h : loadA C fd.type (cs.drop fd.offset) = some x) :
    ∃ v, (Instr.field t u f).run C.P w = .ok v w ∧ Rep G v x := by
  unfold fieldsT at hf
  split at hf
  · rename_i fs' hut
    simp only [Option.some.injEq] at hf
    subst hf
    cases hu with
    | agg _ vs _ hl hr =>
      obtain ⟨v, hv, hrr⟩ := run_part (C := C) (w := w) h ⟨hl, hr⟩
      exact ⟨v, by simp [Instr.field, run_underlying hut, hfd, asAgg, hv], hrr⟩
  · cases hf

theorem run_extract {u : Value} {vs : List AV} {i : Nat} {x : AV} (hu : Rep G u (.tup vs)) (h : vs[i]? = some x) : ∃ v, (Instr.extract u i).run C.P w = .ok v w ∧ Rep G v x := by
  cases hu with
  | tup _ us _ hl hr =>
    have hlt : i < us.size := hl ▸ (List.getElem?_eq_some_iff.1 h).1
    refine ⟨us[i], ?_, hr i _ _ (Array.getElem?_eq_getElem hlt) h⟩
    simp [Instr.extract, hlt]

/-- Bytes as cells. -/
theorem bytes_rep : ∀ (cs : List AV) (l : List UInt8) (vs : List Value), bytesStr cs = some l → vs.length = cs.length → (∀ (j : Nat) v c, vs[j]? = some v → cs[j]? = some c → Rep G v c) →
    ∃ ns : List Int, vs = ns.map (fun n => Value.int .u8 n) ∧ l = ns.map fun n => UInt8.ofNat n.toNat := by
  intro cs
  induction cs with
  | nil => intro l vs h hl _; simp [bytesStr] at h; subst h; exact ⟨[], by simpa using hl, rfl⟩
  | cons c cs ih =>
    intro l vs h hl hr
    cases vs with
    | nil => simp at hl
    | cons v vs =>
      have h0 := hr 0 v c rfl rfl
      unfold bytesStr at h
      split at h
      · rename_i heq; cases heq
      · rename_i n r heq
        simp only [List.cons.injEq] at heq
        obtain ⟨rfl, rfl⟩ := heq
        simp only [Option.map_eq_some_iff] at h
        obtain ⟨l', hl', rfl⟩ := h
        obtain rfl := rep_int h0
        obtain ⟨ns, rfl, rfl⟩ := ih l' vs hl' (by simpa using hl) (fun j v c hv hc => hr (j + 1) v c (by simpa using hv) (by simpa using hc))
        exact ⟨n :: ns, by simp, by simp⟩
      · cases h

theorem run_eq1 {k : Nat} {t : TypeId} {x y : AV} {r : Bool} (h : eq1 (C.P.underlying t) x y = some r) {u v : Value} (hu : Rep G u x) (hv : Rep G v y) :
    (Op.equalIn (k + 1) t u v).run C.P w = .ok r w := by
  cases hd : C.P.underlying t with
  | none => rw [hd] at h; simp [eq1] at h
  | some d =>
    rw [hd] at h
    unfold eq1 at h
    split at h
    · rename_i hd'
      simp only [Option.some.injEq] at h hd'
      subst h hd'
      cases hu; cases hv
      simp [Op.equalIn, run_underlying hd]
    · rename_i hd'
      simp only [Option.some.injEq] at hd'
      subst hd'
      split at h
      · simp only [Option.some.injEq] at h
        subst h
        cases hu; cases hv
        rename_i hk
        simp [Op.equalIn, run_underlying hd, hk]
      · cases h
    · rename_i a b hd'
      simp only [Option.some.injEq] at h hd'
      subst h hd'
      cases hu; cases hv
      have : (a == b) = decide (a = b) := by
        obtain ⟨a⟩ := a
        obtain ⟨b⟩ := b
        show (a == b) = _
        by_cases e : a = b <;> simp [e]
      simp [Op.equalIn, run_underlying hd, this]
    · cases h
theorem run_eqS : ∀ (d : Nat) (t : TypeId) (xs ys : List AV) (r : Bool), eqS C d t xs ys = some r → ∀ (k : Nat), d < k → ∀ {us vs : Array Value}, RowRep G us xs → RowRep G vs ys → (Op.equalIn k t (.agg us) (.agg vs)).run C.P w = .ok r w
  | 0, t, xs, ys, r, h, _, _, _, _, _, _ => by simp [eqS] at h
  | d + 1, t, xs, ys, r, h, 0, hk, _, _, _, _ => by omega
  | d + 1, t, xs, ys, r, h, k + 1, hk, us, vs, hu, hv => by
    unfold eqS at h
    split at h
    · rename_i fs hut
      split at h
      · cases h
      · rename_i hst
        have hst' : C.P.stoodInHeld t = false := by simpa using hst
        have key : ∀ (fs : List Field) r, eqF C (eqS C d) xs ys fs = some r → (forIn fs ((none, ()) : Option Bool × Unit) fun f (__s : Option Bool × Unit) =>
            if f.name = "_" then (pure (ForInStep.yield (none, ())) : Sem (ForInStep (Option Bool × Unit)))
            else do
              let __do_lift ← part f.type us f.offset
              let __do_lift_1 ← part f.type vs f.offset
              let __do_lift ← Op.equalIn k f.type __do_lift __do_lift_1
              if __do_lift = false then pure (ForInStep.done (some false, ())) else pure (ForInStep.yield (none, ()))).run C.P w = .ok (if r = true then none else some false, ()) w := by
          intro fs
          induction fs with
          | nil =>
            intro r h
            simp only [eqF, Option.some.injEq] at h
            subst h
            simp
          | cons f fs ih =>
            intro r h
            simp only [eqF] at h
            split at h
            · cases h
            · rename_i hn
              simp only [Option.bind_eq_some_iff, Option.map_eq_some_iff] at h
              obtain ⟨b, ⟨x, hx, y, hy, hb⟩, r', hr', rfl⟩ := h
              obtain ⟨u, hu1, hu2⟩ := run_part (C := C) (w := w) hx hu
              obtain ⟨v, hv1, hv2⟩ := run_part (C := C) (w := w) hy hv
              have hq : (Op.equalIn k f.type u v).run C.P w = .ok b w := by
                obtain ⟨k', rfl⟩ : ∃ k', k = k' + 1 := ⟨k - 1, by omega⟩
                split at hb
                · cases hu2 with
                  | agg _ us' _ hl1 hr1 =>
                    cases hv2 with
                    | agg _ vs' _ hl2 hr2 => exact run_eqS d f.type _ _ b hb (k' + 1) (by omega) ⟨hl1, hr1⟩ ⟨hl2, hr2⟩
                · exact run_eq1 hb hu2 hv2
              simp only [List.forIn_cons, if_neg hn, Sem.run_bind, hu1, hv1, hq, Result.andThen_ok]
              cases b with
              | false => simp
              | true =>
                simp only [Bool.true_eq_false, if_false, Sem.run_pure, Result.andThen_ok, Bool.true_and]
                exact ih r' hr'
        have := key fs.toList r h
        rw [Array.forIn_toList] at this
        simp [Op.equalIn, run_underlying hut, hst', this]
        cases r <;> rfl
    · cases h
theorem run_binX {op : BinOp} {xt : TypeId} {x y : AV} {r : AV} {xo yo : Operand} (h : binX C xt yo op x y = some r) {u v : Value} (hu : Rep G u x) (hv : Rep G v y) :
    ∃ z, (do eqGuard op xt xo yo u v; binOp op xt u v : Sem Value).run C.P w = .ok z w ∧ Rep G z r := by
  unfold binX at h
  split at h
  · split at h
    · rename_i xs _ ys
      split at h
      · cases h
      · rename_i hg
        have hg' : C.P.eqGuardType C.P.depth xt = false := by simpa using hg
        cases hu with
        | agg _ us _ hl1 hr1 =>
          cases hv with
          | agg _ vs _ hl2 hr2 =>
            have key : ∀ b, eqS C 4 xt xs ys = some b → (Op.equal xt (.agg us) (.agg vs)).run C.P w = .ok b w := fun b hb => run_eqS 4 xt xs ys b hb _ (by show 4 < 10000; omega) ⟨hl1, hr1⟩ ⟨hl2, hr2⟩
            split at h
            · simp only [Option.map_eq_some_iff] at h
              obtain ⟨b, hb, rfl⟩ := h
              exact ⟨.bool b, by simp [eqGuard, hg', binOp, key b hb], .bool _ _⟩
            · simp only [Option.map_eq_some_iff] at h
              obtain ⟨b, hb, rfl⟩ := h
              exact ⟨.bool (!b), by simp [eqGuard, hg', binOp, key b hb], .bool _ _⟩
            · cases h
    · cases h
  · split at h
    · rename_i c ms hut
      cases hu
      cases hv
      have key : (Op.equal xt .nilIface .nilIface).run C.P w = .ok true w := by
        obtain ⟨dd, hdd⟩ : ∃ dd, Op.maxDepth = dd + 1 := ⟨9999, rfl⟩
        rw [Op.equal, hdd]
        simp [Op.equalIn, run_underlying hut]
      split at h
      · simp only [Option.some.injEq] at h
        subst h
        exact ⟨.bool true, by simp [eqGuard, binOp, key], .bool _ _⟩
      · simp only [Option.some.injEq] at h
        subst h
        exact ⟨.bool false, by simp [eqGuard, binOp, key], .bool _ _⟩
      · cases h
    · cases h
  · exact run_binA h hu hv xo yo
end Go.Ev
end
