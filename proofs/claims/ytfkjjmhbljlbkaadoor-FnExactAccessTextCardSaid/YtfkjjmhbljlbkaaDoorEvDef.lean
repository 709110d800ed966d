/- Part of the proof of a statement about the given program: EvDef. No condition of its own. -/
import Derived.Orders
/-!  -/
namespace Go.Ev

/-- Values without addresses. -/
inductive AV where
  /-- not known -/
  | undef
  /-- nothing was put here -/
  | void
  | bool (b : Bool)
  | int (k : IntKind) (n : Int)
  | str (s : ByteArray)
  /-- a slice that never changes -/
  | slice (sz : Nat) (xs : List AV)
  | nils (sz : Nat)
  /-- a slice of a block of the call's own; may it be appended to? -/
  | arr (id gen off len sz : Nat) (app : Bool)
  /-- the address of cells that never change -/
  | eptr (cs : List AV)
  | ptr (id gen off : Nat)
  | nilp
  | nilf
  | nili
  | agg (cs : List AV)
  | tup (vs : List AV)
  | fn (f : FuncId) (cap : List AV)
  deriving Inhabited

def AV.cells : AV → List AV
  | .agg cs => cs
  | x => [x]

/-- One cell's value: none that is laid open, none that is not known. -/
def AV.one : AV → Bool
  | .undef | .void | .agg _ | .tup _ => false
  | _ => true

/-- A cell's value that leads to nothing that changes. -/
def AV.calm : AV → Bool
  | .undef | .void | .agg _ | .tup _ | .ptr _ _ _ | .arr _ _ _ _ _ _ | .nils _ => false
  | .fn _ cap => cap.isEmpty
  | _ => true

/-- Does a call that takes this share the caller's memory? -/
def AV.loud : AV → Bool
  | .ptr _ _ _ => true
  | .fn _ cap => !cap.isEmpty
  | _ => false

def upd {α : Type} (f : Nat → α) (i : Nat) (v : α) : Nat → α := fun j => if j = i then v else f j

/-- A block of the call's own. gen: how often it was appended to; froz: its cells stay. -/
structure Blk where
  cells : List AV
  gen : Nat := 0
  froz : Bool := false
  /-- the type of what it holds, if that is known; is it of just these cells? -/
  ty : Option (TypeId × Bool) := none

structure Mem where
  sto : Nat → Blk
  nid : Nat

def Mem.empty : Mem := ⟨fun _ => ⟨[], 0, false, none⟩, 0⟩

structure St extends Mem where
  env : Nat → AV

/-- What an operation comes to: its value, the blocks it reads, those it writes, how many it makes. -/
structure Act where
  val : AV
  sr : List Nat := []
  sw : List (Nat × Blk) := []
  nb : Nat := 0

/-- The elements of cells. -/
def elems (sz : Nat) : Nat → List AV → List AV
  | 0, _ => []
  | n + 1, cs => (if sz = 1 then cs.headD .undef else .agg (cs.take sz)) :: elems sz n (cs.drop sz)

/-- A value as another function's memory knows it. -/
def snapD (m : Mem) : Nat → AV → Option AV
  | 0, _ => none
  | k + 1, .arr id g off n sz _ => if g = (m.sto id).gen ∧ n * sz ≤ ((m.sto id).cells.drop off).length then ((((m.sto id).cells.drop off).take (n * sz)).mapM (snapD m k)).map fun cs => .slice sz (elems sz n cs) else none
  | k + 1, .agg cs => (cs.mapM (snapD m k)).map .agg
  | k + 1, .tup cs => (cs.mapM (snapD m k)).map .tup
  | _, .nils sz => some (.slice sz [])
  | _, .ptr _ _ _ | _, .undef | _, .void => none
  | _, .fn f cap => if cap.isEmpty then some (.fn f []) else none
  | _, x => some x

/-- The blocks that a value leads to. -/
def reachD (m : Mem) : Nat → AV → List Nat
  | 0, _ => []
  | k + 1, .arr id _ _ _ _ _ => id :: ((m.sto id).cells.map (reachD m k)).flatten
  | k + 1, .agg cs => (cs.map (reachD m k)).flatten
  | k + 1, .tup cs => (cs.map (reachD m k)).flatten
  | _, _ => []

section
variable (P : Program)

def szT (t : TypeId) : Nat := ((P.info? t).map (·.size)).getD 0
def bytesT (t : TypeId) : Nat := ((P.info? t).map (·.bytes)).getD 0
def isAggT (t : TypeId) : Option Bool :=
  (P.underlying t).map fun
    | .struct _ | .array _ _ => true
    | _ => false
def noIntT (t : TypeId) : Bool :=
  match P.underlying t with
  | some (.int _) | none => false
  | _ => true
def elemT (t : TypeId) : Option TypeId :=
  match P.underlying t with
  | some (.slice e) => some e
  | _ => none
def fieldsT (t : TypeId) : Option (Array Field) :=
  match P.underlying t with
  | some (.struct fs) => some fs
  | _ => none

/-- A constant of a type that is no struct. -/
def cv1 (t : TypeId) : Value → Option AV
  | .bool b => some (.bool b)
  | .int k n => some (.int k n)
  | .string s => some (.str s)
  | .pointer none => some .nilp
  | .nilFunc => some .nilf
  | .nilIface => some .nili
  | .slice none 0 0 => (elemT P t).map fun e => .nils (szT P e)
  | _ => none

/-- What a variable of a type begins as, cell by cell; by the depth of the type. -/
def zeroC : Nat → TypeId → Option (List AV)
  | 0, _ => none
  | d + 1, t =>
    if P.types.size ≤ t then none else
    match P.underlying t with
    | some (.struct fs) => (fs.toList.mapM fun f => zeroC d f.type).map List.flatten
    | some (.array n e) => (zeroC d e).map fun cs => (List.replicate n cs).flatten
    | _ => ((P.info? t).bind (·.zero)).bind fun z => (cv1 P t z).map fun x => [x]

def zeroA (t : TypeId) : Option AV := (zeroC P 6 t).bind fun cs => (isAggT P t).bind fun b => if b then some (.agg cs) else cs.head?

end

/-- What a function is given besides the program. -/
structure Ctx where
  P : Program
  glob : Nat → Option (List AV)
  /-- functions that are called in the caller's memory, whatever they take -/
  share : List FuncId := []
  /-- variables of packages whose blocks hold just these cells -/
  tabs : List (Nat × Array Value) := []
  /-- functions that are called in the caller's memory, and of whose results a plain value is made -/
  snaps : List FuncId := []
  /-- functions by contract that are called in the caller's memory -/
  pI : FuncId → List AV → Mem → Option (AV × Mem) := fun _ _ _ => none

variable (C : Ctx)

def opd (env : Nat → AV) (t : TypeId) : Operand → Option AV
  | .tmp i => some (env i)
  | .const v => cv1 C.P t v
  | .func f => some (.fn f [])
  | .global g => (C.glob g).map .eptr

def loadA (t : TypeId) (cs : List AV) : Option AV :=
  let n := szT C.P t
  (isAggT C.P t).bind fun b => if b then (if n ≤ cs.length then some (.agg (cs.take n)) else none) else cs.head?

def spliceA (cs : List AV) (off : Nat) (new : List AV) : List AV := cs.take off ++ new ++ cs.drop (off + new.length)

def fillA (cells : List AV) : List (Nat × Nat × AV) → Option (List AV)
  | [] => some cells
  | (off, size, v) :: rest => if v.cells.length = size ∧ off + size ≤ cells.length ∧ v.cells.all AV.one then fillA (spliceA cells off v.cells) rest else none

def wrapI (k : IntKind) (n : Int) : AV := .int k (k.wrap n)

def bitsI (k : IntKind) (f : BitVec k.bits → BitVec k.bits → BitVec k.bits) (a b : Int) : AV :=
  .int k (k.wrap (f (BitVec.ofInt k.bits a) (BitVec.ofInt k.bits b)).toNat)

/-- Comparing for equality what is no number and no string. -/
def eqV : Option TypeDesc → AV → AV → Option Bool
  | some .bool, .bool a, .bool b => some (a == b)
  | some (.pointer _), .nilp, .nilp => some true
  | some (.pointer _), .ptr _ _ _, .nilp | some (.pointer _), .eptr _, .nilp | some (.pointer _), .nilp, .ptr _ _ _ | some (.pointer _), .nilp, .eptr _ => some false
  | some (.slice _), .nils _, .nils _ => some true
  | some (.slice _), .arr _ _ _ _ _ _, .nils _ | some (.slice _), .nils _, .arr _ _ _ _ _ _ => some false
  | _, _, _ => none

def cmpI (op : BinOp) (a b : Int) : Option Bool :=
  match op with
  | .eql => some (a == b)
  | .neq => some (a != b)
  | .lss => some (a < b)
  | .leq => some (a ≤ b)
  | .gtr => some (a > b)
  | .geq => some (a ≥ b)
  | _ => none

def arithI (op : BinOp) (k : IntKind) (a b : Int) : Option AV :=
  match op with
  | .add => some (wrapI k (a + b))
  | .sub => some (wrapI k (a - b))
  | .mul => some (wrapI k (a * b))
  | .quo => if b = 0 then none else some (wrapI k (a.tdiv b))
  | .rem => if b = 0 then none else some (.int k (a.tmod b))
  | .and => some (bitsI k (· &&& ·) a b)
  | .or => some (bitsI k (· ||| ·) a b)
  | .xor => some (bitsI k (· ^^^ ·) a b)
  | .andNot => some (bitsI k (fun p q => p &&& ~~~q) a b)
  | _ => (cmpI op a b).map .bool

def strOp (op : BinOp) (a b : ByteArray) : Option AV :=
  match op with
  | .add => if a.size + b.size ≤ 9223372036854775807 then some (.str (a ++ b)) else none
  | .eql => some (.bool (a.toList == b.toList))
  | .neq => some (.bool !(a.toList == b.toList))
  | _ => none

def shiftI (op : BinOp) (k : IntKind) (a b : Int) : Option AV :=
  if b < 0 then none else
  match op with
  | .shl => some (.int k (k.wrap (a * 2 ^ (min b.toNat k.bits))))
  | .shr => some (.int k (a.fdiv (2 ^ (min b.toNat k.bits))))
  | _ => none

def binA (d : Option TypeDesc) (op : BinOp) (x y : AV) : Option AV :=
  match x, y with
  | .int k a, .int k' b => if op = .shl ∨ op = .shr then shiftI op k a b else if k = k' then arithI op k a b else none
  | .str a, .str b => strOp op a b
  | a, b => match op with
    | .eql => (eqV d a b).map .bool
    | .neq => (eqV d a b).map fun r => .bool (!r)
    | _ => none

def unA (op : UnOp) (x : AV) : Option AV :=
  match op, x with
  | .neg, .int k n => some (wrapI k (0 - n))
  | .xor, .int k n => some (bitsI k (· ^^^ ·) (if k.signed then -1 else k.max) n)
  | .not, .bool b => some (.bool !b)
  | _, _ => none

def strBytes (s : ByteArray) : List AV := s.data.toList.map fun b => .int .u8 b.toNat

def bytesStr : List AV → Option (List UInt8)
  | [] => some []
  | .int .u8 n :: r => (bytesStr r).map (UInt8.ofNat n.toNat :: ·)
  | _ => none

def convA (src dst : TypeId) (s : St) (fb : Nat) (x : AV) : Option Act :=
  match C.P.underlying src, C.P.underlying dst, x with
  | some (.int _), some (.int k), .int _ n => some { val := wrapI k n }
  | some .string, some .string, .str b => some { val := .str b }
  | some .string, some (.slice e), .str b =>
    match C.P.underlying e with
    | some (.int .u8) => some { val := .arr fb 0 0 b.size 1 false, sw := [(fb, ⟨strBytes b, 0, false, none⟩)], nb := 1 }
    | _ => none
  | some (.slice e), some .string, x =>
    match C.P.underlying e, x with
    | some (.int .u8), .slice 1 xs => (bytesStr xs).map fun l => { val := .str ⟨l.toArray⟩ }
    | some (.int .u8), .nils _ => some { val := .str ⟨#[]⟩ }
    | some (.int .u8), .arr id g off n 1 _ => if g = (s.sto id).gen ∧ n ≤ ((s.sto id).cells.drop off).length then (bytesStr (((s.sto id).cells.drop off).take n)).map fun l => { val := .str ⟨l.toArray⟩, sr := [id] } else none
    | _, _ => none
  | _, _, _ => none

/-- How long something that grows may be. -/
def most : Nat := 1099511627776

def idx (x : AV) (n : Nat) : Option Nat :=
  match x with
  | .int _ i => if 0 ≤ i ∧ i < n then some i.toNat else none
  | _ => none

def bound (x : Option AV) (n d : Nat) : Option Nat :=
  match x with
  | none => some d
  | some (.int _ i) => if 0 ≤ i ∧ i ≤ n then some i.toNat else none
  | _ => none

def opds (env : Nat → AV) (t : TypeId) : Option Operand → Option (Option AV)
  | none => some none
  | some x => (opd C env t x).map some

def sliceA (t : TypeId) (x : AV) (lo hi mx : Option AV) : Option AV :=
  match C.P.underlying t, x with
  | some .string, .str s => if mx.isSome then none else (bound hi s.size s.size).bind fun h => (bound lo h 0).map fun l => .str (s.extract l h)
  | some (.slice e), .slice sz xs =>
    if sz = szT C.P e ∧ 0 < sz then (bound mx xs.length xs.length).bind fun m => (bound hi m (min xs.length m)).bind fun h => (bound lo h 0).map fun l => .slice sz ((xs.take h).drop l) else none
  | some (.slice e), .nils sz => if sz = szT C.P e ∧ 0 < sz then (bound mx 0 0).bind fun _ => (bound hi 0 0).bind fun _ => (bound lo 0 0).map fun _ => .nils sz else none
  | some (.slice e), .arr id g off n sz _ =>
    if sz = szT C.P e ∧ 0 < sz then (bound mx n n).bind fun m => (bound hi m (min n m)).bind fun h => (bound lo h 0).map fun l => if h = l then .slice sz [] else .arr id g (off + l * sz) (h - l) sz false else none
  | _, _ => none

/-- The cells of what is appended, and how many elements. -/
def newsA (s : St) (sz : Nat) : AV → Option (List AV × Nat × List Nat)
  | .slice z xs => if z = sz then some ((xs.map AV.cells).flatten, xs.length, []) else none
  | .nils _ => some ([], 0, [])
  | .arr id g off n z _ => if z = sz ∧ g = (s.sto id).gen ∧ n * sz ≤ ((s.sto id).cells.drop off).length then some (((s.sto id).cells.drop off).take (n * sz), n, [id]) else none
  | .str b => if sz = 1 then some (strBytes b, b.size, []) else none
  | _ => none

def grewT (e : TypeId) : Option (TypeId × Bool) → Option (TypeId × Bool)
  | some (t, _) => if t = e then some (e, false) else none
  | none => none

def appendA (t : TypeId) (s : St) (fb : Nat) (x y : AV) : Option Act :=
  (elemT C.P t).bind fun e =>
  let sz := szT C.P e
  if 0 < sz ∧ bytesT C.P e ≤ 128 ∧ (zeroC C.P 6 e).map List.length = some sz then
    (newsA s sz y).bind fun (ys, m, sr) =>
      match x with
      | .nils z => if z = sz then (if m = 0 then some { val := x, sr } else if m ≤ most then some { val := .arr fb 0 0 m sz true, sr, sw := [(fb, ⟨ys, 0, false, some (e, false)⟩)], nb := 1 } else none) else none
      | .arr id g 0 n z true =>
        let b := s.sto id
        if z = sz ∧ g = b.gen ∧ n * sz = b.cells.length ∧ n + m ≤ most then some { val := .arr id (g + 1) 0 (n + m) sz true, sr := id :: sr, sw := [(id, ⟨b.cells ++ ys, g + 1, b.froz, grewT e b.ty⟩)] } else none
      | _ => none
  else none

def lenA (d : Option TypeDesc) (x : AV) : Option AV :=
  match d, x with
  | some .string, .str a => some (.int .i64 a.size)
  | some (.slice _), .slice _ xs => some (.int .i64 xs.length)
  | some (.slice _), .nils _ => some (.int .i64 0)
  | some (.slice _), .arr _ _ _ n _ _ => some (.int .i64 n)
  | _, _ => none

def maxA (x y : AV) : Option AV :=
  match x, y with
  | .int k a, .int k' b => if k = k' then some (.int k (if a < b then b else a)) else none
  | _, _ => none

def minA (x y : AV) : Option AV :=
  match x, y with
  | .int k a, .int k' b => if k = k' then some (.int k (if b < a then b else a)) else none
  | _, _ => none

def capA (d : Option TypeDesc) (x : AV) : Option AV :=
  match d, x with
  | some (.slice _), .nils _ => some (.int .i64 0)
  | _, _ => none

/-- unsafe.SliceData -/
def dataA (s : St) : AV → Option Act
  | .nils _ => some { val := .nilp }
  | .arr id g off n _ _ => if g = (s.sto id).gen ∧ 0 < n then some { val := .ptr id g off, sr := [id] } else none
  | _ => none

/-- unsafe.String: the bytes are read, and stay as they are: the block is not looked at again. -/
def textA (pt : TypeId) (s : St) : AV → AV → Option Act
  | .nilp, .int .i64 n => if n = 0 then some { val := .str ⟨#[]⟩ } else none
  | .ptr id g 0, .int .i64 n =>
    match C.P.underlying pt with
    | some (.pointer e) =>
      if 0 < n ∧ n ≤ most ∧ g = (s.sto id).gen ∧ n.toNat ≤ (s.sto id).cells.length ∧ szT C.P e = 1 ∧ ((s.sto id).ty.map (·.1)) = some e then
        (bytesStr ((s.sto id).cells.take n.toNat)).map fun l => { val := .str ⟨l.toArray⟩, sr := [id], sw := [(id, ⟨[], g + 1, true, none⟩)] }
      else none
    | _ => none
  | _, _ => none

def builtinA (b : Builtin) (ts : List TypeId) (s : St) (fb : Nat) (args : List AV) : Option Act :=
  match b, args, ts with
  | .len, [x], [t] => (lenA (C.P.underlying t) x).map fun r => { val := r }
  | .append, [x, y], [t, t2] => if noIntT C.P t2 then appendA C t s fb x y else none
  | .max, [x, y], _ => (maxA x y).map fun r => { val := r }
  | .min, [x, y], _ => (minA x y).map fun r => { val := r }
  | .unsafeSliceData, [x], _ => dataA s x
  | .unsafeString, [p, n], [pt, _] => textA C pt s p n
  | .cap, [x], [t] => (capA (C.P.underlying t) x).map fun r => { val := r }
  | _, _, _ => none

/-- A call's arguments: a constant by its type. -/
def argsA (env : Nat → AV) (xs : List Operand) (ts : List TypeId) : Option (List AV) :=
  match xs, ts with
  | [], _ => some []
  | x :: xs, t :: ts => (opd C env t x).bind fun a => (argsA env xs ts).map (a :: ·)
  | _ :: _, [] => none

def froz (s : St) (ids : List Nat) : List (Nat × Blk) := ids.map fun i => (i, { s.sto i with froz := true })

/-- What an operation comes to that is no call which shares memory. fb: the number of the block that it makes. -/
def act (call : FuncId → List AV → Option AV) (fb : Nat) (o : Oper) (s : St) : Option Act :=
  let v (x : Option AV) : Option Act := x.map fun x => { val := x }
  match o.op with
  | .move x | .assign x => v (opd C s.env o.type x)
  | .pick c a b => (opd C s.env o.type c).bind fun c => match c with
    | .bool b' => v (if b' then opd C s.env o.type a else opd C s.env o.type b)
    | _ => none
  | .alloc e => (zeroC C.P 6 e).map fun cs => { val := .ptr fb 0 0, sw := [(fb, ⟨cs, 0, false, some (e, true)⟩)], nb := 1 }
  | .box e x => (opd C s.env e x).bind fun a => if a.cells.all AV.one then some { val := .ptr fb 0 0, sw := [(fb, ⟨a.cells, 0, false, none⟩)], nb := 1 } else none
  | .build t parts =>
    match fieldsT C.P t with
    | some fs => (zeroC C.P 6 t).bind fun z =>
      (parts.toList.mapM fun (p : Nat × Operand) => (fs[p.1]?).bind fun (f : Field) => (opd C s.env f.type p.2).map fun a => (f.offset, szT C.P f.type, a)).bind fun ps => v ((fillA z ps).map .agg)
    | none => none
  | .buildSlice t n parts =>
    (elemT C.P t).bind fun e => (zeroC C.P 6 e).bind fun z =>
      let sz := szT C.P e
      if 0 < sz ∧ z.length = sz ∧ n * sz ≤ 16777216 then
        (parts.toList.mapM fun (p : Nat × Operand) => if p.1 < n then (opd C s.env e p.2).map fun a => (p.1 * sz, sz, a) else none).bind fun ps =>
          (fillA (List.replicate n z).flatten ps).map fun cs => { val := .arr fb 0 0 n sz true, sw := [(fb, ⟨cs, 0, false, none⟩)], nb := 1 }
      else none
  | .load t a => (opd C s.env o.type a).bind fun a => match a with
    | .ptr id g off => if g = (s.sto id).gen then (loadA C t ((s.sto id).cells.drop off)).map fun x => { val := x, sr := [id] } else none
    | .eptr cs => v (loadA C t cs)
    | _ => none
  | .store t a x => (opd C s.env o.type a).bind fun a => (opd C s.env t x).bind fun x => match a with
    | .ptr id g off =>
      let b := s.sto id
      if g = b.gen ∧ b.froz = false ∧ x.cells.length = szT C.P t ∧ off + x.cells.length ≤ b.cells.length ∧ x.cells.all AV.one = true ∧ (C.P.info? t).isSome = true then some { val := .void, sr := [id], sw := [(id, { b with cells := spliceA b.cells off x.cells })] } else none
    | _ => none
  | .nilCheck x => (opd C s.env o.type x).bind fun a => match a with
    | .ptr _ _ _ | .eptr _ => v (some a)
    | .fn _ _ => v (some a)
    | _ => none
  | .binOp op xt x y yt => (opd C s.env xt x).bind fun a => (opd C s.env (if op == .shl || op == .shr then yt else xt) y).bind fun b => v (binA (C.P.underlying xt) op a b)
  | .unOp op xt x => (opd C s.env xt x).bind fun a => v (unA op a)
  | .convert src dst x => (opd C s.env src x).bind fun a => convA C src dst s fb a
  | .makeFunc fn first captured =>
    match fn with
    | .func f => if first.isEmpty then (captured.toList.mapM fun x => opd C s.env 0 x).bind fun cs => if cs.all AV.one then v (some (.fn f cs)) else none else none
    | _ => none
  | .makeSlice t l c => (elemT C.P t).bind fun e => (opd C s.env 3 l).bind fun l => (opd C s.env 3 c).bind fun c => match l, c with
    | .int k n, .int k' m => if n = m ∧ 0 ≤ n ∧ n ≤ most ∧ bytesT C.P e ≤ 128 ∧ k = .i64 ∧ k' = .i64 then (zeroC C.P 6 e).bind fun z => if z.length = szT C.P e ∧ 0 < z.length then some { val := .arr fb 0 0 n.toNat z.length true, sw := [(fb, ⟨(List.replicate n.toNat z).flatten, 0, false, none⟩)], nb := 1 } else none else none
    | _, _ => none
  | .slice t x lo hi mx => (opd C s.env t x).bind fun a => (opds C s.env 3 lo).bind fun lo => (opds C s.env 3 hi).bind fun hi => (opds C s.env 3 mx).bind fun mx => if hi.isNone && mx.isSome then none else v (sliceA C t a lo hi mx)
  | .fieldAddr t x f => (fieldsT C.P t).bind fun (fs : Array Field) => (fs[f]?).bind fun (f : Field) => if szT C.P f.type = 0 then none else (opd C s.env o.type x).bind fun a => match a with
    | .ptr id g off => v (some (.ptr id g (off + f.offset)))
    | .eptr cs => v (some (.eptr (cs.drop f.offset)))
    | _ => none
  | .field t x f => (fieldsT C.P t).bind fun (fs : Array Field) => (fs[f]?).bind fun (f : Field) => (opd C s.env t x).bind fun a => match a with
    | .agg cs => v (loadA C f.type (cs.drop f.offset))
    | _ => none
  | .indexAddr t x i => (opd C s.env t x).bind fun a => (opd C s.env 3 i).bind fun i => match a with
    | .slice sz xs => (idx i xs.length).bind fun i => (elemT C.P t).bind fun e => if sz = szT C.P e ∧ 0 < sz then v ((xs[i]?).map fun x => .eptr x.cells) else none
    | .arr id g off n sz _ => (idx i n).bind fun i => (elemT C.P t).bind fun e => if sz = szT C.P e ∧ 0 < sz then v (some (.ptr id g (off + i * sz))) else none
    | .eptr cs => match C.P.underlying t with
      | some (.array n e) => (idx i n).bind fun i => if 0 < szT C.P e then v (some (.eptr (cs.drop (i * szT C.P e)))) else none
      | _ => none
    | _ => none
  | .index t x i => (opd C s.env t x).bind fun a => (opd C s.env 3 i).bind fun i => match a with
    | .str s => match C.P.underlying t with
      | some .string => (idx i s.size).bind fun i => v ((s[i]?).map fun b => .int .u8 b.toNat)
      | _ => none
    | _ => none
  | .extract t i => (opd C s.env 0 t).bind fun a => match a with
    | .tup vs => v (vs[i]?)
    | _ => none
  | .call c =>
    match c.callee with
    | .builtin b => (argsA C s.env c.args.toList c.argTypes.toList).bind fun args => builtinA C b c.argTypes.toList s fb args
    | .value f => (opd C s.env 0 f).bind fun f => (argsA C s.env c.args.toList c.argTypes.toList).bind fun args => match f with
      | .fn f cap => if C.share.contains f || (args ++ cap).any AV.loud then none else let ids := ((args ++ cap).map (reachD s.toMem 8)).flatten; ((args ++ cap).mapM (snapD s.toMem 8)).bind fun l => (call f l).map fun r => { val := r, sr := ids, sw := froz s ids }
      | _ => none
    | _ => none
  | _ => none

def putE (env : Nat → AV) (d : Option Tmp) (a : AV) : Nat → AV := match d with | some d => upd env d a | none => env

def St.put (s : St) (d : Option Tmp) (a : AV) : St := { s with env := putE s.env d a }

def updL (f : Nat → Blk) : List (Nat × Blk) → Nat → Blk
  | [] => f
  | (i, b) :: r => updL (upd f i b) r

def Act.on (a : Act) (d : Option Tmp) (s : St) : St :=
  { env := putE s.env d a.val
    sto := updL s.sto a.sw
    nid := s.nid + a.nb }

/-- Is an operation's guard met? (none: it can't be told.) -/
def wants (ops : Array Oper) (env : Nat → AV) (o : Oper) : Option Bool :=
  match o.guard with
  | none => some true
  | some (j, w) => match (ops[j]?).bind (·.dst) with
    | some d => match env d with
      | .bool b => some (b == w)
      | .void => some false
      | _ => none
    | none => some false

/-- A call that shares the caller's memory. -/
def loudCall (o : Oper) (s : St) : Option (FuncId × List AV) :=
  match o.op with
  | .call c => match c.callee with
    | .value f => (opd C s.env 0 f).bind fun f => (argsA C s.env c.args.toList c.argTypes.toList).bind fun args => match f with
      | .fn f cap => if C.share.contains f || (args ++ cap).any AV.loud then some (f, args ++ cap) else none
      | _ => none
    | _ => none
  | _ => none

/-- One operation of a region whose order is the text's. -/
def stepN (callI : FuncId → List AV → Mem → Option (AV × Mem)) (call : FuncId → List AV → Option AV) (ops : Array Oper) (o : Oper) (s : St) : Option St :=
  (wants ops s.env o).bind fun w =>
    if w then
      match loudCall C o s with
      | some (f, args) => (callI f args s.toMem).map fun (r, m) => { m with env := putE s.env o.dst r }
      | none => (act C call s.nid o s).map fun a => a.on o.dst s
    else some (s.put o.dst .void)

def runT (callI : FuncId → List AV → Mem → Option (AV × Mem)) (call : FuncId → List AV → Option AV) (ops : Array Oper) : List Oper → St → Option St
  | [], s => some s
  | o :: r, s => (stepN C callI call ops o s).bind (runT callI call ops r)

/-- An operation that touches no memory. -/
def worldless : Op → Bool
  | .move _ | .assign _ | .pick _ _ _ | .build _ _ | .nilCheck _ | .binOp _ _ _ _ _ | .unOp _ _ _ | .makeFunc _ _ _ | .slice _ _ _ _ _ | .fieldAddr _ _ _ | .field _ _ _ | .indexAddr _ _ _ | .index _ _ _ | .extract _ _ => true
  | .call { callee := .builtin .len, .. } => true
  | _ => false

/-- The blocks that a value leads to, addresses and captured ones too. -/
def reachL (m : Mem) : Nat → AV → List Nat
  | 0, _ => []
  | k + 1, .arr id _ _ _ _ _ => id :: ((m.sto id).cells.map (reachL m k)).flatten
  | k + 1, .ptr id _ _ => id :: ((m.sto id).cells.map (reachL m k)).flatten
  | k + 1, .agg cs => (cs.map (reachL m k)).flatten
  | k + 1, .tup cs => (cs.map (reachL m k)).flatten
  | k + 1, .fn _ cs => (cs.map (reachL m k)).flatten
  | _, _ => []

/-- Does a value lead into these blocks alone, as they are now? -/
def leadsB (m : Mem) (ids : List Nat) : Nat → AV → Bool
  | _, .ptr id g _ => ids.contains id && g == (m.sto id).gen
  | _, .arr id g _ _ _ _ => ids.contains id && g == (m.sto id).gen
  | k + 1, .agg cs => cs.all (leadsB m ids k)
  | k + 1, .tup cs => cs.all (leadsB m ids k)
  | k + 1, .fn _ cs => cs.all (leadsB m ids k)
  | 0, .agg _ | 0, .tup _ | 0, .fn _ _ => false
  | _, _ => true

def closedB (m : Mem) (ids : List Nat) (args : List AV) : Bool := args.all (leadsB m ids 8) && ids.all fun i => (m.sto i).cells.all (leadsB m ids 8)

/-- A memory that shows these blocks alone. -/
def mask (ids : List Nat) (m : Mem) : Mem := ⟨fun i => if ids.contains i then m.sto i else ⟨[], 0, false, none⟩, m.nid⟩

/-- What an operation of a region that draws comes to: it is passed over; an act; a call in the caller's memory: the blocks that it sees, the number of the first that it makes, what it returns and leaves. -/
inductive Do where
  | skip
  | act (a : Act)
  | call (ids : List Nat) (n0 : Nat) (r : AV) (m : Mem)

def maskOf (look : Nat → Nat) (l : List Edge) : Nat := l.foldr (fun e acc => if Region.binds .any e then (1 <<< e.on) ||| look e.on ||| acc else acc) 0

def befT (ops : Array Oper) : List Nat → List Nat → List Nat
  | [], tbl => tbl
  | j :: r, tbl => befT ops r (tbl.set j (maskOf (fun i => tbl.getD i 0) (((ops[j]?).map (·.after.toList)).getD [])))

def topoK (ops : Array Oper) : Nat → List Nat → List Nat
  | 0, _ => []
  | k + 1, done => match (List.range ops.size).find? fun i => !done.contains i && (((ops[i]?).map (·.after.toList)).getD []).all fun e => !Region.binds .any e || done.contains e.on with
    | some i => i :: topoK ops k (i :: done)
    | none => []

def backOk (ops : Array Oper) : List Nat → Bool
  | [] => true
  | i :: r => (((ops[i]?).map (·.after.toList)).getD []).all (fun e => !Region.binds .any e || (decide (e.on < ops.size) && e.on != i && !r.contains e.on)) && !r.contains i && decide (i < ops.size) && backOk ops r

/-- An order of the region's operations, and the pairs (by their places in it) that may come up in either order and both touch memory; none: two that may, but must not. -/
def planD (ops : Array Oper) : Option (List Nat × List (Nat × Nat)) :=
  let ord := topoK ops ops.size []
  let tbl := befT ops ord (List.replicate ops.size 0)
  if !(backOk ops ord && (List.range ops.size).all (ord.contains ·) && ord.length == ops.size) then none else
  ((ord.zipIdx.mapM fun (q : Nat × Nat) => ((ord.zipIdx.take q.2).mapM fun (p : Nat × Nat) =>
    if (tbl.getD q.1 0).testBit p.1 then some [] else
      (ops[p.1]?).bind fun a => (ops[q.1]?).bind fun b => if a.apart ops b then some (if worldless a.op || worldless b.op then [] else [(p.2, q.2)]) else none).map List.flatten).map List.flatten).map fun ps => (ord, ps)

def farB (ids : List Nat) (n0 : Nat) (a : Act) : Bool := a.sr.all (fun i => !ids.contains i && decide (i < n0)) && a.sw.all (fun x => !ids.contains x.1 && decide (x.1 < n0))

def noConf : Do → Do → Bool
  | .act a, .act b => a.sw.all (fun x => !b.sr.contains x.1 && b.sw.all (fun y => x.1 != y.1)) && b.sw.all (fun y => !a.sr.contains y.1)
  | .act a, .call ids n0 _ _ => farB ids n0 a
  | .call ids n0 _ _, .act a => farB ids n0 a
  | .call _ _ _ _, .call _ _ _ _ => false
  | _, _ => true

def farOf (callI : FuncId → List AV → Mem → Option (AV × Mem)) (f : FuncId) (args : List AV) (m : Mem) : Option Do :=
  let ids := (args.map (reachL m 8)).flatten
  if closedB m ids args then (callI f args (mask ids m)).bind fun (r, m') => if ids.all (fun i => decide ((m.sto i).gen ≤ (m'.sto i).gen)) then some (.call ids m.nid r m') else none else none

/-- What an operation of a region that draws comes to. -/
def resD (callI : FuncId → List AV → Mem → Option (AV × Mem)) (call : FuncId → List AV → Option AV) (ops : Array Oper) (base i : Nat) (o : Oper) (s : St) : Option Do :=
  (wants ops s.env o).bind fun w => if w then (match loudCall C o s with
    | some (f, args) => farOf callI f args s.toMem
    | none => (act C call (base + i) o s).map .act) else some .skip

def onD (o : Oper) (a : Do) (s : St) : St :=
  match a with
  | .skip => s.put o.dst .void
  | .act a => { env := putE s.env o.dst a.val, sto := updL s.sto a.sw, nid := s.nid }
  | .call ids n0 r m => { env := putE s.env o.dst r, sto := fun i => if ids.contains i || decide (n0 ≤ i) then m.sto i else s.sto i, nid := m.nid }

def goD (callI : FuncId → List AV → Mem → Option (AV × Mem)) (call : FuncId → List AV → Option AV) (ops : Array Oper) (base : Nat) : List Nat → St → Option (List Do × St)
  | [], s => some ([], s)
  | i :: r, s => (ops[i]?).bind fun o => (resD C callI call ops base i o s).bind fun a => (goD callI call ops base r (onD o a s)).map fun (l, s) => (a :: l, s)

/-- A region whose order is drawn. -/
def runD (callI : FuncId → List AV → Mem → Option (AV × Mem)) (call : FuncId → List AV → Option AV) (ops : Array Oper) (s : St) : Option St :=
  (planD ops).bind fun (ord, ps) => (goD C callI call ops s.nid ord { s with nid := s.nid + ops.size }).bind fun (l, s) =>
    if ps.all (fun (p : Nat × Nat) => noConf (l.getD p.1 .skip) (l.getD p.2 .skip)) then some s else none

inductive Ex where
  | normal
  | exit (n : Nat)
  | ret
  deriving DecidableEq, Inhabited

def loopN (body : St → Option (Ex × St)) : Nat → St → Option (Ex × St)
  | 0, _ => none
  | k + 1, s => (body s).bind fun (e, s) => match e with
    | .normal => loopN body k s
    | e => some (e, s)

def thenS (x : Option (Ex × St)) (f : St → Option (Ex × St)) : Option (Ex × St) :=
  match x with
  | none => none
  | some (.normal, s) => f s
  | some (e, s) => some (e, s)

def blockS (n : Nat) (x : Option (Ex × St)) : Option (Ex × St) :=
  match x with
  | none => none
  | some (.exit k, s) => if k = n then some (.normal, s) else some (.exit k, s)
  | some (e, s) => some (e, s)

def regS (x : Option St) : Option (Ex × St) := x.map fun s => (.normal, s)

def condS (c : Option AV) (a b : St → Option (Ex × St)) (s : St) : Option (Ex × St) :=
  match c with
  | some (.bool t) => if t then a s else b s
  | _ => none

def evc (callI : FuncId → List AV → Mem → Option (AV × Mem)) (call : FuncId → List AV → Option AV) (lp : (St → Option (Ex × St)) → St → Option (Ex × St)) : Code → St → Option (Ex × St)
  | .skip, s => some (.normal, s)
  | .region _ ops true, s => regS (runD C callI call ops s)
  | .region _ ops false, s => regS (runT C callI call ops ops.toList s)
  | .seq a b, s => thenS (evc callI call lp a s) (evc callI call lp b)
  | .cond c a b, s => condS (opd C s.env 0 c) (evc callI call lp a) (evc callI call lp b) s
  | .block n a, s => blockS n (evc callI call lp a s)
  | .loop a, s => lp (evc callI call lp a) s
  | .exit n, s => some (.exit n, s)
  | .ret, s => some (.ret, s)
  | _, _ => none

def resA (fn : Func) (s : St) : Option AV :=
  (fn.results.toList.mapM fun r => match r with
    | ResultVar.tmp t => some (s.env t)
    | .cell a t => match s.env a with
      | .ptr id g off => if g = (s.sto id).gen then loadA C t ((s.sto id).cells.drop off) else none
      | _ => none).map fun vs => match vs with
    | [x] => x
    | vs => .tup vs

def enterA (_fn : Func) (args : List AV) (m : Mem) : St := { m with env := fun i => args.getD i .void }

/-- The blocks of some numbers are to stay as they are. -/
def frozM (m : Mem) (ids : List Nat) : Mem := ⟨fun i => if i ∈ ids then { m.sto i with froz := true } else m.sto i, m.nid⟩

/-- A function's result as a plain value, where it is to be one. -/
def snapI (f : FuncId) (r : AV) (m : Mem) : Option (AV × Mem) :=
  if C.snaps.contains f then (snapD m 8 r).map fun x => (x, frozM m (reachD m 8 r)) else some (r, m)

/-- What a body comes to, in the caller's memory. -/
def endI (f : FuncId) (fn : Func) (x : Option (Ex × St)) : Option (AV × Mem) :=
  match x with
  | none | some (.exit _, _) => none
  | some (_, s) => (resA C fn s).bind fun r => snapI C f r s.toMem

/-- What a body comes to, in a memory of its own. -/
def endF (fn : Func) (x : Option (Ex × St)) : Option AV :=
  match x with
  | none | some (.exit _, _) => none
  | some (_, s) => (resA C fn s).bind fun r => snapD s.toMem 8 r

def bodyI (callI : FuncId → List AV → Mem → Option (AV × Mem)) (call : FuncId → List AV → Option AV) (lp : (St → Option (Ex × St)) → St → Option (Ex × St)) (f : FuncId) (args : List AV) (m : Mem) : Option (AV × Mem) :=
  match C.P.funcs[f]? with
  | some fn => match fn.body with
    | some c => if args.length ≤ fn.ntmps then endI C f fn (evc C callI call lp c (enterA fn args m)) else none
    | none => none
  | none => none

def bodyF (callI : FuncId → List AV → Mem → Option (AV × Mem)) (call : FuncId → List AV → Option AV) (lp : (St → Option (Ex × St)) → St → Option (Ex × St)) (f : FuncId) (args : List AV) : Option AV :=
  match C.P.funcs[f]? with
  | some fn => match fn.body with
    | some c => if args.length ≤ fn.ntmps then endF C fn (evc C callI call lp c (enterA fn args .empty)) else none
    | none => none
  | none => none

variable (prim : FuncId → List AV → Option AV)

mutual
def evI (k : Nat) (f : FuncId) (args : List AV) (m : Mem) : Option (AV × Mem) :=
  match k with
  | 0 => none
  | k + 1 => match C.pI f args m with
    | some r => some r
    | none => bodyI C (evI k) (evf k) (fun b s => loopN b k s) f args m
def evf (k : Nat) (f : FuncId) (args : List AV) : Option AV :=
  match k with
  | 0 => none
  | k + 1 => match prim f args with
    | some r => some r
    | none => bodyF C (evI k) (evf k) (fun b s => loopN b k s) f args
end
end Go.Ev
