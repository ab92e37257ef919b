/- An abstract interpreter of the model's code: values without addresses for what is read, blocks of the call's own for what is written. It is shown sound in the texts behind this one. -/
import Derived.Orders
import Derived.Below
set_option linter.unusedVariables false
set_option linter.unusedSimpArgs false
namespace Go.Abs

/-- Abstract values. 'imm', 'iptr': memory that is only read; 'own', 'ptr': blocks of the run's own, by number and version. -/
inductive AV where
  | int (k : IntKind) (n : Int)
  | bool (b : Bool)
  | str (s : ByteArray)
  | agg (l : List AV)
  | tup (l : List AV)
  | nilsl
  | imm (tight : Bool) (n : Nat) (l : List AV)
  | iptr (l : List AV)
  | nilptr
  | fn (f : FuncId) (caps : List AV)
  | nilfn
  | nilif
  | own (b ver off n sz : Nat)
  | ptr (b ver off : Nat)
  | any
  deriving Inhabited

def undefA : AV := .tup []

/-- A block: its version; may its cells still be written ('fr': no); its elements' type; is it as large as its cells ('ex'); is it gone. -/
structure Blk where
  ver : Nat
  fr : Bool
  el : TypeId
  ex : Bool
  dead : Bool
  cells : List AV

abbrev Heap := List Blk

def hget (h : Heap) (b ver : Nat) : Option Blk :=
  match h[b]? with
  | some k => if k.ver = ver ∧ k.dead = false then some k else none
  | none => none

def mapO {α β : Type} (f : α → Option β) : List α → Option (List β)
  | [] => some []
  | x :: r => match f x with
    | none => none
    | some y => match mapO f r with
      | none => none
      | some ys => some (y :: ys)

/-- One cell, and nothing of the run's own in it. -/
def c1 : AV → Bool
  | .int .. | .bool _ | .str _ | .nilsl | .imm .. | .iptr _ | .nilptr | .nilfn | .nilif => true
  | .fn _ caps => caps.isEmpty
  | _ => false

def closed : AV → Bool
  | .agg l => l.all c1
  | x => c1 x

/-- A value without any reference. -/
def s1 : AV → Bool
  | .int .. | .bool _ | .str _ | .nilsl | .nilptr | .nilfn | .nilif => true
  | _ => false

def scalar : AV → Bool
  | .agg l => l.all s1
  | .tup l => l.all fun x => match x with | .agg l => l.all s1 | x => s1 x
  | x => s1 x

def cellsA : AV → Option (List AV)
  | .agg l => some l
  | .tup _ => none
  | .any => none
  | v => some [v]

def splice (l : List AV) (off : Nat) (vs : List AV) : List AV := l.take off ++ vs ++ l.drop (off + vs.length)

/-! ### Types -/
def isAggT (P : Program) (t : TypeId) : Option Bool :=
  match P.underlying t with
  | some (.struct _) => some true
  | some (.array _ _) => some true
  | some _ => some false
  | none => none

def sizeT (P : Program) (t : TypeId) : Option Nat := (P.info? t).map (·.size)

def bytesT (P : Program) (t : TypeId) : Option Nat := (P.info? t).map (·.bytes)

def lit1 : Value → Option AV
  | .bool b => some (.bool b)
  | .int k n => some (.int k n)
  | .string s => some (.str s)
  | .slice none 0 0 => some .nilsl
  | .pointer none => some .nilptr
  | .nilFunc => some .nilfn
  | .nilIface => some .nilif
  | _ => none

def litV : Value → Option AV
  | .agg cs => (mapO lit1 cs.toList).map .agg
  | .tuple cs => if cs.isEmpty then some undefA else none
  | v => lit1 v

/-- The cells of a type's zero value. -/
def zeroT (P : Program) (t : TypeId) : Option (List AV) :=
  match P.info? t with
  | some i => match i.zero with
    | some z => mapO lit1 z.cells.toList
    | none => none
  | none => none

def evA (T : List AV) : Operand → Option AV
  | .tmp t => some (T.getD t undefA)
  | .const v => litV v
  | .global _ => none
  | .func f => some (.fn f [])

def loadL (P : Program) (t : TypeId) (l : List AV) : Option AV :=
  match isAggT P t with
  | some true => match sizeT P t with
    | some n => if n ≤ l.length then some (.agg (l.take n)) else none
    | none => none
  | some false => l.head?
  | none => none

/-- A part of an aggregate's cells. -/
def partL (P : Program) (t : TypeId) (l : List AV) (off : Nat) : Option AV :=
  match isAggT P t with
  | some true => match sizeT P t with
    | some n => if off + n ≤ l.length then some (.agg ((l.drop off).take n)) else none
    | none => none
  | some false => l[off]?
  | none => none

def fillA (place : Nat → Option (Nat × Nat)) : List AV → List (Nat × AV) → Option (List AV)
  | cells, [] => some cells
  | cells, (i, v) :: rest =>
    match place i with
    | none => none
    | some (off, size) => match cellsA v with
      | none => none
      | some vs => if vs.length = size ∧ off + vs.length ≤ cells.length then fillA place (splice cells off vs) rest else none

def repl (n : Nat) (z : List AV) : List AV :=
  match n with
  | 0 => []
  | n + 1 => z ++ repl n z

/-! ### Operators -/
def intOp (op : BinOp) (k : IntKind) (a b : Int) : Option AV :=
  match op with
  | .add => some (.int k (k.wrap (a + b)))
  | .sub => some (.int k (k.wrap (a - b)))
  | .mul => some (.int k (k.wrap (a * b)))
  | .quo => if b = 0 then none else some (.int k (k.wrap (a.tdiv b)))
  | .rem => if b = 0 then none else some (.int k (a.tmod b))
  | .and => some (.int k (k.wrap (BitVec.ofInt k.bits a &&& BitVec.ofInt k.bits b).toNat))
  | .or => some (.int k (k.wrap (BitVec.ofInt k.bits a ||| BitVec.ofInt k.bits b).toNat))
  | .xor => some (.int k (k.wrap (BitVec.ofInt k.bits a ^^^ BitVec.ofInt k.bits b).toNat))
  | .andNot => some (.int k (k.wrap (BitVec.ofInt k.bits a &&& ~~~ BitVec.ofInt k.bits b).toNat))
  | .eql => some (.bool (a == b))
  | .neq => some (.bool (a != b))
  | .lss => some (.bool (a < b))
  | .leq => some (.bool (a ≤ b))
  | .gtr => some (.bool (a > b))
  | .geq => some (.bool (a ≥ b))
  | _ => none

def shiftOp (op : BinOp) (k : IntKind) (a b : Int) : Option AV :=
  if b < 0 then none else
  match op with
  | .shl => some (.int k (k.wrap (a * 2 ^ min b.toNat k.bits)))
  | .shr => some (.int k (a.fdiv (2 ^ min b.toNat k.bits)))
  | _ => none

def strOp (op : BinOp) (x y : ByteArray) : Option AV :=
  match op with
  | .add => if x.size + y.size ≤ 9223372036854775807 then some (.str (x ++ y)) else none
  | .eql => some (.bool (x.toList == y.toList))
  | .neq => some (.bool (!(x.toList == y.toList)))
  | .lss => some (.bool (Op.bytesLess x.toList y.toList))
  | .leq => some (.bool (Op.bytesLess x.toList y.toList || x.toList == y.toList))
  | .gtr => some (.bool (!(Op.bytesLess x.toList y.toList || x.toList == y.toList)))
  | .geq => some (.bool (!Op.bytesLess x.toList y.toList))
  | _ => none

/-- Equality of two values of a type, whose parts are numbers, bools and strings. -/
def eqIn (P : Program) : Nat → TypeId → AV → AV → Option Bool
  | 0, _, _, _ => none
  | d + 1, t, x, y =>
    match P.underlying t with
    | some .bool => match x, y with
      | .bool a, .bool b => some (a == b)
      | _, _ => none
    | some (.int _) => match x, y with
      | .int k a, .int k' b => if k = k' then some (a == b) else none
      | _, _ => none
    | some .string => match x, y with
      | .str a, .str b => some (a == b)
      | _, _ => none
    | some (.slice _) => match x, y with
      | .nilsl, .nilsl => some true
      | .nilsl, .imm .. => some false
      | .nilsl, .own .. => some false
      | .imm .., .nilsl => some false
      | .own .., .nilsl => some false
      | _, _ => none
    | some (.pointer _) => match x, y with
      | .nilptr, .nilptr => some true
      | .nilptr, .ptr .. => some false
      | .nilptr, .iptr _ => some false
      | .ptr .., .nilptr => some false
      | .iptr _, .nilptr => some false
      | _, _ => none
    | some (.func _ _ _) => match x, y with
      | .nilfn, .nilfn => some true
      | .nilfn, .fn .. => some false
      | .fn .., .nilfn => some false
      | _, _ => none
    | some (.struct fs) => match x, y with
      | .agg xs, .agg ys => if P.stoodInHeld t then none else eqFields (eqIn P d) fs.toList xs ys
      | _, _ => none
    | _ => none
where
  eqFields (eq : TypeId → AV → AV → Option Bool) : List Field → List AV → List AV → Option Bool
    | [], _, _ => some true
    | f :: fs, xs, ys =>
      if f.name = "_" then eqFields eq fs xs ys else
      match partL P f.type xs f.offset, partL P f.type ys f.offset with
      | some a, some b => match eq f.type a b with
        | some true => eqFields eq fs xs ys
        | some false => some false
        | none => none
      | _, _ => none

def eqOp (P : Program) (t : TypeId) (x y : AV) : Option Bool :=
  match x, y with
  | .agg _, .agg _ => if P.eqGuardType P.depth t then none else eqIn P 16 t x y
  | _, _ => eqIn P 16 t x y

def binA (P : Program) (op : BinOp) (t : TypeId) (x y : AV) : Option AV :=
  match x, y with
  | .int k a, .int k' b =>
    match op with
    | .shl | .shr => shiftOp op k a b
    | _ => if k = k' then intOp op k a b else none
  | .str a, .str b => strOp op a b
  | x, y => match op with
    | .eql => (eqOp P t x y).map .bool
    | .neq => (eqOp P t x y).map fun b => .bool (!b)
    | _ => none

def unA (op : UnOp) (x : AV) : Option AV :=
  match op, x with
  | .neg, .int k n => some (.int k (k.wrap (0 - n)))
  | .xor, .int k n => intOp .xor k (if k.signed then -1 else k.max) n
  | .not, .bool b => some (.bool (!b))
  | _, _ => none

/-! ### Operations that want no heap -/
def lenA : AV → Option Nat
  | .str s => some s.size
  | .nilsl => some 0
  | .imm _ n _ => some n
  | .own _ _ _ n _ => some n
  | _ => none

def bound (x : Option (Option AV)) (dflt most : Nat) : Option Nat :=
  match x with
  | none => some dflt
  | some (some (.int _ i)) => if 0 ≤ i ∧ i ≤ (most : Int) then some i.toNat else none
  | some _ => none

def sliceP (P : Program) (t : TypeId) (x : AV) (lo hi mx : Option (Option AV)) : Option AV :=
  match P.underlying t, x, mx with
  | some .string, .str s, none =>
    match bound hi s.size s.size with
    | none => none
    | some h => match bound lo 0 h with
      | none => none
      | some l => some (.str (s.extract l h))
  | some (.slice elem), .nilsl, none =>
    match bound hi 0 0 with
    | none => none
    | some h => match bound lo 0 h, sizeT P elem with
      | some _, some _ => some .nilsl
      | _, _ => none
  | some (.slice elem), .imm tt n l, none =>
    match bound hi n n with
    | none => none
    | some h => match bound lo 0 h, sizeT P elem with
      | some lo', some sz => if h * sz ≤ l.length then some (.imm (tt && h == n) (h - lo') (((l.take (h * sz)).drop (lo' * sz)))) else none
      | _, _ => none
  | some (.slice elem), .own b v off n sz, none =>
    match bound hi n n with
    | none => none
    | some h => match bound lo 0 h, sizeT P elem with
      | some lo', some sz' => if sz = sz' then (if lo' = h then (if lo' = 0 then some (.own b v off 0 sz) else some (.imm false 0 [])) else some (.own b v (off + lo' * sz) (h - lo') sz)) else none
      | _, _ => none
  | some (.slice elem), x, some (some (.int _ m)) =>
    -- x[:0:0]: a slice without room
    match lo, hi, sizeT P elem, x with
    | none, some (some (.int _ 0)), some _, .imm .. => if m = 0 then some (.imm true 0 []) else none
    | none, some (some (.int _ 0)), some _, .own .. => if m = 0 then some (.imm true 0 []) else none
    | none, some (some (.int _ 0)), some _, .nilsl => if m = 0 then some .nilsl else none
    | _, _, _, _ => none
  | _, _, _ => none

def fieldOf (P : Program) (s : TypeId) (f : Nat) : Option Field :=
  match P.underlying s with
  | some (.struct fs) => fs[f]?
  | _ => none

def indexP (P : Program) (t : TypeId) (x i : AV) : Option AV :=
  match P.underlying t, x, i with
  | some .string, .str s, .int _ i => if 0 ≤ i then (match s.data.toList[i.toNat]? with | some b => some (.int .u8 b.toNat) | none => none) else none
  | some (.array n elem), .agg l, .int _ i =>
    if 0 ≤ i ∧ i < (n : Int) then (match sizeT P elem with | some sz => partL P elem l (i.toNat * sz) | none => none) else none
  | _, _, _ => none

def indexAddrP (P : Program) (t : TypeId) (x i : AV) : Option AV :=
  match P.underlying t, x, i with
  | some (.slice elem), .imm _ n l, .int _ i =>
    if 0 ≤ i ∧ i < (n : Int) then (match sizeT P elem with | some sz => some (.iptr (l.drop (i.toNat * sz))) | none => none) else none
  | some (.slice elem), .own b v off n sz, .int _ i =>
    if 0 ≤ i ∧ i < (n : Int) then (match sizeT P elem with | some sz' => if sz = sz' then some (.ptr b v (off + i.toNat * sz)) else none | none => none) else none
  | some (.array n elem), .ptr b v off, .int _ i =>
    if 0 ≤ i ∧ i < (n : Int) then (match sizeT P elem with | some sz => some (.ptr b v (off + i.toNat * sz)) | none => none) else none
  | some (.array n elem), .iptr l, .int _ i =>
    if 0 ≤ i ∧ i < (n : Int) then (match sizeT P elem with | some sz => some (.iptr (l.drop (i.toNat * sz))) | none => none) else none
  | _, _, _ => none

def max2 : AV → AV → Option AV
  | .int k x, .int k' y => if k = k' then some (.int k (if y > x then y else x)) else none
  | _, _ => none

def min2 : AV → AV → Option AV
  | .int k x, .int k' y => if k = k' then some (.int k (if y < x then y else x)) else none
  | _, _ => none

def foldO (f : AV → AV → Option AV) : AV → List AV → Option AV
  | a, [] => some a
  | a, x :: r => match f a x with | some b => foldO f b r | none => none

def placeOf (P : Program) (fs : Array Field) (i : Nat) : Option (Nat × Nat) :=
  match fs[i]? with
  | some f => (sizeT P f.type).map fun s => (f.offset, s)
  | none => none

def buildP (P : Program) (t : TypeId) (parts : List (Nat × AV)) : Option AV :=
  match zeroT P t with
  | none => none
  | some z => match P.underlying t with
    | some (.struct fs) => if fs.all (fun f => (sizeT P f.type).isSome) then (fillA (placeOf P fs) z parts).map .agg else none
    | some (.array _ elem) => match sizeT P elem with
      | some size => (fillA (fun i => some (i * size, size)) z parts).map .agg
      | none => none
    | _ => none

/-- A slice literal's cells. -/
def litSlice (P : Program) (t : TypeId) (len : Nat) (parts : List (Nat × AV)) : Option (List AV × Nat × TypeId) :=
  match P.underlying t with
  | some (.slice elem) => match sizeT P elem with
    | some size =>
      if len * size ≤ 16777216 then
        match (if len * size = 0 then some [] else zeroT P elem) with
        | some z => if len * size = 0 ∨ z.length = size then
            match fillA (fun i => some (i * size, size)) (repl len z) parts with
            | some cells => some (cells, size, elem)
            | none => none
          else none
        | none => none
      else none
    | none => none
  | _ => none

def partsO (e : Operand → Option AV) (parts : Array (Nat × Operand)) : Option (List (Nat × AV)) :=
  mapO (fun (p : Nat × Operand) => (e p.2).map fun v => (p.1, v)) parts.toList

def lenT (P : Program) (t : TypeId) (a : AV) : Option AV :=
  match P.underlying t, a with
  | some .string, .str s => some (.int .i64 s.size)
  | some (.slice _), .nilsl => some (.int .i64 0)
  | some (.slice _), .imm _ n _ => some (.int .i64 n)
  | some (.slice _), .own _ _ _ n _ => some (.int .i64 n)
  | some (.array n _), _ => some (.int .i64 n)
  | _, _ => none

def optO (e : Operand → Option AV) (x : Option Operand) : Option (Option AV) := x.map e

def opP (P : Program) (own : Bool) (e : Operand → Option AV) (op : Op) : Option AV :=
  match op with
  | .move x => e x
  | .assign x => e x
  | .pick c a b => match e c with
    | some (.bool t) => if t then e a else e b
    | _ => none
  | .load t a => match e a with
    | some (.iptr l) => loadL P t l
    | _ => none
  | .build t parts => match partsO e parts with
    | some ps => buildP P t ps
    | none => none
  | .buildSlice t len parts => if own then none else match partsO e parts with
    | some ps => match litSlice P t len ps with
      | some (cells, _) => if cells.all c1 then some (.imm true len cells) else none
      | none => none
    | none => none
  | .nilCheck x => match e x with
    | some (.ptr b v o) => some (.ptr b v o)
    | some (.iptr l) => some (.iptr l)
    | some (.fn f c) => some (.fn f c)
    | _ => none
  | .binOp op t x y _ => match e x, e y with
    | some a, some b => binA P op t a b
    | _, _ => none
  | .unOp op _ x => match e x with
    | some a => unA op a
    | none => none
  | .convert src dst x => match P.underlying src, P.underlying dst, e x with
    | some _, some (.int k), some (.int _ n) => some (.int k (k.wrap n))
    | some _, some .string, some (.str s) => some (.str s)
    | _, _, _ => none
  | .makeFunc (.func f) first caps => if first.isEmpty then (mapO e caps.toList).map (.fn f) else none
  | .slice t x lo hi mx => match e x with
    | some a => sliceP P t a (optO e lo) (optO e hi) (optO e mx)
    | none => none
  | .fieldAddr s x f => match fieldOf P s f, e x with
    | some fd, some (.ptr b v off) => match sizeT P fd.type with
      | some n => if n = 0 then none else some (.ptr b v (off + fd.offset))
      | none => none
    | some fd, some (.iptr l) => match sizeT P fd.type with
      | some n => if n = 0 then none else some (.iptr (l.drop fd.offset))
      | none => none
    | _, _ => none
  | .field s x f => match fieldOf P s f, e x with
    | some fd, some (.agg l) => partL P fd.type l fd.offset
    | _, _ => none
  | .indexAddr t x i => match e x, e i with
    | some a, some b => indexAddrP P t a b
    | _, _ => none
  | .index t x i => match e x, e i with
    | some a, some b => indexP P t a b
    | _, _ => none
  | .extract t i => match e t with
    | some (.tup l) => l[i]?
    | _ => none
  | .call { callee := .builtin .len, args, argTypes } => match args.toList, argTypes.toList with
    | x :: _, t :: _ => match e x with
      | some a => lenT P t a
      | none => none
    | _, _ => none
  | .call { callee := .builtin .cap, args, argTypes } => match args.toList, argTypes.toList with
    | x :: _, t :: _ => match e x with
      | some a => match P.underlying t, a with
        | some (.slice _), .nilsl => some (.int .i64 0)
        | some (.slice _), .imm true n _ => some (.int .i64 n)
        | _, _ => none
      | none => none
    | _, _ => none
  | .call { callee := .builtin .max, args, argTypes := _ } => match mapO e args.toList with
    | some (a :: r) => foldO max2 a r
    | _ => none
  | .call { callee := .builtin .min, args, argTypes := _ } => match mapO e args.toList with
    | some (a :: r) => foldO min2 a r
    | _ => none
  | .call { callee := .builtin .unsafeSliceData, args, argTypes := _ } => match mapO e args.toList with
    | some [.own b v off n _] => if n = 0 then none else some (.ptr b v off)
    | some [.nilsl] => some .nilptr
    | _ => none
  | _ => none

/-! ### Operations that read the heap -/
def bytesA : List AV → Option (List UInt8)
  | [] => some []
  | .int .u8 n :: r => match bytesA r with
    | some l => some (UInt8.ofNat n.toNat :: l)
    | none => none
  | _ :: _ => none

/-- The cells that a slice (or a string, as bytes) shows. -/
def elemsA (h : Heap) (sz : Nat) : AV → Option (Nat × List AV)
  | .nilsl => some (0, [])
  | .imm _ n l => if n * sz ≤ l.length then some (n, l.take (n * sz)) else none
  | .own b v off n sz' => match hget h b v with
    | some k => if sz = sz' ∧ off + n * sz ≤ k.cells.length then some (n, (k.cells.drop off).take (n * sz)) else none
    | none => none
  | .str s => if sz = 1 then some (s.size, s.data.toList.map fun b => .int .u8 b.toNat) else none
  | _ => none

def opC (P : Program) (e : Operand → Option AV) (h : Heap) (op : Op) : Option AV :=
  match op with
  | .load t a => match e a with
    | some (.ptr b v off) => match hget h b v with
      | some k => loadL P t (k.cells.drop off)
      | none => none
    | _ => none
  | .slice t x lo hi none => match P.underlying t, e x with
    | some (.array n elem), some (.ptr b v off) => match hget h b v, sizeT P elem with
      | some k, some sz =>
        if off = 0 ∧ k.cells.length = n * sz then
          match bound (optO e hi) n n with
          | none => none
          | some h' => match bound (optO e lo) 0 h' with
            | none => none
            | some l => if l < h' then some (.own b v (l * sz) (h' - l) sz) else none
        else none
      | _, _ => none
    | _, _ => none
  | .convert src dst x => match P.underlying src, P.underlying dst, e x with
    | some (.slice el), some .string, some a => match P.underlying el, a with
      | some (.int .u8), .nilsl => some (.str ByteArray.empty)
      | some (.int .u8), .imm t n l => match elemsA h 1 (.imm t n l) with
        | some (_, l) => match bytesA l with
          | some bs => some (.str ⟨bs.toArray⟩)
          | none => none
        | none => none
      | some (.int .u8), .own b v off n sz => match elemsA h 1 (.own b v off n sz) with
        | some (_, l) => match bytesA l with
          | some bs => some (.str ⟨bs.toArray⟩)
          | none => none
        | none => none
      | _, _ => none
    | some (.pointer t), some .unsafePointer, some (.ptr b v off) => match hget h b v, sizeT P t with
      | some k, some n => if n = 0 ∨ k.cells.length ≤ off then none else some (.ptr b v off)
      | _, _ => none
    | some .unsafePointer, some (.pointer u), some (.ptr b v off) => match hget h b v, sizeT P u with
      | some k, some n => if n ≠ 0 ∧ k.ex = true ∧ liesAt P P.depth k.el (k.cells.length / P.cellsOf k.el) off u 1 = true then some (.ptr b v off) else none
      | _, _ => none
    | _, _, _ => none
  | .binOp op t x y _ => match op, P.underlying t, e x, e y with
    | .eql, some (.pointer elem), some (.ptr b v off), some (.ptr b' v' off') => match hget h b v, sizeT P elem with
      | some _, some n => if n ≠ 0 ∧ b = b' ∧ v = v' then some (.bool (off == off')) else none
      | _, _ => none
    | .neq, some (.pointer elem), some (.ptr b v off), some (.ptr b' v' off') => match hget h b v, sizeT P elem with
      | some _, some n => if n ≠ 0 ∧ b = b' ∧ v = v' then some (.bool (!(off == off'))) else none
      | _, _ => none
    | _, _, _, _ => none
  | _ => none

/-! ### Operations that turn the heap -/
def push (h : Heap) (el : TypeId) (ex : Bool) (cells : List AV) : Heap := h ++ [⟨0, false, el, ex, false, cells⟩]

def appendL (P : Program) (elem : TypeId) (h : Heap) (s : AV) (m : Nat) (xs : List AV) : Option (AV × Heap) :=
  match sizeT P elem, bytesT P elem, zeroT P elem with
  | some sz, some bytes, some z =>
    if z.length = sz ∧ 0 < bytes ∧ 0 < sz ∧ xs.length = m * sz then
      if m = 0 then (match s with
        | .nilsl => some (s, h)
        | .imm .. => some (s, h)
        | .own .. => some (s, h)
        | _ => none)
      else match s with
        | .nilsl => if m * bytes ≤ 140737488355328 then some (.own h.length 0 0 m sz, push h elem false xs) else none
        | .imm true n l => if (n + m) * bytes ≤ 140737488355328 ∧ n * sz ≤ l.length then some (.own h.length 0 0 (n + m) sz, push h elem false (l.take (n * sz) ++ xs)) else none
        | .own b v off n sz' => match hget h b v with
          | some k =>
            if sz = sz' ∧ k.el = elem then
              if off + n * sz = k.cells.length then
                if (n + m) * bytes ≤ 140737488355328 then some (.own b (v + 1) 0 (n + m) sz, h.set b ⟨v + 1, k.fr, elem, false, false, k.cells.drop off ++ xs⟩) else none
              else if off + (n + m) * sz ≤ k.cells.length ∧ k.fr = false then
                some (.own b v off (n + m) sz, h.set b ⟨v, false, k.el, k.ex, false, splice k.cells (off + n * sz) xs⟩)
              else none
            else none
          | none => none
        | _ => none
    else none
  | _, _, _ => none

def storeA (h : Heap) (b v off : Nat) (vs : List AV) : Option Heap :=
  match hget h b v with
  | some k => if k.fr = false ∧ off + vs.length ≤ k.cells.length then some (h.set b ⟨v, false, k.el, k.ex, false, splice k.cells off vs⟩) else none
  | none => none

def opL (P : Program) (e : Operand → Option AV) (h : Heap) (op : Op) : Option (AV × Heap) :=
  match op with
  | .alloc elem => match zeroT P elem with
    | some z => some (.ptr h.length 0 0, push h elem true z)
    | none => none
  | .box elem x => match e x with
    | some a => match cellsA a with
      | some l => some (.ptr h.length 0 0, push h elem true l)
      | none => none
    | none => none
  | .store t a x => match e a, e x, sizeT P t with
    | some (.ptr b v off), some y, some n => match cellsA y with
      | some vs => if vs.length = n then (match storeA h b v off vs with | some h' => some (undefA, h') | none => none) else none
      | none => none
    | _, _, _ => none
  | .buildSlice t len parts => match partsO e parts with
    | some ps => match litSlice P t len ps with
      | some (cells, size, elem) => if len = 0 then some (.imm true 0 [], h) else some (.own h.length 0 0 len size, push h elem true cells)
      | none => none
    | none => none
  | .makeSlice t l c => match P.underlying t, e l, e c with
    | some (.slice elem), some (.int .i64 n), some (.int .i64 cp) => match sizeT P elem, bytesT P elem, zeroT P elem with
      | some sz, some bytes, some z =>
        if 0 ≤ n ∧ n ≤ cp ∧ bytes * cp ≤ 140737488355328 ∧ cp ≤ 140737488355328 ∧ z.length = sz ∧ 0 < sz then
          (if n = 0 ∧ cp = 0 then some (.imm true 0 [], h) else some (.own h.length 0 0 n.toNat sz, push h elem false (repl n.toNat z)))
        else none
      | _, _, _ => none
    | _, _, _ => none
  | .call { callee := .builtin .append, args, argTypes } => match args.toList, argTypes.toList with
    | [s, x], [ts, tx] => match P.underlying ts, P.underlying tx, e s, e x with
      | some (.slice elem), some dx, some a, some y => match sizeT P elem with
        | some sz => match dx with
          | .int _ => none
          | _ => match elemsA h sz y with
            | some (m, xs) => appendL P elem h a m xs
            | none => none
        | none => none
      | _, _, _, _ => none
    | _, _ => none
  | .call { callee := .builtin .copy, args, argTypes } => match args.toList, argTypes.toList with
    | [d, x], td :: _ => match P.underlying td, e d, e x with
      | some (.slice elem), some (.own b v off n sz), some y => match sizeT P elem with
        | some sz' => match elemsA h sz y with
          | some (m, xs) => if sz = sz' then (if min m n = 0 then some (.int .i64 0, h) else
              match storeA h b v off (xs.take (min m n * sz)) with
              | some h' => some (.int .i64 (min m n : Nat), h')
              | none => none) else none
          | none => none
        | none => none
      | _, _, _ => none
    | _, _ => none
  | .call { callee := .builtin .unsafeString, args, argTypes } => match mapO e args.toList, argTypes.toList with
    | some [.nilptr, .int _ n], _ :: _ => if n = 0 then some (.str ByteArray.empty, h) else none
    | some [.ptr b v off, .int _ n], pt :: _ => match hget h b v, P.underlying pt with
      | some k, some (.pointer el) =>
        if 0 < n ∧ n ≤ 140737488355328 ∧ el = k.el ∧ P.cellsOf el = 1 ∧ off + n.toNat ≤ k.cells.length then
          match bytesA ((k.cells.drop off).take n.toNat) with
          | some bs => some (.str ⟨bs.toArray⟩, h.set b ⟨k.ver, false, k.el, k.ex, true, k.cells⟩)
          | none => none
        else none
      | _, _ => none
    | _, _ => none
  | _ => none

end Go.Abs
