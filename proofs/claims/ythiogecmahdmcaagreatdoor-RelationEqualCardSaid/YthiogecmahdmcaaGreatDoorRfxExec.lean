/- The abstract interpreter's second part: calls, regions, code, functions. -/
import Derived.Test.YthiogecmahdmcaaGreatDoorRfxAbs
set_option linter.unusedVariables false
set_option linter.unusedSimpArgs false
namespace Go.Abs

/-- A part of what a call on values alone hands back: a value, or a slice in memory that nobody else knows. -/
inductive Comp where
  | val (a : AV)
  | fresh (n sz : Nat) (el : TypeId) (l : List AV)

inductive RV where
  | one (c : Comp)
  | many (l : List Comp)

/-- Values frozen: no block of the run's own is named any more. The block 'ex' is not looked into. -/
def snap (h : Heap) (ex : Option Nat) : Nat → AV → Option AV
  | 0, _ => none
  | d + 1, v => match v with
    | .own b ver off n sz =>
      if ex = some b then none else
      match hget h b ver with
      | some k => if off + n * sz ≤ k.cells.length then
          (match mapO (snap h ex d) ((k.cells.drop off).take (n * sz)) with
          | some l => if l.all c1 then some (.imm false n l) else none
          | none => none) else none
      | none => none
    | .agg l => match mapO (snap h ex d) l with
      | some l' => if l'.all c1 then some (.agg l') else none
      | none => none
    | v => if c1 v then some v else none

/-- The blocks that 'snap' looks into. -/
def touch (h : Heap) : Nat → AV → List Nat
  | 0, _ => []
  | d + 1, v => match v with
    | .own b ver off n sz => match hget h b ver with
      | some k => b :: ((k.cells.drop off).take (n * sz)).flatMap (touch h d)
      | none => []
    | .agg l => l.flatMap (touch h d)
    | _ => []

def depthA : Nat := 12

def freezeA (ids : List Nat) : Heap → Nat → Heap
  | [], _ => []
  | k :: r, i => (if ids.contains i && !k.dead then ⟨k.ver, true, k.el, k.ex, false, k.cells⟩ else k) :: freezeA ids r (i + 1)

/-- The first slice in a block of the run's own that nobody reads yet. -/
def ownOf (h : Heap) : List AV → Option Nat
  | [] => none
  | .own b ver _ _ _ :: r => match hget h b ver with
    | some k => if k.fr then ownOf h r else some b
    | none => none
  | _ :: r => ownOf h r

/-- This slice goes over as it is; all else is frozen. -/
def compsA (h : Heap) (ex : Option Nat) : Bool → List AV → Option (List Comp)
  | _, [] => some []
  | done, x :: r =>
    match (if done then none else freshA h ex x) with
    | some c => match compsA h ex true r with
      | some cs => some (c :: cs)
      | none => none
    | none => match snap h ex depthA x, compsA h ex done r with
      | some a, some cs => some (.val a :: cs)
      | _, _ => none
where
  freshA (h : Heap) (ex : Option Nat) (x : AV) : Option Comp :=
    match x with
    | .own b ver off n sz => if ex = some b then
        (match hget h b ver with
        | some k => match mapO (snap h ex depthA) (k.cells.drop off) with
          | some l => if n * sz ≤ l.length ∧ l.all c1 = true ∧ k.fr = false then some (.fresh n sz k.el l) else none
          | none => none
        | none => none)
      else none
    | _ => none

def retP (h : Heap) (r : AV) : Option RV :=
  match r with
  | .tup l => match compsA h (ownOf h l) false l with
    | some cs => some (.many cs)
    | none => none
  | r => match compsA h (ownOf h [r]) false [r] with
    | some [c] => some (.one c)
    | _ => none

def Comp.imm : Comp → AV
  | .val a => a
  | .fresh n sz _ l => .imm false n (l.take (n * sz))

def RV.imm : RV → AV
  | .one c => c.imm
  | .many l => .tup (l.map Comp.imm)

def placeC : List Comp → Heap → List AV × Heap
  | [], h => ([], h)
  | .val a :: r, h => let p := placeC r h; (a :: p.1, p.2)
  | .fresh n sz el l :: r, h => let p := placeC r (push h el false l); (.own h.length 0 0 n sz :: p.1, p.2)

def RV.place (r : RV) (h : Heap) : AV × Heap :=
  match r with
  | .one (.val a) => (a, h)
  | .one (.fresh n sz el l) => (.own h.length 0 0 n sz, push h el false l)
  | .many l => let p := placeC l h; (.tup p.1, p.2)

def Comp.isFresh : Comp → Bool
  | .fresh .. => true
  | _ => false

def RV.isFresh : RV → Bool
  | .one c => c.isFresh
  | .many l => l.any Comp.isFresh

/-- No block from n on is named. -/
def refsLt (n : Nat) : AV → Bool
  | .own b _ _ _ _ => b < n
  | .ptr b _ _ => b < n
  | .fn _ caps => caps.all fun c => match c with
    | .own b _ _ _ _ => b < n
    | .ptr b _ _ => b < n
    | x => c1 x
  | .agg _ => false
  | .tup _ => false
  | _ => true

structure St where
  T : List AV
  h : Heap

def namesA : AV → List Nat
  | .own b _ _ _ _ => [b]
  | .ptr b _ _ => [b]
  | _ => []

def names1 : AV → List Nat
  | .fn _ caps => caps.flatMap namesA
  | x => namesA x

def namesV : AV → List Nat
  | .agg l => l.flatMap names1
  | .tup l => l.flatMap names1
  | x => names1 x

def ren0 (ρ : Nat → Nat → Option (Nat × Nat)) : AV → Option AV
  | .own b v off n sz => match ρ b v with
    | some (b', v') => some (.own b' v' off n sz)
    | none => none
  | .ptr b v off => match ρ b v with
    | some (b', v') => some (.ptr b' v' off)
    | none => none
  | x => if c1 x then some x else none

def ren1 (ρ : Nat → Nat → Option (Nat × Nat)) : AV → Option AV
  | .fn f caps => match mapO (ren0 ρ) caps with
    | some l => some (.fn f l)
    | none => none
  | x => ren0 ρ x

def renV (ρ : Nat → Nat → Option (Nat × Nat)) : AV → Option AV
  | .agg l => match mapO (ren1 ρ) l with
    | some l => some (.agg l)
    | none => none
  | .tup l => match mapO (ren1 ρ) l with
    | some l => some (.tup l)
    | none => none
  | .any => some .any
  | x => ren1 ρ x

def addId (m : Nat) (ids : List Nat) (b : Nat) : List Nat := if b < m then ids else if ids.contains b then ids else ids ++ [b]

def growA (h : Heap) (m : Nat) (ids : List Nat) : List Nat :=
  (ids.flatMap fun b => match h[b]? with
    | some k => k.cells.flatMap names1
    | none => []).foldl (addId m) ids

def idsA (h : Heap) (m : Nat) (T : List AV) : List Nat :=
  growA h m (growA h m (((T.flatMap namesV) ++ ((h.take m).flatMap fun k => k.cells.flatMap names1)).foldl (addId m) []))

def posA : Nat → List Nat → Nat → Option Nat
  | _, [], _ => none
  | j, i :: r, b => if i = b then some j else posA (j + 1) r b

def rhoA (h : Heap) (m : Nat) (ids : List Nat) (b v : Nat) : Option (Nat × Nat) :=
  if b < m then some (b, v) else match hget h b v with
    | none => none
    | some _ => match posA m ids b with
      | some j => some (j, 0)
      | none => none

def renB (ρ : Nat → Nat → Option (Nat × Nat)) (k : Blk) : Option Blk :=
  if k.dead then some k else match mapO (ren1 ρ) k.cells with
    | some l => some ⟨k.ver, k.fr, k.el, k.ex, k.dead, l⟩
    | none => none

def keepB (h : Heap) (ρ : Nat → Nat → Option (Nat × Nat)) (b : Nat) : Option Blk :=
  match h[b]? with
  | some k => if k.dead then none else match mapO (ren1 ρ) k.cells with
    | some l => some ⟨0, k.fr, k.el, k.ex, false, l⟩
    | none => none
  | none => none

def distinctA : List Nat → Bool
  | [] => true
  | i :: r => !r.contains i && distinctA r

def gcWith (m : Nat) (s : St) (ids : List Nat) : St :=
  match mapO (renV (rhoA s.h m ids)) s.T, mapO (renB (rhoA s.h m ids)) (s.h.take m), mapO (keepB s.h (rhoA s.h m ids)) ids with
  | some T, some h1, some h2 => if distinctA ids && ids.all (fun b => decide (m ≤ b)) && decide (m ≤ s.h.length) then ⟨T, h1 ++ h2⟩ else s
  | _, _, _ => s

def gcA (m : Nat) (s : St) : St := gcWith m s (idsA s.h m s.T)

/-- What a call in the caller's heap leaves: blocks that nobody names are forgotten. -/
def gcT (h : Heap) (r : AV) (h1 : Heap) : AV × Heap :=
  match gcA h.length ⟨[r], h1⟩ with
  | ⟨[r'], h'⟩ => (r', h')
  | _ => (r, h1)

structure Cfg where
  fns : FuncId → Option Func
  thr : FuncId → Bool
  lit : FuncId → Bool
  keep : FuncId → Bool
  ext : FuncId → List AV → Option AV
  mnz : FuncId → Option TypeId
  live : FuncId → Nat → List Tmp

structure Orc where
  p : FuncId → List AV → Option RV
  t : FuncId → List AV → Heap → Option (AV × Heap)

/-- What an operation has to do with the heap: nothing; it reads (these blocks, or whatever); it turns it (these blocks, or whatever). -/
inductive Cls where
  | P
  | C (b : Option (List Nat))
  | L (b : Option (List Nat))

def Cls.isL : Cls → Bool
  | .L _ => true
  | _ => false

def meet (a b : Option (List Nat)) : Bool :=
  match a, b with
  | some x, some y => x.any fun i => y.contains i
  | _, _ => true

/-- Must the order of two such operations be fixed? -/
def Cls.clash : Cls → Cls → Bool
  | .P, _ => false
  | _, .P => false
  | .C _, .C _ => false
  | .C a, .L b => meet a b
  | .L a, .C b => meet a b
  | .L a, .L b => meet a b

/-- The blocks that an operation's operands name. -/
def footC (e : Operand → Option AV) (op : Op) : List Nat :=
  op.operands.toList.flatMap fun x => match e x with
    | some v => namesA v
    | none => []

/-- The block that a store touches. -/
def footL (e : Operand → Option AV) (op : Op) : Option (List Nat) :=
  match op with
  | .store _ a _ => match e a with
    | some (.ptr b _ _) => some [b]
    | _ => none
  | _ => none

abbrev Res := Option (Cls × AV × Heap)

def callR (cfg : Cfg) (draw : Bool) (f : FuncId) (rv : RV) (h : Heap) : Cls × AV × Heap :=
  if !draw && cfg.keep f && rv.isFresh then let p := rv.place h; (.L none, p.1, p.2) else (.P, rv.imm, h)

def callA (cfg : Cfg) (orc : Orc) (draw : Bool) (fv : AV) (as0 : List AV) (h : Heap) : Res :=
  match fv with
  | .fn f caps =>
    let as := as0 ++ caps
    match cfg.fns f with
    | none => match cfg.mnz f with
      | some el => (match as with
        | [.int .i64 n] => if 0 ≤ n ∧ n ≤ 140737488355328 then some (.L none, .own h.length 0 0 n.toNat 1, push h el false []) else none
        | _ => none)
      | none => match cfg.ext f as with
        | some v => some (.P, v, h)
        | none => none
    | some _ =>
      if cfg.thr f then
        match orc.t f as h with
        | some (r, h1) => some (.L none, gcT h r h1)
        | none => none
      else if as.all closed then
        match orc.p f as with
        | some rv => some (callR cfg draw f rv h)
        | none => none
      else match mapO (snap h none depthA) as with
        | some as' => match orc.p f as' with
          | some rv =>
            if scalar rv.imm then some (.C (some (as.flatMap (touch h depthA))), rv.imm, h)
            else if draw then some (.L (some (as.flatMap (touch h depthA))), rv.imm, freezeA (as.flatMap (touch h depthA)) h 0)
            else match callR cfg draw f rv (freezeA (as.flatMap (touch h depthA)) h 0) with
              | (_, r, h') => some (.L none, r, h')
          | none => none
        | none => match orc.t f as h with
          | some (r, h1) => some (.L none, gcT h r h1)
          | none => none
  | _ => none

def opA (P : Program) (cfg : Cfg) (orc : Orc) (own draw : Bool) (s : St) (op : Op) : Res :=
  match op with
  | .call { callee := .value f, args, argTypes := _ } =>
    match evA s.T f, mapO (evA s.T) args.toList with
    | some fv, some as => callA cfg orc draw fv as s.h
    | _, _ => none
  | op => match opP P own (evA s.T) op with
    | some v => some (.P, v, s.h)
    | none => match opC P (evA s.T) s.h op with
      | some v => some (.C (some (footC (evA s.T) op)), v, s.h)
      | none => match opL P (evA s.T) s.h op with
        | some (v, h') => some (.L (footL (evA s.T) op), v, h')
        | none => none

/-- Is the operation carried out? -/
def wantA (ops : List Oper) (T : List AV) (o : Oper) : Option Bool :=
  match o.guard with
  | none => some true
  | some (j, want) => match (ops[j]?).bind (·.dst) with
    | none => some false
    | some d => match T.getD d undefA with
      | .bool b => some (b == want)
      | .tup [] => some false
      | _ => none

def putA (T : List AV) (dst : Option Tmp) (v : AV) : List AV :=
  match dst with
  | some d => T.set d v
  | none => T

/-- One operation, in text order. -/
def stepA (P : Program) (cfg : Cfg) (orc : Orc) (own : Bool) (ops : List Oper) (o : Oper) (s : St) : Option St :=
  match wantA ops s.T o with
  | none => none
  | some false => some ⟨putA s.T o.dst undefA, s.h⟩
  | some true => match opA P cfg orc own false s o.op with
    | some (_, v, h') => some ⟨putA s.T o.dst v, h'⟩
    | none => none

def opsA (P : Program) (cfg : Cfg) (orc : Orc) (own : Bool) (ops : List Oper) : List Oper → St → Option St
  | [], s => some s
  | o :: r, s => match stepA P cfg orc own ops o s with
    | some s' => opsA P cfg orc own ops r s'
    | none => none

/-! ### A region whose order is open -/
/-- Does the operation make a block that is laid ahead of the region? -/
def isPre (cfg : Cfg) (o : Oper) : Bool :=
  match o.op, o.guard with
  | .alloc _, none => true
  | .call { callee := .value (.func f), .. }, none => (cfg.mnz f).isSome
  | _, _ => false

/-- The numbers of these blocks. -/
def annA (cfg : Cfg) : List Oper → Nat → List (Oper × Option Nat)
  | [], _ => []
  | o :: r, k => if isPre cfg o then (o, some k) :: annA cfg r (k + 1) else (o, none) :: annA cfg r k

/-- They lie there, not yet born. -/
def preA : List (Oper × Option Nat) → Heap → Heap
  | [], h => h
  | (_, some _) :: r, h => preA r (h ++ [⟨0, true, default, true, true, []⟩])
  | (_, none) :: r, h => preA r h

/-- Such an operation: its block is born. -/
def wakeA (P : Program) (cfg : Cfg) (s : St) (op : Op) (k : Nat) : Option (AV × Heap) :=
  match s.h[k]? with
  | some b => if b.dead = true ∧ b.fr = true then
      match op with
      | .alloc elem => match zeroT P elem with
        | some z => some (.ptr k 0 0, s.h.set k ⟨0, false, elem, true, false, z⟩)
        | none => none
      | .call { callee := .value (.func f), args, .. } => match cfg.mnz f, mapO (evA s.T) args.toList with
        | some el, some [.int .i64 n] => if 0 ≤ n ∧ n ≤ 140737488355328 then some (.own k 0 0 n.toNat 1, s.h.set k ⟨0, false, el, false, false, []⟩) else none
        | _, _ => none
      | _ => none
    else none
  | none => none

/-- One operation of such a region. -/
def stepD (P : Program) (cfg : Cfg) (orc : Orc) (ops : List Oper) (o : Oper × Option Nat) (s : St) : Option (Cls × St) :=
  match wantA ops s.T o.1, o.2 with
  | some true, some k => match wakeA P cfg s o.1.op k with
    | some (v, h') => some (.L (some [k]), ⟨putA s.T o.1.dst v, h'⟩)
    | none => none
  | some true, none => match opA P cfg orc false true s o.1.op with
    | some (c, v, h') => some (c, ⟨putA s.T o.1.dst v, h'⟩)
    | none => none
  | some false, none => some (.P, ⟨putA s.T o.1.dst undefA, s.h⟩)
  | _, _ => none

def opsD (P : Program) (cfg : Cfg) (orc : Orc) (ops : List Oper) : List (Oper × Option Nat) → St → Option (List Cls × St)
  | [], s => some ([], s)
  | o :: r, s => match stepD P cfg orc ops o s with
    | some (c, s') => match opsD P cfg orc ops r s' with
      | some (cs, s'') => some (c :: cs, s'')
      | none => none
    | none => none

/-- Of each operation: the set (as bits) of those that come ahead of it in every order. -/
def befA (acc : List Nat) : List Oper → List Nat
  | [] => acc
  | o :: r => befA (acc ++ [o.after.toList.foldl (fun s e => if Region.binds .any e then s ||| 2 ^ e.on ||| acc.getD e.on 0 else s) 0]) r

def pairs (p : Nat → Nat → Bool) (n : Nat) : Bool := (List.range n).all fun j => (List.range j).all fun i => p i j

/-- Two operations that touch one slot stand in a fixed order; every edge leads back. -/
def statOk (ops : List Oper) : Bool :=
  let b := befA [] ops
  ops.zipIdx.all (fun p => p.1.after.toList.all fun e => !Region.binds .any e || e.on < p.2) &&
  pairs (fun i j => match ops[i]?, ops[j]? with
    | some x, some y => x.apart ops.toArray y || (b.getD j 0).testBit i
    | _, _ => false) ops.length

/-- What turns the heap stands in a fixed order to all that reads or turns it. -/
def heapOk (ops : List Oper) (cs : List Cls) : Bool :=
  if cs.all (fun c => !c.isL) then true else
  let b := befA [] ops
  pairs (fun i j => match cs[i]?, cs[j]? with
    | some x, some y => !x.clash y || (b.getD j 0).testBit i
    | _, _ => false) ops.length

def regionD (P : Program) (cfg : Cfg) (orc : Orc) (ops : List Oper) (s : St) : Option St :=
  let l := annA cfg ops s.h.length
  match opsD P cfg orc ops l ⟨s.T, preA l s.h⟩ with
  | some (cs, s') => if statOk ops && heapOk ops cs then some s' else none
  | none => none

/-! ### Code -/
inductive Ex where
  | normal
  | exit (id : Nat)
  | ret

/-- At a loop's head: slots that nobody reads any more are forgotten ('live': those that are read, rising), and so are blocks that nobody names; what blocks of this run are left is numbered anew. -/
def keepA : Nat → List Tmp → List AV → List AV
  | _, _, [] => []
  | i, [], _ :: T => .any :: keepA (i + 1) [] T
  | i, l :: ls, x :: T => if i = l then x :: keepA (i + 1) ls T else .any :: keepA (i + 1) (l :: ls) T

def headA (live : List Tmp) (m : Nat) (s : St) : St :=
  match live with
  | [] => s
  | live => gcA m ⟨keepA 0 live s.T, s.h⟩

/-- A loop is known by its first region. -/
def keyA : Code → Nat
  | .region id _ _ => id
  | .seq a _ => keyA a
  | .block _ b => keyA b
  | .loop b => keyA b
  | .scope b => keyA b
  | _ => 0

def iterA (f : St → Option (Ex × St)) (hd : St → St) : Nat → St → Option (Ex × St)
  | 0, _ => none
  | n + 1, s => match f (hd s) with
    | some (.normal, s') => iterA f hd n s'
    | r => r

def codeA (P : Program) (cfg : Cfg) (orc : Orc) (own : Bool) (fuel : Nat) (dead : Nat → List Tmp) : Code → St → Option (Ex × St)
  | .skip, s => some (.normal, s)
  | .label _, s => some (.normal, s)
  | .ret, s => some (.ret, s)
  | .exit id, s => some (.exit id, s)
  | .region _ ops draw, s =>
    match (if draw then regionD P cfg orc ops.toList s else opsA P cfg orc own ops.toList ops.toList s) with
    | some s' => some (.normal, s')
    | none => none
  | .seq a b, s => match codeA P cfg orc own fuel dead a s with
    | some (.normal, s') => codeA P cfg orc own fuel dead b s'
    | r => r
  | .cond c x y, s => match evA s.T c with
    | some (.bool t) => if t then codeA P cfg orc own fuel dead x s else codeA P cfg orc own fuel dead y s
    | _ => none
  | .block id b, s => match codeA P cfg orc own fuel dead b s with
    | some (.exit id', s') => if id' = id then some (.normal, s') else some (.exit id', s')
    | r => r
  | .loop b, s => iterA (codeA P cfg orc own fuel dead b) (headA (dead (keyA b)) s.h.length) fuel s
  | .scope b, s => codeA P cfg orc own fuel dead b s
  | _, _ => none

def resA (P : Program) (T : List AV) (h : Heap) : ResultVar → Option AV
  | .tmp t => some (T.getD t undefA)
  | .cell a t => match T.getD a undefA with
    | .ptr b v off => match hget h b v with
      | some k => loadL P t (k.cells.drop off)
      | none => none
    | _ => none

def resultsA (P : Program) (fn : Func) (T : List AV) (h : Heap) : Option AV :=
  match mapO (resA P T h) fn.results.toList with
  | some [v] => some v
  | some vs => some (.tup vs)
  | none => none

def bodyA (P : Program) (cfg : Cfg) (orc : Orc) (own : Bool) (fuel : Nat) (dead : Nat → List Tmp) (fn : Func) (args : List AV) (h : Heap) : Option (AV × Heap) :=
  match fn.body with
  | none => none
  | some c => match codeA P cfg orc own fuel dead c ⟨args ++ List.replicate (fn.ntmps - args.length) undefA, h⟩ with
    | some (.normal, s) => match resultsA P fn s.T s.h with
      | some r => some (r, s.h)
      | none => none
    | some (.ret, s) => match resultsA P fn s.T s.h with
      | some r => some (r, s.h)
      | none => none
    | _ => none

def pureA (P : Program) (cfg : Cfg) (orc : Orc) (fuel : Nat) (f : FuncId) (as : List AV) : Option RV :=
  match cfg.fns f with
  | none => none
  | some fn => match bodyA P cfg orc (cfg.lit f) fuel (cfg.live f) fn as [] with
    | some (r, h) => retP h r
    | none => none

def thrA (P : Program) (cfg : Cfg) (orc : Orc) (fuel : Nat) (f : FuncId) (as : List AV) (h : Heap) : Option (AV × Heap) :=
  match cfg.fns f with
  | none => none
  | some fn => bodyA P cfg orc (cfg.lit f) fuel (cfg.live f) fn as h

def Orc.none : Orc := ⟨fun _ _ => Option.none, fun _ _ _ => Option.none⟩

/-- The interpreter itself, with n levels of calls. -/
def runA (P : Program) (cfg : Cfg) (fuel : Nat) : Nat → Orc
  | 0 => Orc.none
  | n + 1 => ⟨pureA P cfg (runA P cfg fuel n) fuel, thrA P cfg (runA P cfg fuel n) fuel⟩

end Go.Abs
