/- The abstract interpreter: data, compilation of the model's code, execution. No statement is proved here. -/
import GoSem.Step
namespace Go.AM

/-- A binary trie keyed by numbers: key 0 at the root. -/
inductive Tr (α : Type) where
  | leaf
  | node (v : Option α) (l r : Tr α)
  deriving Inhabited

namespace Tr
def get {α : Type} : Tr α → Nat → Option α
  | .leaf, _ => none
  | .node v l r, k =>
    match k with
    | 0 => v
    | k + 1 => match Nat.beq (k % 2) 0 with
      | true => l.get (k / 2)
      | false => r.get (k / 2)

def updF {α : Type} (o : Option α) : Nat → Tr α → Nat → Tr α
  | 0, t, _ => t
  | f + 1, .leaf, k =>
    match k with
    | 0 => .node o .leaf .leaf
    | k + 1 => match Nat.beq (k % 2) 0 with
      | true => .node none (updF o f .leaf (k / 2)) .leaf
      | false => .node none .leaf (updF o f .leaf (k / 2))
  | f + 1, .node v l r, k =>
    match k with
    | 0 => .node o l r
    | k + 1 => match Nat.beq (k % 2) 0 with
      | true => .node v (updF o f l (k / 2)) r
      | false => .node v l (updF o f r (k / 2))

def upd {α : Type} (t : Tr α) (k : Nat) (o : Option α) : Tr α := updF o (k + 1) t k
def set {α : Type} (t : Tr α) (k : Nat) (a : α) : Tr α := t.upd k (some a)
def ofList {α : Type} : List α → Nat → Tr α → Tr α
  | [], _, t => t
  | a :: l, i, t => ofList l (i + 1) (t.set i a)
end Tr

/-- The sign of a slice's capacity that is not known: this number and the size of an element. -/
def CAPX : Nat := 2 ^ 70

/-- Is a block of a fixed size, one that may grow, or one that is only read? -/
inductive Ext where
  | fixed
  | grow
  | ro
  deriving DecidableEq, Inhabited, Repr

inductive AObj where
  | cells (n : Nat) (z : List Value) (c : Tr Value) (ext : Ext)
  | map (es : List MapEntry) (clock : Nat)
  | siter (s : ByteArray) (pos : Nat)
  | miter (m : Option Nat) (since : Nat) (seen : List Nat) (stepped : Nat)
  deriving Inhabited

structure Sto where
  next : Nat
  objs : Tr AObj
  deriving Inhabited

def cellOf (z : List Value) (c : Tr Value) (i : Nat) : Option Value :=
  match c.get i with
  | some v => some v
  | none => z[i % z.length]?

namespace Sto
def load (σ : Sto) (b off : Nat) : Option Value :=
  match σ.objs.get b with
  | some (.cells n z c _) => if off < n then cellOf z c off else none
  | _ => none
def loads (σ : Sto) (b off : Nat) : Nat → Option (List Value)
  | 0 => some []
  | n + 1 => do
    let v ← σ.load b off
    let vs ← σ.loads b (off + 1) n
    pure (v :: vs)
def isAggV : Value → Bool
  | .agg _ | .tuple _ => true
  | _ => false
def store (σ : Sto) (b off : Nat) (v : Value) : Option Sto :=
  match σ.objs.get b with
  | some (.cells n z c e) => if off < n && !isAggV v && e != .ro then some { σ with objs := σ.objs.set b (.cells n z (c.set off v) e) } else none
  | _ => none
def stores (σ : Sto) (b off : Nat) : List Value → Option Sto
  | [] => some σ
  | v :: vs => do
    let σ ← σ.store b off v
    σ.stores b (off + 1) vs
def new (σ : Sto) (o : AObj) : Nat × Sto := (σ.next, { next := σ.next + 1, objs := σ.objs.set σ.next o })
def newCells (σ : Sto) (cs : List Value) : Nat × Sto := σ.new (.cells cs.length [] (Tr.ofList cs 0 .leaf) .fixed)
end Sto

/-- What a type is for the interpreter. -/
structure ATy where
  desc : TypeDesc
  size : Nat
  bytes : Nat
  zero : Option Value
  deriving Inhabited

abbrev Tab := Tr ATy

def isAggT : TypeDesc → Bool
  | .struct _ | .array _ _ => true
  | _ => false

/-- The kinds of plain cells. -/
inductive LK where | b | i | s
  deriving DecidableEq, Repr, Inhabited

/-- The kinds of types that are compared by their values' forms. -/
inductive EK where | bool | ptr | slice | map | func | iface
  deriving DecidableEq, Repr, Inhabited

inductive AOp where
  | mv (x : Operand)
  | pick (c a b : Operand)
  | nilCheck (x : Operand)
  | build (zero : List Value) (parts : List (Nat × Nat × Operand))
  | bin (op : BinOp) (x y : Operand)
  | eqv (k : EK) (neg : Bool) (x y : Operand)
  | eqFlat (neg : Bool) (ks : List LK) (x y : Operand)         -- aggregates of plain cells
  | un (op : UnOp) (x : Operand)
  | conv (k : IntKind) (x : Operand)
  | convStr (x : Operand)                         -- string to string
  | i2s (x : Operand)
  | b2s (x : Operand)
  | s2b (x : Operand)
  | mkIface (t : TypeId) (x : Operand)
  | mkFunc (fn : Fn) (first captured : List Operand)
  | addOff (x : Operand) (off : Nat)
  | field (x : Operand) (off : Nat) (n : Option Nat)
  | ixA (x i : Operand) (len size : Nat)
  | ixS (x i : Operand) (size : Nat)
  | ixV (x i : Operand) (len size : Nat) (n : Option Nat)
  | ixStr (x i : Operand)
  | slS (x : Operand) (lo hi mx : Option Operand) (size : Nat)
  | slA (x : Operand) (lo hi mx : Option Operand) (len size : Nat)
  | slStr (x : Operand) (lo hi : Option Operand)
  | extract (x : Operand) (i : Nat)
  | len (str : Bool) (x : Operand)
  | lenC (n : Nat)
  | minmax (isMax : Bool) (xs : List Operand)
  | load (x : Operand) (n : Option Nat)
  | lookup (ks : Bool × List LK) (m k : Operand) (zero : Value) (ok : Bool)
  | lenMap (m : Operand)
  | store (a v : Operand) (n : Nat)
  | mapUpdate (ks : Bool × List LK) (m k v : Operand)
  | mapEntry (ks : Bool × List LK) (m k : Operand) (zero : Value)
  | entryStore (m s v : Operand)
  | delete (ks : Bool × List LK) (m k : Operand)
  | append (s x : Operand) (size bytes : Nat)
  | copy (d s : Operand) (size : Nat)
  | clear (x : Operand) (zero : List Value)
  | call (f : FuncId) (args : List Operand)
  | callV (f : Operand) (args : List Operand)
  | invoke (r : Operand) (tbl : List (TypeId × FuncId)) (args : List Operand)
  | range (str : Bool) (x : Operand)
  | next (x : Operand)
  | nextM (x : Operand)
  | entry (x : Operand)
  | alloc (zero : List Value)
  | box (x : Operand)
  | mkLit (n size : Nat) (zero : List Value) (parts : List (Nat × Operand))
  | makeSlice (l c : Operand) (zero : List Value) (bytes : Nat)
  | makeMap
  deriving Inhabited

inductive Cls where | pure | heap | eff | alloc
  deriving DecidableEq, Repr, Inhabited

def AOp.cls : AOp → Cls
  | .load .. | .lookup .. | .lenMap .. | .b2s .. | .entry .. => .heap
  | .store .. | .mapUpdate .. | .mapEntry .. | .entryStore .. | .delete .. | .append .. | .copy .. | .clear .. | .call .. | .callV .. | .invoke .. | .range .. | .next .. | .nextM .. | .s2b .. => .eff
  | .alloc .. | .box .. | .mkLit .. | .makeSlice .. | .makeMap => .alloc
  | _ => .pure

/-- A value without addresses. -/
def closedP : Value → Bool
  | .bool _ | .int _ _ | .string _ | .pointer none | .slice none _ _ | .map none | .nilFunc | .nilIface => true
  | .func _ a b => a.isEmpty && b.isEmpty
  | _ => false
def closedV : Value → Bool
  | .agg cs => cs.toList.all closedP
  | .tuple cs => cs.toList.all closedP
  | .iface _ v => closedP v
  | v => closedP v
def opdOK (G : Nat) : Operand → Bool
  | .tmp _ => true
  | .const v => closedV v
  | .global g => Nat.blt g G
  | .func _ => true

structure AOper where
  dst : Option Nat
  op : AOp
  guard : Option (Nat × Bool)
  deriving Inhabited

/-- A step of a region whose order is open: the operation's number in the region, the slots that it looks at, the operation; the number of the block that it makes; the operations (by their bits) that are asked once more after it. -/
structure DStep where
  i : Nat
  sl : List Nat
  o : AOper
  j : Nat
  again : Nat
  deriving Inhabited

inductive ACode where
  | skip
  | ops (l : List AOper)
  | draw (nalloc : Nat) (l : List DStep)    -- a region whose order is open: one order, and what is asked once more
  | seq (a b : ACode)
  | cond (c : Operand) (a b : ACode)
  | block (id : Nat) (c : ACode)
  | loop (c : ACode)
  | exit (id : Nat)
  | ret
  deriving Inhabited

inductive ARes where
  | tmp (t : Nat)
  | cell (t : Nat) (n : Option Nat)
  deriving Inhabited

structure AFunc where
  code : ACode
  results : List ARes
  nparams : Nat
  deriving Inhabited

/- ---- compilation ---- -/

def tyOf (P : Program) (t : TypeId) : Option ATy :=
  match P.info? t, P.underlying t with
  | some i, some d => some (ATy.mk d i.size i.bytes i.zero)
  | _, _ => none

def tabFrom (P : Program) : Nat → Tab → Tab
  | 0, tab => tab
  | n + 1, tab => tabFrom P n (tab.upd n (tyOf P n))

def tabOf (P : Program) : Tab := tabFrom P P.types.size .leaf

def leafsF (f : TypeId → Option (List LK)) : List Field → Nat → Option (List LK)
  | [], _ => some []
  | fd :: l, off =>
    if fd.name = "_" ∨ fd.offset ≠ off then none else
    match f fd.type with
    | none => none
    | some ks => match leafsF f l (off + ks.length) with
      | none => none
      | some r => some (ks ++ r)

/-- The kinds of a type's cells, where all are plain (and none is blank). -/
def leafs (P : Program) (tab : Tab) : Nat → TypeId → Option (List LK)
  | 0, _ => none
  | d + 1, t =>
    match tab.get t with
    | none => none
    | some i =>
      match (match i.desc with
        | .bool => some [.b]
        | .int _ => some [.i]
        | .string => some [.s]
        | .struct fs => if P.stoodInHeld t then none else leafsF (leafs P tab d) fs.toList 0
        | .array n e => match leafs P tab d e with
          | some ks => some (List.replicate n ks).flatten
          | none => none
        | _ => none : Option (List LK)) with
      | some ks => if ks.length = i.size then some ks else none
      | none => none

/-- A type of keys: is it an aggregate, and its cells' kinds. -/
def keyT (P : Program) (tab : Tab) (kt : TypeId) : Option (Bool × List LK) :=
  match tab.get kt with
  | none => none
  | some i => match leafs P tab 20 kt with
    | none => none
    | some ks => some (isAggT i.desc, ks)

def aggN (tab : Tab) (t : TypeId) : Option (Option Nat) := do
  let i ← tab.get t
  pure (if isAggT i.desc then some i.size else none)

def zeroCs (i : ATy) : Option (List Value) := i.zero.map (·.cells.toList)

def callable (P : Program) (f : FuncId) : Bool :=
  match P.funcs[f]? with
  | some fn => fn.body.isSome && fn.name != "runtime.NumGoroutine"
  | none => false

def isPtrT : TypeDesc → Bool
  | .pointer _ => true
  | _ => false

/-- What an invoked method comes to at a type: a plain row, whose receiver is what the interface value holds. -/
def methodRow (P : Program) (name : String) (t : TypeId) : Option FuncId :=
  match P.info? t with
  | none => none
  | some i =>
    match i.methods.find? (·.name == name) with
    | none => none
    | some m =>
      if m.path.isEmpty then
        match m.func with
        | none => none
        | some (f, pr) =>
          match P.underlying t with
          | none => none
          | some d => if isPtrT d = pr then some f else none
      else none

/-- The same, type by type. -/
def methodRows (P : Program) (name : String) : List (TypeId × FuncId) :=
  (List.range P.types.size).filterMap fun t => (methodRow P name t).map fun f => (t, f)

def compileBuiltin (P : Program) (tab : Tab) (argTypes : Array TypeId) (i : ATy) (b : Builtin) (xs : List Operand) : Option AOp :=
  match b with
  | .len =>
    match xs with
    | [x] =>
      match i.desc with
      | .string => some (.len true x)
      | .slice _ => some (.len false x)
      | .array n _ => some (.lenC n)
      | .map _ _ => some (.lenMap x)
      | .pointer a =>
        match tab.get a with
        | some ia => match ia.desc with | .array n _ => some (.lenC n) | _ => none
        | none => none
      | _ => none
    | _ => none
  | .append =>
    match xs with
    | [s, x] =>
      match argTypes[1]? with
      | none => none
      | some u =>
        match tab.get u with
        | none => none
        | some iu =>
          match i.desc with
          | .slice e =>
            match tab.get e with
            | none => none
            | some j =>
              match zeroCs j with
              | none => none
              | some z =>
                if z.length ≠ j.size then none else
                match iu.desc with
                | .slice _ => some (.append s x j.size j.bytes)
                | .string => some (.append s x j.size j.bytes)
                | _ => none
          | _ => none
    | _ => none
  | .copy =>
    match xs with
    | [d, s] =>
      match i.desc with
      | .slice e => match tab.get e with | some j => some (.copy d s j.size) | none => none
      | _ => none
    | _ => none
  | .clear =>
    match xs with
    | [x] =>
      match i.desc with
      | .slice e =>
        match tab.get e with
        | some j => match zeroCs j with | some z => some (.clear x z) | none => none
        | none => none
      | _ => none
    | _ => none
  | .delete =>
    match xs with
    | [m, k] =>
      match i.desc with
      | .map kt _ => match keyT P tab kt with | some ks => some (.delete ks m k) | none => none
      | _ => none
    | _ => none
  | .min => some (.minmax false xs)
  | .max => some (.minmax true xs)
  | _ => none

def compileOp (P : Program) (tab : Tab) (mrows : String → List (TypeId × FuncId)) (o : Op) : Option AOp :=
  match o with
  | .move x | .assign x => some (.mv x)
  | .pick c a b => some (.pick c a b)
  | .alloc t => do let i ← tab.get t; let z ← zeroCs i; pure (.alloc z)
  | .box _ x => some (.box x)
  | .build t ps => do
    let i ← tab.get t
    let z ← zeroCs i
    match i.desc with
    | .struct fs =>
      let places ← fs.toList.mapM fun f => (tab.get f.type).map fun j => (f.offset, j.size)
      let parts ← ps.toList.mapM fun (p : Nat × Operand) => (places[p.1]?).map fun q => (q.1, q.2, p.2)
      pure (.build z parts)
    | .array _ e =>
      let j ← tab.get e
      pure (.build z (ps.toList.map fun (p : Nat × Operand) => (p.1 * j.size, j.size, p.2)))
    | _ => none
  | .buildSlice t n ps => do
    let i ← tab.get t
    match i.desc with
    | .slice e =>
      let j ← tab.get e
      let z ← zeroCs j
      if n * j.size > 2 ^ 24 || z.length != j.size || n > 2 ^ 24 then none else pure (.mkLit n j.size z (ps.toList.map fun (p : Nat × Operand) => (p.1 * j.size, p.2)))
    | _ => none
  | .insert t m k v | .mapUpdate t m k v => do
    let i ← tab.get t
    match i.desc with
    | .map kt _ => do let ks ← keyT P tab kt; pure (.mapUpdate ks m k v)
    | _ => none
  | .load t a => do pure (.load a (← aggN tab t))
  | .store t a v => do let i ← tab.get t; pure (.store a v i.size)
  | .nilCheck x => some (.nilCheck x)
  | .binOp op t x y _ => do
    let i ← tab.get t
    match op with
    | .eql | .neq =>
      match i.desc with
      | .int _ => pure (.bin op x y)
      | .string => pure (.bin op x y)
      | .struct _ => do let ks ← leafs P tab 20 t; pure (.eqFlat (op == .neq) ks x y)
      | .array _ _ => do let ks ← leafs P tab 20 t; pure (.eqFlat (op == .neq) ks x y)
      | .bool => pure (.eqv .bool (op == .neq) x y)
      | .pointer e => do let j ← tab.get e; if j.size = 0 then none else pure (.eqv .ptr (op == .neq) x y)
      | .slice _ => pure (.eqv .slice (op == .neq) x y)
      | .map _ _ => pure (.eqv .map (op == .neq) x y)
      | .func _ _ _ => pure (.eqv .func (op == .neq) x y)
      | .interface _ => pure (.eqv .iface (op == .neq) x y)
      | _ => none
    | _ => pure (.bin op x y)
  | .unOp op _ x => some (.un op x)
  | .convert s d x => do
    let i ← tab.get s
    let j ← tab.get d
    match i.desc, j.desc with
    | .int _, .int k => pure (.conv k x)
    | .string, .string => pure (.convStr x)
    | .int _, .string => pure (.i2s x)
    | .string, .slice e => do
      let m ← tab.get e
      match m.desc with | .int .u8 => pure (.s2b x) | _ => none
    | .slice e, .string => do
      let m ← tab.get e
      match m.desc with | .int .u8 => pure (.b2s x) | _ => none
    | _, _ => none
  | .makeInterface t x => do
    let i ← tab.get t
    match i.desc with | .interface _ => none | _ => pure (.mkIface t x)
  | .makeFunc fn a b => some (.mkFunc fn a.toList b.toList)
  | .makeMap _ none => some .makeMap
  | .makeMap .. => none
  | .makeSlice t l c => do
    let i ← tab.get t
    match i.desc with
    | .slice e => let j ← tab.get e; let z ← zeroCs j; if z.length != j.size then none else pure (.makeSlice l c z j.bytes)
    | _ => none
  | .slice t x lo hi mx => do
    let i ← tab.get t
    match i.desc with
    | .slice e => let j ← tab.get e; pure (.slS x lo hi mx j.size)
    | .array n e => let j ← tab.get e; pure (.slA x lo hi mx n j.size)
    | .string => if mx.isNone then pure (.slStr x lo hi) else none
    | _ => none
  | .fieldAddr t x f => do
    let i ← tab.get t
    match i.desc with
    | .struct fs =>
      let fd ← fs[f]?
      let j ← tab.get fd.type
      if j.size = 0 then none else pure (.addOff x fd.offset)
    | _ => none
  | .field t x f => do
    let i ← tab.get t
    match i.desc with
    | .struct fs => let fd ← fs[f]?; pure (.field x fd.offset (← aggN tab fd.type))
    | _ => none
  | .indexAddr t x ix => do
    let i ← tab.get t
    match i.desc with
    | .array n e => let j ← tab.get e; pure (.ixA x ix n j.size)
    | .slice e => let j ← tab.get e; pure (.ixS x ix j.size)
    | _ => none
  | .index t x ix => do
    let i ← tab.get t
    match i.desc with
    | .array n e => let j ← tab.get e; pure (.ixV x ix n j.size (← aggN tab e))
    | .string => pure (.ixStr x ix)
    | _ => none
  | .lookup t m k ok => do
    let i ← tab.get t
    match i.desc with
    | .map kt e => do let j ← tab.get e; let z ← j.zero; let ks ← keyT P tab kt; pure (.lookup ks m k z ok)
    | _ => none
  | .mapEntry t m k => do
    let i ← tab.get t
    match i.desc with
    | .map kt e => do let j ← tab.get e; let z ← j.zero; let ks ← keyT P tab kt; pure (.mapEntry ks m k z)
    | _ => none
  | .entryStore _ m s v => some (.entryStore m s v)
  | .range t x => do
    let i ← tab.get t
    match i.desc with
    | .string => some (.range true x)
    | .map _ _ => some (.range false x)
    | _ => none
  | .next x true => some (.next x)
  | .next x false => some (.nextM x)
  | .entry x => some (.entry x)
  | .extract x i => some (.extract x i)
  | .call c =>
    match c.callee with
    | .value (.func f) => if callable P f then some (.call f c.args.toList) else none
    | .value f => some (.callV f c.args.toList)
    | .invoke r m => some (.invoke r (mrows m) c.args.toList)
    | .builtin b => do
      let xs := c.args.toList
      let t ← c.argTypes[0]?
      let i ← tab.get t
      compileBuiltin P tab c.argTypes i b xs
  | _ => none

def dstOK (N : Nat) : Option Tmp → Bool
  | some d => Nat.blt d N
  | none => true

def compileOper (P : Program) (tab : Tab) (mrows : String → List (TypeId × FuncId)) (N : Nat) (ops : Array Oper) (o : Oper) : Option AOper :=
  match compileOp P tab mrows o.op with
  | none => none
  | some op =>
    if o.op.operands.toList.all (opdOK P.globals.size) && dstOK N o.dst then
      match o.guard with
      | none => some { dst := o.dst, op, guard := none }
      | some (j, b) =>
        match ops[j]? with
        | none => none
        | some oj => match oj.dst with
          | none => none
          | some d => some { dst := o.dst, op, guard := some (d, b) }
    else none

/-- An order for a region whose order is open: what only computes or reads as early as may be, blocks as late as may be. -/
def orderOf (cls : Array Cls) (before : Array Nat) : Nat → Nat → List Nat → List Nat
  | 0, _, acc => acc.reverse
  | fuel + 1, done, acc =>
    let n := cls.size
    let ready (i : Nat) : Bool := !done.testBit i && (before.getD i 0) &&& done == before.getD i 0
    let all := List.range n
    match all.find? (fun i => ready i && (cls.getD i .pure == .pure || cls.getD i .pure == .heap)) with
    | some i => orderOf cls before fuel (done ||| 2 ^ i) (i :: acc)
    | none =>
      match all.find? (fun i => ready i && cls.getD i .pure == .eff) with
      | some i => orderOf cls before fuel (done ||| 2 ^ i) (i :: acc)
      | none =>
        let least := all.find? (fun i => !done.testBit i && cls.getD i .pure == .eff)
        match all.find? (fun i => ready i && cls.getD i .pure == .alloc && (match least with | some e => (before.getD e 0).testBit i | none => true)) with
        | some i => orderOf cls before fuel (done ||| 2 ^ i) (i :: acc)
        | none => acc.reverse

/-- How many of a list's first ones satisfy something. -/
def idxIn (l : List Nat) (i : Nat) : Nat := (l.idxOf? i).getD l.length

def opdTmp : Operand → Option Nat
  | .tmp t => some t
  | _ => none

/-- The operations that an operation comes after, whatever the order. -/
def maskOf (ops : Array Oper) (T : Tr Nat) (i : Nat) : Nat :=
  match ops[i]? with
  | some o => o.after.toList.foldl (fun acc e => if Region.binds .any e then (acc ||| 2 ^ e.on) ||| (T.get e.on).getD 0 else acc) 0
  | none => 0

/-- Since the last effect only what computes or reads; and the operation comes after that effect. -/
def gapClean (M : Nat) : List DStep → Bool
  | [] => true
  | y :: u => match y.o.op.cls with
    | .eff => M.testBit y.i
    | .alloc => M.testBit y.i && gapClean M u
    | _ => gapClean M u

def isHeap : Cls → Bool
  | .heap => true
  | _ => false

def clsStep (M n : Nat) (u : List DStep) (x : DStep) : Bool :=
  match x.o.op.cls with
  | .pure => true
  | .heap => gapClean M u
  | .eff => u.all fun y => match y.o.op.cls with
    | .pure => true
    | .heap => M.testBit y.i || x.again.testBit y.i
    | _ => M.testBit y.i
  | .alloc => x.o.guard.isNone && Nat.blt x.j n && u.all (fun y => match y.o.op.cls with | .alloc => !(Nat.beq y.j x.j) | _ => true)

def okStep (ops : Array Oper) (M n : Nat) (u : List DStep) (x : DStep) : Bool :=
  (match ops[x.i]? with
   | some o => o.after.toList.all fun e => !Region.binds .any e || u.any fun y => Nat.beq y.i e.on
   | none => false) &&
  u.all (fun y => !(Nat.beq y.i x.i)) &&
  u.all (fun y => match y.o.dst with
    | some d => (!(x.sl.contains d) || M.testBit y.i) && !(x.o.dst == some d)
    | none => true) &&
  (match x.o.dst with
   | some d => !(x.sl.contains d) && u.all (fun y => !(y.sl.contains d) || (M.testBit y.i && !(isHeap y.o.op.cls)))
   | none => true) &&
  clsStep M n u x

def chkSteps (ops : Array Oper) (n : Nat) : Tr Nat → List DStep → List DStep → Bool
  | _, _, [] => true
  | T, u, x :: v => okStep ops (maskOf ops T x.i) n u x && chkSteps ops n (T.set x.i (maskOf ops T x.i)) (x :: u) v

def chkDraw (ops : Array Oper) (n : Nat) (steps : List DStep) : Bool :=
  chkSteps ops n .leaf [] steps && (List.range ops.size).all fun i => steps.any fun y => Nat.beq y.i i

def buildSteps (ops : Array Oper) (l : Array AOper) (js : Nat → Nat) (again : Nat → Nat) : List Nat → Option (List DStep)
  | [] => some []
  | i :: is =>
    match ops[i]?, l[i]? with
    | some o, some ao =>
      match buildSteps ops l js again is with
      | some r => some ({ i, sl := o.op.operands.toList.filterMap opdTmp ++ (match ao.guard with | some (g, _) => [g] | none => []), o := ao, j := js i, again := again i } :: r)
      | none => none
    | _, _ => none

def compileDraw (ops : Array Oper) (l : List AOper) : Option ACode :=
  let cls := (l.map fun o => o.op.cls).toArray
  let before := Region.before ops
  let order := orderOf cls before (l.length + 1) 0 []
  let allocs := order.filter fun i => cls.getD i .pure == .alloc
  let heaps := order.filter fun i => cls.getD i .pure == .heap
  let again (e : Nat) : Nat := heaps.foldl (fun acc y => if (before.getD e 0).testBit y then acc else acc ||| 2 ^ y) 0
  match buildSteps ops l.toArray (idxIn allocs) again order with
  | some steps => if chkDraw ops allocs.length steps then some (.draw allocs.length steps) else none
  | none => none

def compileRegion (P : Program) (tab : Tab) (mrows : String → List (TypeId × FuncId)) (N : Nat) (ops : Array Oper) (draw : Bool) : Option ACode :=
  match ops.toList.mapM (compileOper P tab mrows N ops) with
  | none => none
  | some l => if draw then compileDraw ops l else some (.ops l)

def compile (P : Program) (tab : Tab) (mrows : String → List (TypeId × FuncId)) (N : Nat) : Code → Option ACode
  | .skip => some .skip
  | .region _ ops d => compileRegion P tab mrows N ops d
  | .seq a b => do pure (.seq (← compile P tab mrows N a) (← compile P tab mrows N b))
  | .cond c a b => do pure (.cond c (← compile P tab mrows N a) (← compile P tab mrows N b))
  | .block id c => do pure (.block id (← compile P tab mrows N c))
  | .loop c => do pure (.loop (← compile P tab mrows N c))
  | .exit id => some (.exit id)
  | .ret => some .ret
  | .scope c => compile P tab mrows N c
  | .label _ => some .skip
  | _ => none

def compileRes (tab : Tab) : ResultVar → Option ARes
  | .tmp t => some (ARes.tmp t)
  | .cell t ty => match aggN tab ty with
    | some n => some (ARes.cell t n)
    | none => none

def compileFunc (P : Program) (tab : Tab) (mrows : String → List (TypeId × FuncId)) (fn : Func) : Option AFunc := do
  let c ← fn.body
  let code ← compile P tab mrows fn.ntmps c
  let rs ← fn.results.toList.mapM (compileRes tab)
  pure { code, results := rs, nparams := fn.params.size + fn.nfree }

end Go.AM
