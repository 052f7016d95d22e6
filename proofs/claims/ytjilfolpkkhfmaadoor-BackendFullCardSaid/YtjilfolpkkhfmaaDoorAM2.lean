/- The abstract interpreter: execution. -/
import Derived.Test.YtjilfolpkkhfmaaDoorAM1
namespace Go.AM

def ev (t : Tr Value) : Operand → Option Value
  | .tmp s => t.get s
  | .const v => some v
  | .global g => some (.pointer (some ⟨g, 0, none⟩))
  | .func f => some (.func (.func f) #[] #[])

def evs (t : Tr Value) : List Operand → Option (List Value)
  | [] => some []
  | x :: l => do
    let v ← ev t x
    let vs ← evs t l
    pure (v :: vs)

def evO (t : Tr Value) : Option Operand → Option (Option Value)
  | none => some none
  | some x => do let v ← ev t x; pure (some v)

/-- Equality of values that hold no function. -/
def eqP : Value → Value → Bool
  | .bool a, .bool b => a == b
  | .int j a, .int k b => decide (j = k) && decide (a = b)
  | .string a, .string b => decide (a.data.toList = b.data.toList)
  | .pointer a, .pointer b => decide (a = b)
  | .slice a l c, .slice b m d => decide (a = b) && decide (l = m) && decide (c = d)
  | .map a, .map b => decide (a = b)
  | .nilFunc, .nilFunc => true
  | .nilIface, .nilIface => true
  | _, _ => false

def eqI : Value → Value → Bool
  | .iface t v, .iface u w => decide (t = u) && eqP v w
  | a, b => eqP a b

def eqL (f : Value → Value → Bool) : List Value → List Value → Bool
  | [], [] => true
  | a :: l, b :: m => f a b && eqL f l m
  | _, _ => false

def vEq : Value → Value → Bool
  | .agg a, .agg b => eqL eqI a.toList b.toList
  | .tuple a, .tuple b => eqL eqI a.toList b.toList
  | a, b => eqI a b

/-- Equality of plain cells. -/
def eqLK : LK → Value → Value → Option Bool
  | .b, .bool a, .bool b => some (a == b)
  | .i, .int j a, .int k b => if j = k then some (a == b) else none
  | .s, .string a, .string b => some (a.toList == b.toList)
  | _, _, _ => none

def eqLKs : List LK → List Value → List Value → Option Bool
  | [], [], [] => some true
  | k :: ks, a :: l, b :: m =>
    match eqLK k a b, eqLKs ks l m with
    | some x, some y => some (x && y)
    | _, _ => none
  | _, _, _ => none

def eqFlat (ks : List LK) : Value → Value → Option Bool
  | .agg a, .agg b => eqLKs ks a.toList b.toList
  | a, b => match ks with
    | [k] => eqLK k a b
    | _ => none

def intArith (op : BinOp) (k : IntKind) (a b : Int) : Option Value :=
  match op with
  | .add => some (.int k (k.wrap (a + b)))
  | .sub => some (.int k (k.wrap (a - b)))
  | .mul => some (.int k (k.wrap (a * b)))
  | .quo => if b = 0 then none else some (.int k (k.wrap (a.tdiv b)))
  | .rem => if b = 0 then none else some (.int k (a.tmod b))
  | .and => some (.int k (k.wrap (BitVec.ofInt k.bits a &&& BitVec.ofInt k.bits b).toNat))
  | .or => some (.int k (k.wrap (BitVec.ofInt k.bits a ||| BitVec.ofInt k.bits b).toNat))
  | .xor => some (.int k (k.wrap (BitVec.ofInt k.bits a ^^^ BitVec.ofInt k.bits b).toNat))
  | .andNot => some (.int k (k.wrap (BitVec.ofInt k.bits a &&& ~~~(BitVec.ofInt k.bits b)).toNat))
  | .eql => some (.bool (a == b))
  | .neq => some (.bool (a != b))
  | .lss => some (.bool (decide (a < b)))
  | .leq => some (.bool (decide (a ≤ b)))
  | .gtr => some (.bool (decide (a > b)))
  | .geq => some (.bool (decide (a ≥ b)))
  | _ => none

def strOp (op : BinOp) (x y : ByteArray) : Option Value :=
  match op with
  | .add => if x.size + y.size < 2 ^ 63 then some (.string (x ++ y)) else none
  | .eql => some (.bool (x.toList == y.toList))
  | .neq => some (.bool (!(x.toList == y.toList)))
  | .lss => some (.bool (Op.bytesLess x.toList y.toList))
  | .leq => some (.bool (Op.bytesLess x.toList y.toList || x.toList == y.toList))
  | .gtr => some (.bool (!(Op.bytesLess x.toList y.toList || x.toList == y.toList)))
  | .geq => some (.bool (!(Op.bytesLess x.toList y.toList)))
  | _ => none

def binV (op : BinOp) : Value → Value → Option Value
  | .int k a, .int k' b =>
    match op with
    | .shl => if b < 0 then none else some (.int k (k.wrap (a * 2 ^ (min b.toNat k.bits))))
    | .shr => if b < 0 then none else some (.int k (a.fdiv (2 ^ (min b.toNat k.bits))))
    | _ => if k = k' then intArith op k a b else none
  | .string a, .string b => strOp op a b
  | _, _ => none

def unV (op : UnOp) : Value → Option Value
  | .int k n =>
    match op with
    | .neg => some (.int k (k.wrap (0 - n)))
    | .xor => some (.int k (k.wrap (BitVec.ofInt k.bits (if k.signed then -1 else k.max) ^^^ BitVec.ofInt k.bits n).toNat))
    | _ => none
  | .bool b => match op with | .not => some (.bool !b) | _ => none
  | _ => none

def addOff (n : Nat) : Value → Option Value
  | .pointer (some ⟨b, o, none⟩) => some (.pointer (some ⟨b, o + n, none⟩))
  | _ => none

def fieldV (off : Nat) (n : Option Nat) : Value → Option Value
  | .agg cs =>
    match n with
    | none => cs[off]?
    | some n => some (.agg (cs.extract off (off + n)))
  | _ => none

def fillA : List Value → List (Nat × Nat × Value) → Option (List Value)
  | cs, [] => some cs
  | cs, (off, size, v) :: l =>
    if v.cells.size ≠ size || off + v.cells.size > cs.length then none
    else fillA (v.cells.toList.zipIdx.foldl (fun cs (c, j) => cs.set (off + j) c) cs) l

def evParts (t : Tr Value) : List (Nat × Nat × Operand) → Option (List (Nat × Nat × Value))
  | [] => some []
  | (o, s, x) :: l => do
    let v ← ev t x
    let r ← evParts t l
    pure ((o, s, v) :: r)

/-- Bounds of a slice expression; 'least': what the capacity is at least. -/
def bnd (v : Value) (y : Nat) : Option Nat :=
  match v with
  | .int _ i => if 0 ≤ i ∧ i ≤ y then some i.toNat else none
  | _ => none

def bndO (o : Option Value) (y d : Nat) : Option Nat :=
  match o with
  | some v => bnd v y
  | none => some d

def bnds (len cap : Nat) (lo hi mx : Option Value) : Option (Nat × Nat × Nat) :=
  match bndO mx cap cap with
  | none => none
  | some m => match (if mx.isSome && hi.isNone then none else bndO hi m len) with
    | none => none
    | some h => match bndO lo h 0 with
      | none => none
      | some l => some (l, h, m)

/-- A slice of a slice whose capacity is known. -/
def slK (a : Option Addr) (len cap : Nat) (lo hi mx : Option Value) (size : Nat) : Option Value :=
  match bnds len cap lo hi mx with
  | some (l, h, m) => some (.slice (if m = l then a else a.map (·.add (l * size))) (h - l) (m - l))
  | none => none

/-- The same where the capacity is not known: what is asked must lie within the length; what begins at the length is not told. -/
def slX (a : Option Addr) (len : Nat) (lo hi mx : Option Value) (size : Nat) : Option Value :=
  match a with
  | none => none
  | some a =>
    match bnds len len lo hi mx with
    | none => none
    | some (l, h, m) =>
      if mx.isSome then (if m < CAPX then some (.slice (some (if m = l then a else a.add (l * size))) (h - l) (m - l)) else none)
      else if l = 0 then some (.slice (some a) h (CAPX + size))
      else if l < len then some (.slice (some (a.add (l * size))) (h - l) (CAPX + size)) else none

def ixv (i : Value) (len : Nat) : Option Nat :=
  match i with
  | .int _ i => if 0 ≤ i ∧ i < len then some i.toNat else none
  | _ => none

def minmaxV (isMax : Bool) : Value → List Value → Option Value
  | v, [] => some v
  | .int k x, .int _ y :: l => minmaxV isMax (.int k (if (if isMax then decide (y > x) else decide (y < x)) then y else x)) l
  | _, _ => none

/-- '==' by the values' forms. -/
def eqvV : EK → Value → Value → Option Bool
  | .bool, .bool a, .bool b => some (a == b)
  | .ptr, .pointer none, .pointer b => some b.isNone
  | .ptr, .pointer (some _), .pointer none => some false
  | .ptr, .pointer (some a), .pointer (some b) => if a.block = b.block then some (a.off == b.off) else none
  | .iface, .nilIface, .iface _ _ => some false
  | .iface, .iface _ _, .nilIface => some false
  | .slice, .slice none _ _, .slice b _ _ => some b.isNone
  | .slice, .slice (some _) _ _, .slice none _ _ => some false
  | .map, .map none, .map b => some b.isNone
  | .map, .map (some _), .map none => some false
  | .func, .nilFunc, .nilFunc => some true
  | .func, .nilFunc, .func _ _ _ => some false
  | .func, .func _ _ _, .nilFunc => some false
  | _, _, _ => none

def isConst : Operand → Bool
  | .const _ => true
  | _ => false

def isNilI : Value → Bool
  | .nilIface => true
  | _ => false

/-- '==', '!=' of two operands: two nil values of an interface type only beside the literal nil. -/
def eqvO (k : EK) (neg : Bool) (c : Bool) (a b : Value) : Option Value :=
  if isNilI a && isNilI b then (if c && k == .iface then some (.bool (!neg)) else none)
  else match eqvV k a b with
    | some r => some (.bool (if neg then !r else r))
    | none => none

/-- What only computes. -/
def runPure (t : Tr Value) : AOp → Option Value
  | .mv x => ev t x
  | .pick c a b => do
    match ← ev t c with
    | .bool c => if c then ev t a else ev t b
    | _ => none
  | .nilCheck x => do
    match ← ev t x with
    | .pointer (some a) => some (.pointer (some a))
    | .func (.func f) a b => some (.func (.func f) a b)
    | .iface t v => some (.iface t v)
    | _ => none
  | .build z ps => do
    let ps ← evParts t ps
    let cs ← fillA z ps
    pure (.agg cs.toArray)
  | .bin op x y => do
    let a ← ev t x
    let b ← ev t y
    binV op a b
  | .eqFlat neg ks x y => do
    let a ← ev t x
    let b ← ev t y
    match a, b with
    | .agg xs, .agg ys => do
      let r ← eqLKs ks xs.toList ys.toList
      pure (.bool (if neg then !r else r))
    | _, _ => none
  | .eqv k neg x y => do
    let a ← ev t x
    let b ← ev t y
    eqvO k neg (isConst x || isConst y) a b
  | .un op x => do
    let a ← ev t x
    unV op a
  | .conv k x => do
    match ← ev t x with
    | .int _ n => some (.int k (k.wrap n))
    | _ => none
  | .convStr x => do
    match ← ev t x with
    | .string s => some (.string s)
    | _ => none
  | .i2s x => do
    match ← ev t x with
    | .int _ n => some (.string (Utf8.encode n))
    | _ => none
  | .mkIface ty x => do
    let v ← ev t x
    pure (.iface ty v)
  | .mkFunc fn a b => do
    let a ← evs t a
    let b ← evs t b
    pure (.func fn a.toArray b.toArray)
  | .addOff x off => do
    let v ← ev t x
    addOff off v
  | .field x off n => do
    let v ← ev t x
    fieldV off n v
  | .ixA x i len size => do
    let v ← ev t x
    let i ← ev t i
    let k ← ixv i len
    addOff (k * size) v
  | .ixS x i size => do
    let v ← ev t x
    let i ← ev t i
    match v with
    | .slice (some a) len _ => do
      let k ← ixv i len
      addOff (k * size) (.pointer (some a))
    | _ => none
  | .ixV x i len size n => do
    let v ← ev t x
    let i ← ev t i
    let k ← ixv i len
    fieldV (k * size) n v
  | .ixStr x i => do
    let v ← ev t x
    let i ← ev t i
    match v with
    | .string s => do
      let k ← ixv i s.size
      let b ← s.data[k]?
      pure (.int .u8 b.toNat)
    | _ => none
  | .slS x lo hi mx size => do
    let v ← ev t x
    let lo ← evO t lo
    let hi ← evO t hi
    let mx ← evO t mx
    match v with
    | .slice a len cap => if cap < CAPX then slK a len cap lo hi mx size else if cap = CAPX + size then slX a len lo hi mx size else none
    | _ => none
  | .slA x lo hi mx len size => do
    let v ← ev t x
    let lo ← evO t lo
    let hi ← evO t hi
    let mx ← evO t mx
    match v with
    | .pointer (some a) => if len < CAPX then slK (some a) len len lo hi mx size else none
    | _ => none
  | .slStr x lo hi => do
    let v ← ev t x
    let lo ← evO t lo
    let hi ← evO t hi
    match v with
    | .string s =>
      match bnds s.size s.size lo hi none with
      | some (l, h, _) => some (.string (s.extract l h))
      | none => none
    | _ => none
  | .extract x i => do
    match ← ev t x with
    | .tuple vs => vs[i]?
    | _ => none
  | .len str x => do
    match ← ev t x with
    | .string s => if str then some (goInt s.size) else none
    | .slice _ n _ => if str then none else some (goInt n)
    | _ => none
  | .lenC n => some (goInt n)
  | .minmax isMax xs => do
    match ← evs t xs with
    | .int k n :: l => minmaxV isMax (.int k n) l
    | _ => none
  | _ => none

/- maps -/
def findE (ks : List LK) (k : Value) : List MapEntry → Nat → Option (Option (Nat × MapEntry))
  | [], _ => some none
  | e :: es, i =>
    match eqFlat ks k e.key with
    | some true => some (some (i, e))
    | some false => findE ks k es (i + 1)
    | none => none

def isAggB : Value → Bool
  | .agg _ => true
  | _ => false

/-- The search for a key of a type. -/
def find (kt : Bool × List LK) (k : Value) (es : List MapEntry) : Option (Option (Nat × MapEntry)) :=
  if isAggB k = kt.1 ∧ (eqFlat kt.2 k k).isSome = true then findE kt.2 k es 0 else none

def bytesOfV (l : List Value) : Option (List UInt8) :=
  match l with
  | [] => some []
  | .int .u8 n :: l => do let r ← bytesOfV l; pure (UInt8.ofNat n.toNat :: r)
  | _ => none

def loadV (σ : Sto) (n : Option Nat) : Value → Option Value
  | .pointer (some ⟨b, o, none⟩) =>
    match n with
    | none => σ.load b o
    | some n => match σ.loads b o n with
      | some vs => some (.agg vs.toArray)
      | none => none
  | _ => none

/-- The entries of a map. -/
def mapEs (σ : Sto) : Value → Option (List MapEntry)
  | .map none => some []
  | .map (some r) => match σ.objs.get r with | some (.map es _) => some es | _ => none
  | _ => none

def lookupV (σ : Sto) (ks : Bool × List LK) (z : Value) (ok : Bool) (m k : Value) : Option Value :=
  match mapEs σ m with
  | none => none
  | some es => match find ks k es with
    | none => none
    | some none => some (if ok then .tuple #[z, .bool false] else z)
    | some (some (_, e)) => some (if ok then .tuple #[e.val, .bool true] else e.val)

def entryV (σ : Sto) : Value → Option Value
  | .pointer (some ⟨b, 0, none⟩) =>
    match σ.objs.get b with
    | some (.miter (some m) _ seen stepped) =>
      match seen.getLast? with
      | none => none
      | some stamp => match σ.objs.get m with
        | some (.map es clock) =>
          if clock = stepped then
            match es.find? (·.born == stamp) with
            | some e => some (.tuple #[e.key, e.val])
            | none => none
          else none
        | _ => none
    | _ => none
  | _ => none

def b2sV (σ : Sto) : Value → Option Value
  | .slice none _ _ => some (.string .empty)
  | .slice (some ⟨b, o, none⟩) len _ =>
    match σ.loads b o len with
    | none => none
    | some vs => match bytesOfV vs with
      | none => none
      | some bs => some (.string ⟨bs.toArray⟩)
  | _ => none

def runHeap (t : Tr Value) (σ : Sto) : AOp → Option Value
  | .load x n => match ev t x with
    | some v => loadV σ n v
    | none => none
  | .lookup ks m k z ok => match ev t m, ev t k with
    | some m, some k => lookupV σ ks z ok m k
    | _, _ => none
  | .lenMap m => match ev t m with
    | some m => match mapEs σ m with
      | some es => some (goInt es.length)
      | none => none
    | none => none
  | .entry x => match ev t x with
    | some v => entryV σ v
    | none => none
  | .b2s x => match ev t x with
    | some v => b2sV σ v
    | none => none
  | _ => none

def zeroRow (z : List Value) (n : Nat) : List Value := (List.range (n * z.length)).map fun i => z.getD (i % z.length) undef

def asNat (v : Value) : Option Nat :=
  match v with
  | .int _ n => if 0 ≤ n then some n.toNat else none
  | _ => none

/-- A new block: its object, and the value that tells it, by its number. -/
def runAlloc (t : Tr Value) : AOp → Option (AObj × (Nat → Value))
  | .alloc z => some (.cells z.length z .leaf .fixed, fun b => .pointer (some ⟨b, 0, none⟩))
  | .box x => do
    let v ← ev t x
    let cs := v.cells.toList
    pure (.cells cs.length [] (Tr.ofList cs 0 .leaf) .fixed, fun b => .pointer (some ⟨b, 0, none⟩))
  | .mkLit n size z ps => do
    let ps ← evParts t (ps.map fun (o, x) => (o, size, x))
    let cs ← fillA (zeroRow z n) ps
    if cs.length = n * size then pure (.cells cs.length [] (Tr.ofList cs 0 .leaf) .fixed, fun b => .slice (some ⟨b, 0, none⟩) n n) else none
  | .makeSlice l c z bytes => do
    let l ← ev t l
    let c ← ev t c
    let l ← asNat l
    let c ← asNat c
    if l ≤ c ∧ c * bytes ≤ 2 ^ 48 ∧ c < 2 ^ 63 then pure (.cells (c * z.length) z .leaf .fixed, fun b => .slice (some ⟨b, 0, none⟩) l c) else none
  | .makeMap => some (.map [] 0, fun b => .map (some b))
  | _ => none

/-- The elements that append and copy take. -/
def elemsOf (σ : Sto) (size n : Nat) : Value → Option (List Value)
  | .slice none _ _ => some []
  | .slice (some ⟨b, o, none⟩) _ _ => σ.loads b o (n * size)
  | .string s => some ((s.data.toList.take n).map fun b => .int .u8 b.toNat)
  | _ => none

def lenV : Value → Option Nat
  | .slice _ n _ => some n
  | .string s => some s.size
  | _ => none

def runAppend (σ : Sto) (size bytes : Nat) (s x : Value) : Option (Value × Sto) :=
  match lenV x with
  | none => none
  | some n =>
  match elemsOf σ size n x with
  | none => none
  | some new =>
  match s with
  | .slice base sLen cap =>
    if (sLen + n) * bytes > 2 ^ 46 ∨ sLen + n ≥ 2 ^ 62 ∨ size = 0 ∨ bytes = 0 ∨ new.any Sto.isAggV = true ∨ new.length ≠ n * size then none
    else match base with
    | none =>
      if sLen ≠ 0 ∨ cap ≠ 0 then none
      else if n = 0 then some (.slice none 0 0, σ)
      else some (.slice (some ⟨σ.next, 0, none⟩) (sLen + n) (CAPX + size), { next := σ.next + 1, objs := σ.objs.set σ.next (.cells new.length [] (Tr.ofList new 0 .leaf) .grow) })
    | some ⟨b, o, none⟩ =>
      if cap < CAPX then
        if sLen + n ≤ cap then
          match σ.stores b (o + sLen * size) new with
          | some σ => some (.slice (some ⟨b, o, none⟩) (sLen + n) cap, σ)
          | none => none
        else
          match σ.loads b o (sLen * size) with
          | some old => some (.slice (some ⟨σ.next, 0, none⟩) (sLen + n) (CAPX + size), { next := σ.next + 1, objs := σ.objs.set σ.next (.cells (old ++ new).length [] (Tr.ofList (old ++ new) 0 .leaf) .grow) })
          | none => none
      else if cap = CAPX + size then
        match σ.objs.get b with
        | some (.cells m z c .grow) =>
          if o + (sLen + n) * size ≤ m then
            match σ.stores b (o + sLen * size) new with
            | some σ => some (.slice (some ⟨b, o, none⟩) (sLen + n) cap, σ)
            | none => none
          else
            match σ.loads b o (sLen * size) with
            | none => none
            | some old =>
              -- a block that goes on whole keeps its trie
              if o = 0 ∧ sLen * size = m then
                some (.slice (some ⟨σ.next, 0, none⟩) (sLen + n) cap, { next := σ.next + 1, objs := (σ.objs.set σ.next (.cells ((sLen + n) * size) z (Tr.ofList new (sLen * size) c) .grow)).upd b none })
              else
                some (.slice (some ⟨σ.next, 0, none⟩) (sLen + n) cap, { next := σ.next + 1, objs := (σ.objs.set σ.next (.cells (old ++ new).length [] (Tr.ofList (old ++ new) 0 .leaf) .grow)).upd b none })
        | _ => none
      else none
    | _ => none
  | _ => none

abbrev CallF := FuncId → List Value → Sto → Option (Value × Sto)

def storeV (σ : Sto) (n : Nat) (a v : Value) : Option (Value × Sto) :=
  match a with
  | .pointer (some ⟨b, o, none⟩) =>
    if v.cells.size = n then
      match σ.stores b o v.cells.toList with
      | some σ => some (undef, σ)
      | none => none
    else none
  | _ => none

def setObj (σ : Sto) (r : Nat) (o : AObj) : Sto := { σ with objs := σ.objs.set r o }

def mapUpdateV (σ : Sto) (ks : Bool × List LK) (m k v : Value) : Option (Value × Sto) :=
  match m with
  | .map (some r) =>
    match σ.objs.get r with
    | some (.map es clock) =>
      match find ks k es with
      | none => none
      | some (some (i, _)) => some (undef, setObj σ r (.map (es.modify i fun e => { e with key := k, val := v }) clock))
      | some none => some (undef, setObj σ r (.map (es ++ [{ key := k, val := v, born := clock }]) (clock + 1)))
    | _ => none
  | _ => none

def mapEntryV (σ : Sto) (ks : Bool × List LK) (z m k : Value) : Option (Value × Sto) :=
  match m with
  | .map (some r) =>
    match σ.objs.get r with
    | some (.map es clock) =>
      match find ks k es with
      | none => none
      | some (some (i, e)) => some (.tuple #[e.val, goInt e.born], setObj σ r (.map (es.modify i fun e => { e with key := k }) clock))
      | some none => some (.tuple #[z, goInt clock], setObj σ r (.map (es ++ [{ key := k, val := z, born := clock }]) (clock + 1)))
    | _ => none
  | _ => none

def entryStoreV (σ : Sto) (m s v : Value) : Option (Value × Sto) :=
  match m with
  | .map (some r) =>
    match s with
    | .int _ s =>
      match σ.objs.get r with
      | some (.map es clock) =>
        match es.findIdx? (fun e => (e.born : Int) == s) with
        | some i => some (undef, setObj σ r (.map (es.modify i fun e => { e with val := v }) clock))
        | none => none
      | _ => none
    | _ => none
  | _ => none

def deleteV (σ : Sto) (ks : Bool × List LK) (m k : Value) : Option (Value × Sto) :=
  match m with
  | .map (some r) =>
    match σ.objs.get r with
    | some (.map es clock) =>
      match find ks k es with
      | none => none
      | some (some (i, _)) => some (.tuple #[], setObj σ r (.map (es.eraseIdx i) clock))
      | some none => some (.tuple #[], setObj σ r (.map es clock))
    | _ => none
  | _ => none

def copyV (σ : Sto) (size : Nat) (d s : Value) : Option (Value × Sto) :=
  match lenV s with
  | none => none
  | some ns =>
  match d with
  | .slice base dLen _ =>
    match elemsOf σ size (Nat.min ns dLen) s with
    | none => none
    | some cs =>
      match base with
      | none => some (goInt (Nat.min ns dLen), σ)
      | some ⟨b, o, none⟩ =>
        match σ.stores b o cs with
        | some σ => some (goInt (Nat.min ns dLen), σ)
        | none => none
      | _ => none
  | _ => none

def clearV (σ : Sto) (z : List Value) : Value → Option (Value × Sto)
  | .slice none _ _ => some (.tuple #[], σ)
  | .slice (some ⟨b, o, none⟩) n _ =>
    if n = 0 then some (.tuple #[], σ) else
    match σ.stores b o (zeroRow z n) with
    | some σ => some (.tuple #[], σ)
    | none => none
  | _ => none

def newObj (σ : Sto) (o : AObj) : Sto := { next := σ.next + 1, objs := σ.objs.set σ.next o }

def rangeV (σ : Sto) : Bool → Value → Option (Value × Sto)
  | true, .string s => some (.pointer (some ⟨σ.next, 0, none⟩), newObj σ (.siter s 0))
  | false, .map none => some (.pointer (some ⟨σ.next, 0, none⟩), newObj σ (.miter none 0 [] 0))
  | false, .map (some m) =>
    match σ.objs.get m with
    | some (.map _ clock) => some (.pointer (some ⟨σ.next, 0, none⟩), newObj σ (.miter (some m) clock [] clock))
    | _ => none
  | _, _ => none

def nextMV (σ : Sto) : Value → Option (Value × Sto)
  | .pointer (some ⟨b, 0, none⟩) =>
    match σ.objs.get b with
    | some (.miter none _ _ _) => some (.tuple #[.bool false], σ)
    | some (.miter (some m) since seen last) =>
      match σ.objs.get m with
      | some (.map es clock) =>
        if !seen.isEmpty && !es.isEmpty && es.all (fun e => decide (e.born ≥ last)) then none else
        match es.filter fun e => !seen.contains e.born with
        | [] => some (.tuple #[.bool false], σ)
        | [e] => if e.born < since then some (.tuple #[.bool true, e.key, e.val], setObj σ b (.miter (some m) since (seen ++ [e.born]) clock)) else none
        | _ => none
      | _ => none
    | _ => none
  | _ => none

def nextV (σ : Sto) : Value → Option (Value × Sto)
  | .pointer (some ⟨b, 0, none⟩) =>
    match σ.objs.get b with
    | some (.siter s pos) =>
      if pos < s.size then
        some (.tuple #[.bool true, goInt pos, .int .i32 (Utf8.decode s pos).1], setObj σ b (.siter s (pos + (Utf8.decode s pos).2)))
      else some (.tuple #[.bool false], σ)
    | _ => none
  | _ => none

def s2bV (σ : Sto) : Value → Option (Value × Sto)
  | .string s =>
    some (.slice (some ⟨σ.next, 0, none⟩) s.size (CAPX + 1), newObj σ (.cells s.size [] (Tr.ofList (s.data.toList.map fun b => Value.int .u8 b.toNat) 0 .leaf) .grow))
  | _ => none

def callVV (call : CallF) (σ : Sto) (vs : List Value) : Value → Option (Value × Sto)
  | .func (.func f) first captured => call f (first.toList ++ vs ++ captured.toList) σ
  | _ => none

def invokeV (call : CallF) (σ : Sto) (tbl : List (TypeId × FuncId)) (vs : List Value) : Value → Option (Value × Sto)
  | .iface ty v => match tbl.find? (·.1 == ty) with
    | some (_, f) => call f (v :: vs) σ
    | none => none
  | _ => none

def runEff (call : CallF) (t : Tr Value) (σ : Sto) : AOp → Option (Value × Sto)
  | .store a v n => match ev t a, ev t v with
    | some a, some v => storeV σ n a v
    | _, _ => none
  | .mapUpdate ks m k v => match ev t m, ev t k, ev t v with
    | some m, some k, some v => mapUpdateV σ ks m k v
    | _, _, _ => none
  | .mapEntry ks m k z => match ev t m, ev t k with
    | some m, some k => mapEntryV σ ks z m k
    | _, _ => none
  | .entryStore m s v => match ev t m, ev t s, ev t v with
    | some m, some s, some v => entryStoreV σ m s v
    | _, _, _ => none
  | .delete ks m k => match ev t m, ev t k with
    | some m, some k => deleteV σ ks m k
    | _, _ => none
  | .append s x size bytes => match ev t s, ev t x with
    | some s, some x => runAppend σ size bytes s x
    | _, _ => none
  | .copy d s size => match ev t d, ev t s with
    | some d, some s => copyV σ size d s
    | _, _ => none
  | .clear x z => match ev t x with
    | some v => clearV σ z v
    | none => none
  | .call f args => match evs t args with
    | some vs => call f vs σ
    | none => none
  | .callV f args => match ev t f, evs t args with
    | some f, some vs => callVV call σ vs f
    | _, _ => none
  | .invoke r tbl args => match ev t r, evs t args with
    | some r, some vs => invokeV call σ tbl vs r
    | _, _ => none
  | .range str x => match ev t x with
    | some v => rangeV σ str v
    | none => none
  | .nextM x => match ev t x with
    | some v => nextMV σ v
    | none => none
  | .next x => match ev t x with
    | some v => nextV σ v
    | none => none
  | .s2b x => match ev t x with
    | some v => s2bV σ v
    | none => none
  | _ => none

def put (t : Tr Value) (d : Option Nat) (v : Value) : Tr Value :=
  match d with
  | some d => t.set d v
  | none => t

def runOp (call : CallF) (o : AOp) (t : Tr Value) (σ : Sto) : Option (Value × Sto) :=
  match o.cls with
  | .pure => match runPure t o with | some v => some (v, σ) | none => none
  | .heap => match runHeap t σ o with | some v => some (v, σ) | none => none
  | .eff => runEff call t σ o
  | .alloc => match runAlloc t o with
    | some (obj, f) => some (f σ.next, { next := σ.next + 1, objs := σ.objs.set σ.next obj })
    | none => none

/-- Is an operation done, by its guard? -/
def wanted (t : Tr Value) : Option (Nat × Bool) → Option Bool
  | none => some true
  | some (s, want) => match t.get s with
    | some (.bool b) => some (b == want)
    | some (.tuple _) => some false
    | _ => none

def runOper (call : CallF) (o : AOper) (t : Tr Value) (σ : Sto) : Option (Tr Value × Sto) :=
  match wanted t o.guard with
  | some true => match runOp call o.op t σ with
    | some (v, σ) => some (put t o.dst v, σ)
    | none => none
  | some false => some (put t o.dst undef, σ)
  | none => none

def runOps (call : CallF) : List AOper → Tr Value → Sto → Option (Tr Value × Sto)
  | [], t, σ => some (t, σ)
  | o :: l, t, σ => match runOper call o t σ with
    | some (t, σ) => runOps call l t σ
    | none => none

/-- The slots that an operation looks at. -/
def small (t : Tr Value) : List Nat → Tr Value
  | [] => .leaf
  | s :: l => (small t l).upd s (t.get s)

def one (call : CallF) (t : Tr Value) (σ : Sto) (o : AOper) : Option (Value × Sto) :=
  match wanted t o.guard with
  | some true => runOp call o.op t σ
  | some false => some (undef, σ)
  | none => none

/-- A reading that is asked once more gives the same. -/
def recheck (call : CallF) (t : Tr Value) (σ : Sto) (y : DStep) : Bool :=
  match one call (small t y.sl) σ y.o with
  | none => false
  | some (v, _) => match y.o.dst with
    | none => true
    | some d => match t.get d with
      | some v' => vEq v v'
      | none => false

def rechecks (call : CallF) (t : Tr Value) (σ : Sto) (again : Nat) (u : List DStep) : Bool :=
  u.all fun y => !(again.testBit y.i) || (match y.o.op.cls with | .heap => recheck call t σ y | _ => true)

def runStep (call : CallF) (base : Nat) (u : List DStep) (x : DStep) (t : Tr Value) (σ : Sto) : Option (Tr Value × Sto) :=
  match x.o.op.cls with
  | .alloc => match runAlloc (small t x.sl) x.o.op, σ.objs.get (base + x.j) with
    | some (obj, f), none => some (put t x.o.dst (f (base + x.j)), { σ with objs := σ.objs.set (base + x.j) obj })
    | _, _ => none
  | .eff => match one call (small t x.sl) σ x.o with
    | some (v, σ') => if rechecks call (put t x.o.dst v) σ' x.again u then some (put t x.o.dst v, σ') else none
    | none => none
  | _ => match one call (small t x.sl) σ x.o with
    | some (v, σ') => some (put t x.o.dst v, σ')
    | none => none

def runSteps (call : CallF) (base : Nat) : List DStep → List DStep → Tr Value → Sto → Option (Tr Value × Sto)
  | _, [], t, σ => some (t, σ)
  | u, x :: l, t, σ => match runStep call base u x t σ with
    | some (t, σ) => runSteps call base (x :: u) l t σ
    | none => none

inductive AExit where
  | normal | exit (id : Nat) | ret
  deriving DecidableEq, Inhabited, Repr

abbrev ExecR := Option (AExit × Tr Value × Sto)

def iter (f : Tr Value → Sto → ExecR) : Nat → Tr Value → Sto → ExecR
  | 0, _, _ => none
  | n + 1, t, σ => match f t σ with
    | some (.normal, t, σ) => iter f n t σ
    | r => r

def exec (call : CallF) (lf : Nat) : ACode → Tr Value → Sto → ExecR
  | .skip, t, σ => some (.normal, t, σ)
  | .ops l, t, σ => match runOps call l t σ with
    | some (t, σ) => some (.normal, t, σ)
    | none => none
  | .draw n l, t, σ => match runSteps call σ.next [] l t { σ with next := σ.next + n } with
    | some (t, σ) => some (.normal, t, σ)
    | none => none
  | .seq a b, t, σ => match exec call lf a t σ with
    | some (.normal, t, σ) => exec call lf b t σ
    | r => r
  | .cond c a b, t, σ => match ev t c with
    | some (.bool true) => exec call lf a t σ
    | some (.bool false) => exec call lf b t σ
    | _ => none
  | .block id c, t, σ => match exec call lf c t σ with
    | some (.exit i, t, σ) => if i = id then some (.normal, t, σ) else some (.exit i, t, σ)
    | r => r
  | .loop c, t, σ => iter (exec call lf c) lf t σ
  | .exit id, t, σ => some (.exit id, t, σ)
  | .ret, t, σ => some (.ret, t, σ)

def res1 (t : Tr Value) (σ : Sto) : ARes → Option Value
  | .tmp s => t.get s
  | .cell s n => match t.get s with
    | some (.pointer (some ⟨b, o, none⟩)) =>
      match n with
      | none => σ.load b o
      | some n => match σ.loads b o n with | some vs => some (.agg vs.toArray) | none => none
    | _ => none

def ress (t : Tr Value) (σ : Sto) : List ARes → Option (List Value)
  | [] => some []
  | r :: l => match res1 t σ r, ress t σ l with
    | some v, some vs => some (v :: vs)
    | _, _ => none

def result (t : Tr Value) (σ : Sto) (rs : List ARes) : Option Value :=
  match ress t σ rs with
  | some [v] => some v
  | some vs => some (.tuple vs.toArray)
  | none => none

abbrev AProg := FuncId → Option AFunc

def runFunc (call : CallF) (lf : Nat) (fn : AFunc) (args : List Value) (σ : Sto) : Option (Value × Sto) :=
  match exec call lf fn.code (Tr.ofList args 0 .leaf) σ with
  | some (.exit _, _, _) => none
  | some (_, t, σ) => match result t σ fn.results with
    | some v => some (v, σ)
    | none => none
  | none => none

/-- Calls: by the compiled functions, and by summaries of those that are not compiled. -/
def callA (A : AProg) (S : CallF) : Nat → CallF
  | 0 => S
  | n + 1 => fun f args σ => match A f with
    | some fn => runFunc (callA A S n) n fn args σ
    | none => S f args σ

end Go.AM
