/-
  The ideal machine: a deterministic evaluator over values that carry their contents, for a subset of the model's operations. No program of its own; definitions alone.
-/
import Derived.LoopIn
import Derived.OrdersIn
import Derived.Laws.Append
set_option linter.unusedSectionVars false
set_option linter.unusedVariables false
set_option linter.unusedSimpArgs false
namespace Go.Idl

inductive IVal where
  | int (k : IntKind) (n : Int)
  | bool (b : Bool)
  | str (s : List UInt8)
  | prim (v : Value)
  | sl (own : Nat) (ref : Bool) (xs : List IVal)
  | rs (esz id off len : Nat)
  | ptr (id off : Nat)
  | pv (ref : Bool) (cs : List IVal) (off : Nat)
  | map (id : Nat)
  | yl (id : Nat)
  | fn (f : Fn) (xs ys : List IVal)
  | iface (t : TypeId) (v : IVal)
  | agg (cs : List IVal)
  | tup (xs : List IVal)
  deriving Inhabited

def IVal.cells : IVal → List IVal
  | .agg cs => cs
  | v => [v]

def IVal.isCell : IVal → Bool
  | .agg _ => false
  | .tup _ => false
  | _ => true

/-- It holds no reference into the store: by levels of nesting. -/
def nr0 : IVal → Bool
  | .int _ _ => true
  | .bool _ => true
  | .str _ => true
  | .prim _ => true
  | .sl _ r _ => !r
  | .pv r _ _ => !r
  | _ => false
def nr1 : IVal → Bool
  | .iface _ (.agg cs) => cs.all nr0
  | .iface _ v => nr0 v
  | .fn _ [] [] => true
  | v => nr0 v
def nr2 : IVal → Bool
  | .agg cs => cs.all nr1
  | v => nr1 v
def nr3 : IVal → Bool
  | .tup xs => xs.all nr2
  | v => nr2 v

/-- The same, without the right to append in place. -/
def un1 : IVal → IVal
  | .sl _ r xs => .sl 0 r xs
  | v => v
def un2 : IVal → IVal
  | .agg cs => .agg (cs.map un1)
  | v => un1 v
def un3 : IVal → IVal
  | .tup xs => .tup (xs.map un2)
  | v => un2 v

def nt : IVal → Bool
  | .tup _ => false
  | _ => true

def undefI : IVal := .tup []

inductive Tm where
  | leaf
  | node (l : Tm) (c : Option (Nat × IVal)) (r : Tm)

def Tm.get : Tm → Nat → Option (Nat × IVal)
  | .leaf, _ => none
  | .node l c r, k => bif Nat.beq k 0 then c else bif Nat.beq (k % 2) 1 then l.get (k / 2) else r.get (k / 2 - 1)

def Tm.set (x : Option (Nat × IVal)) : Tm → Nat → Tm
  | .leaf, _ => .leaf
  | .node l c r, k => bif Nat.beq k 0 then .node l x r else bif Nat.beq (k % 2) 1 then .node (l.set x (k / 2)) c r else .node l c (r.set x (k / 2 - 1))

def Tm.list : Tm → List (Nat × IVal)
  | .leaf => []
  | .node l c r => c.toList ++ (l.list ++ r.list)

def Tm.empty : Nat → Tm
  | 0 => .leaf
  | n + 1 => .node (Tm.empty n) none (Tm.empty n)

/-- There is such a slot. -/
def Tm.has : Tm → Nat → Bool
  | .leaf, _ => false
  | .node l _ r, k => bif Nat.beq k 0 then true else bif Nat.beq (k % 2) 1 then l.has (k / 2) else r.has (k / 2 - 1)


/-- The temporaries: each has its slot; a slot bears one of them at a time. -/
structure Ts where
  nv : Nat
  m : Nat
  t : Tm
  ds : List Nat

def Ts.slot (ts : Ts) (j : Nat) : Nat := bif Nat.blt j ts.nv then j else ts.nv + (j - ts.nv) % ts.m
def Ts.get? (ts : Ts) (j : Nat) : Option IVal := match ts.t.get (ts.slot j) with
  | some (i, v) => bif Nat.beq i j then some v else none
  | none => none
def Ts.set (ts : Ts) (j : Nat) (v : IVal) : Ts := { ts with t := ts.t.set (some (j, v)) (ts.slot j) }
def Ts.fill (ts : Ts) : Nat → List IVal → Ts
  | _, [] => ts
  | j, v :: vs => (ts.set j v).fill (j + 1) vs

inductive Opd where
  | t (i : Nat)
  | m (i : Nat)
  | c (v : IVal)

def Opd.get (x : Opd) (ts : Ts) : Option (IVal × Ts) :=
  match x with
  | .t i => match ts.get? i with
    | some v => some (un3 v, ts)
    | none => none
  | .m i => match ts.get? i with
    | some v => some (v, ts.set i (un3 v))
    | none => none
  | .c v => some (v, ts)

def getAll : List Opd → Ts → Option (List IVal × Ts)
  | [], ts => some ([], ts)
  | x :: xs, ts => match x.get ts with
    | some (v, ts1) => match getAll xs ts1 with
      | some (vs, ts2) => some (v :: vs, ts2)
      | none => none
    | none => none

inductive IConv where
  | int (k : IntKind)
  | bytes            -- string to bytes
  | text             -- bytes to string
  | same
  | rune             -- int to string, below 128

/-- How a method's receiver comes out of what an interface value bears. -/
inductive RecvK where
  | same
  | fld (off : Nat) (n : Option Nat)

/-- Entries that are not Go's text: what they are asked of types is in tables. -/
inductive ExtK where
  | typeOf (rt G : Nat)
  | vType (rt G : Nat)
  | vIsNil (G : Nat) (tab : List TypeId)
  | vElem (G : Nat) (tab : List (TypeId × TypeId × Nat))
  | rElem (rt G : Nat) (tab : List (TypeId × TypeId))
  | rCmp (G : Nat) (tab : List (TypeId × Bool))
  | rImpl (G : Nat) (tab : List ((TypeId × TypeId) × Bool))
  | rAsg (G : Nat) (tab : List ((TypeId × TypeId) × Bool))
  | aKind (G : Nat) (tab : List (TypeId × Nat))

/-- Operations that touch no memory, by kind. -/
inductive PurK where
  | ext (k : ExtK)
  | invX (tab : List (TypeId × ExtK × RecvK))
  | eqa (neg : Bool) (ks : List Nat)
  | text
  | rune
  | tyC (t : TypeId) (ok : Bool) (z : IVal)
  | tyI (yes no : List TypeId) (ok : Bool)
  | isnilS (neg : Bool)
  | eqi (neg : Bool) (ks : List (TypeId × Nat))

inductive IOp where
  | pur (k : PurK) (xs : List Opd)
  | mv (x : Opd)
  | pick (c a b : Opd)
  | alloc (zs : List IVal)
  | box (x : Opd)
  | boxv (x : Opd)
  | build (zs : List IVal) (parts : List (Nat × Nat × Opd))
  | buildSl (esz : Nat) (xs : List Opd)
  | buildRs (esz : Nat) (xs : List Opd)
  | load (mvf : Bool) (n : Option Nat) (x : Opd)
  | store (n : Nat) (x v : Opd)
  | nilCheck (x : Opd)
  | bin (op : BinOp) (x y : Opd)
  | isnil (neg : Bool) (k : Nat) (x : Opd)
  | eqa (neg : Bool) (x y : Opd)
  | eqb (neg : Bool) (x y : Opd)
  | un (op : UnOp) (x : Opd)
  | conv (c : IConv) (x : Opd)
  | mkIface (t : TypeId) (x : Opd)
  | mkFn (f : Fn) (xs ys : List Opd)
  | mkMap
  | mkSl (byref : Bool) (esz bytes : Nat) (zs : List IVal) (len cap : Opd)
  | sliceS (x : Opd) (lo hi : Option Opd)
  | sliceL (esz : Nat) (x : Opd) (lo hi mx : Option Opd)
  | fieldAddr (off : Nat) (x : Opd)
  | field (off : Nat) (n : Option Nat) (x : Opd)
  | idxAddr (esz : Nat) (x i : Opd)
  | idxAddrA (len esz : Nat) (x i : Opd)
  | idxS (x i : Opd)
  | idxA (len esz : Nat) (n : Option Nat) (x i : Opd)
  | lookup (kk : Nat) (z : IVal) (ok : Bool) (x k : Opd)
  | mapSet (kk : Nat) (m k v : Opd)
  | extract (x : Opd) (i : Nat)
  | append (byref str : Bool) (esz bytes : Nat) (s x : Opd)
  | copy (str : Bool) (esz : Nat) (s x : Opd)
  | lenS (x : Opd)
  | lenL (x : Opd)
  | lenM (x : Opd)
  | minmax (mx : Bool) (xs : List Opd)
  | call (f : FuncId) (xs : List Opd)
  | callp (f : FuncId) (xs : List Opd)
  | callv (f : Opd) (xs : List Opd)
  | inv (tab : List (TypeId × FuncId × RecvK)) (x : Opd) (xs : List Opd)
  | vOf (G : Nat) (tab : List (TypeId × Nat)) (x : Opd)
  | vSet (G : Nat) (tab : List TypeId) (x y : Opd)
  | panic (x : Opd)

structure IOper where
  dst : Option Nat
  op : IOp
  guard : Option (Nat × Bool)

inductive ICode where
  | skip
  | ops (l : List IOper)
  | draw (l : List (Nat × IOper)) (pairs : List (Nat × Nat))
  | seq (a b : ICode)
  | cond (x : Opd) (a b : ICode)
  | block (id : Nat) (b : ICode)
  | loop (b : ICode)
  | exit (id : Nat)
  | scope (b : ICode)
  | label (l : Nat)
  | goto (l : Nat)
  | ret
  | stuck
  | rangeF (x : Opd) (ps : List Nat) (a b : ICode)

inductive IExit where
  | normal
  | exit (id : Nat)
  | goto (l : Nat)
  | ret
  | panic (v : IVal)

/-- The record of a loop over a function: 0 ready, 1 busy, 2 done, 3 exhausted; the temporaries as they stood; its code. -/
structure ILoop where
  st : Nat
  ts : Ts
  ps : List Nat
  a : ICode
  b : ICode
  pend : Option IExit

inductive IObj where
  | cells (cs : List IVal)
  | map (es : List (IVal × IVal))
  | loop (l : ILoop)
  | defr
  | dead

instance : Inhabited IObj := ⟨.dead⟩

inductive RV where
  | t (i : Nat)
  | cell (i : Nat) (n : Option Nat)

structure IFunc where
  nt : Nat
  nv : Nat
  m : Nat
  dep : Nat
  body : ICode
  res : List RV

structure St where
  ts : Ts
  σ : List IObj
  wr : List (Nat × Bool)

/-- How a call ends: it returns, or panics; the store; what it wrote. -/
structure Out where
  pan : Bool
  v : IVal
  σ : List IObj
  wr : List (Nat × Bool)

/-- How an operation ends. -/
structure Res where
  pan : Bool
  v : IVal
  s : St

def rv (v : IVal) (ts : Ts) (s : St) : Option Res := some ⟨false, v, { s with ts := ts }⟩

/-! ### numbers, strings, equality -/
def binI (op : BinOp) (k : IntKind) (x y : Int) : Option IVal :=
  match op with
  | .add => some (.int k (k.wrap (x + y)))
  | .sub => some (.int k (k.wrap (x - y)))
  | .mul => some (.int k (k.wrap (x * y)))
  | .quo => if y = 0 then none else some (.int k (k.wrap (x.tdiv y)))
  | .rem => if y = 0 then none else some (.int k (x.tmod y))
  | .and => some (.int k (k.wrap (BitVec.ofInt k.bits x &&& BitVec.ofInt k.bits y).toNat))
  | .or => some (.int k (k.wrap (BitVec.ofInt k.bits x ||| BitVec.ofInt k.bits y).toNat))
  | .xor => some (.int k (k.wrap (BitVec.ofInt k.bits x ^^^ BitVec.ofInt k.bits y).toNat))
  | .andNot => some (.int k (k.wrap (BitVec.ofInt k.bits x &&& ~~~BitVec.ofInt k.bits y).toNat))
  | .eql => some (.bool (x == y))
  | .neq => some (.bool (x != y))
  | .lss => some (.bool (decide (x < y)))
  | .leq => some (.bool (decide (x ≤ y)))
  | .gtr => some (.bool (decide (x > y)))
  | .geq => some (.bool (decide (x ≥ y)))
  | _ => none

def binS (op : BinOp) (x y : List UInt8) : Option IVal :=
  match op with
  | .add => if x.length + y.length ≤ 1099511627776 then some (.str (x ++ y)) else none
  | .eql => some (.bool (x == y))
  | .neq => some (.bool !(x == y))
  | .lss => some (.bool (Op.bytesLess x y))
  | .leq => some (.bool (Op.bytesLess x y || x == y))
  | .gtr => some (.bool !(Op.bytesLess x y || x == y))
  | .geq => some (.bool !(Op.bytesLess x y))
  | _ => none

def shiftI (op : BinOp) (k : IntKind) (x y : Int) : Option IVal :=
  if y < 0 then none else
  match op with
  | .shl => some (.int k (k.wrap (x * 2 ^ (min y.toNat k.bits))))
  | .shr => some (.int k (x.fdiv (2 ^ (min y.toNat k.bits))))
  | _ => none

def bin (op : BinOp) (x y : IVal) : Option IVal :=
  match x, y with
  | .int k a, .int k' b =>
    match op with
    | .shl => shiftI .shl k a b
    | .shr => shiftI .shr k a b
    | op => if k = k' then binI op k a b else none
  | .str a, .str b => binS op a b
  | _, _ => none

def unI (op : UnOp) (x : IVal) : Option IVal :=
  match op, x with
  | .neg, .int k n => some (.int k (k.wrap (0 - n)))
  | .xor, .int k n => binI .xor k (if k.signed then -1 else k.max) n
  | .not, .bool b => some (.bool !b)
  | _, _ => none

/-- Equality of plain cells. -/
def eqCell : IVal → IVal → Option Bool
  | .int k a, .int k' b => if k = k' then some (a == b) else none
  | .bool a, .bool b => some (a == b)
  | .str a, .str b => some (a == b)
  | _, _ => none
def eqCells : List IVal → List IVal → Option Bool
  | [], [] => some true
  | x :: xs, y :: ys => match eqCell x y with
    | some true => eqCells xs ys
    | some false => some false
    | none => none
  | _, _ => none

/-- By kind: 0 a pointer, 1 an interface, 2 a function, 3 a map. -/
def isNil : Nat → IVal → Option Bool
  | 0, .prim (.pointer none) => some true
  | 0, .ptr _ _ => some false
  | 0, .pv _ _ _ => some false
  | 1, .prim .nilIface => some true
  | 1, .iface _ _ => some false
  | 2, .prim .nilFunc => some true
  | 2, .fn _ _ _ => some false
  | 3, .prim (.map none) => some true
  | 3, .map _ => some false
  | _, _ => none

/-- A key's kind: 0 an integer, 1 a string, 2 a bool. -/
def keyK : Nat → IVal → Bool
  | 0, .int _ _ => true
  | 1, .str _ => true
  | 2, .bool _ => true
  | _, _ => false

/-- What is found under a key: the first entry whose key is the same. -/
def findE (k : IVal) : List (IVal × IVal) → Option (Option IVal)
  | [] => some none
  | (k', v) :: es => match eqCell k k' with
    | some true => some (some v)
    | some false => findE k es
    | none => none
def setE (k v : IVal) : List (IVal × IVal) → Option (List (IVal × IVal))
  | [] => some [(k, v)]
  | (k', v') :: es => match eqCell k k' with
    | some true => some ((k, v) :: es)
    | some false => match setE k v es with
      | some es' => some ((k', v') :: es')
      | none => none
    | none => none

/-! ### memory -/
/-- Cells of a list, as one value: an aggregate of so many, or one cell. -/
def takeV (n : Option Nat) (cs : List IVal) (off : Nat) : Option IVal :=
  match n with
  | some n => if off + n ≤ cs.length then some (.agg ((cs.drop off).take n)) else none
  | none => cs[off]?

def putCells (cs : List IVal) (off : Nat) : List IVal → List IVal
  | [] => cs
  | v :: vs => putCells (cs.set off v) (off + 1) vs

def fillI : List IVal → List (Nat × Nat × IVal) → Option (List IVal)
  | cs, [] => some cs
  | cs, (off, size, v) :: rest =>
    if v.cells.length = size ∧ off + size ≤ cs.length ∧ v.cells.all IVal.isCell = true then fillI (putCells cs off v.cells) rest else none

def repl (n : Nat) (zs : List IVal) : List IVal := (List.replicate n zs).flatten

def nat (x : Int) : Option Nat := if 0 ≤ x then some x.toNat else none

def getInt : IVal → Option Int
  | .int _ n => some n
  | _ => none

def optInt (x : Option Opd) (ts : Ts) (dflt : Nat) : Option Nat :=
  match x with
  | none => some dflt
  | some x => match x.get ts with
    | some (.int _ n, _) => nat n
    | _ => none

def loadCell (σ : List IObj) (id : Nat) : Option (List IVal) :=
  match σ[id]? with
  | some (.cells cs) => some cs
  | _ => none

/-- The elements that are appended. -/
def elemsOf (str : Bool) (esz : Nat) (x : IVal) (σ : List IObj) : Option (List IVal) :=
  match str, x with
  | true, .str s => if esz = 1 then some (s.map fun b => .int .u8 b.toNat) else none
  | false, .sl _ _ xs => if xs.all (fun v => v.cells.length == esz) then some xs else none
  | false, .rs e id off len =>
    if e = 1 ∧ esz = 1 then
      match loadCell σ id with
      | some cs => if off + len ≤ cs.length then some ((cs.drop off).take len) else none
      | none => none
    else none
  | _, _ => none

def markW (s : St) (id : Nat) (v : List IVal) : List (Nat × Bool) := (id, !(v.all nr1)) :: s.wr

/-- Equality of rows of plain cells, of these kinds: by a key's kinds. -/
def eqK : List Nat → List IVal → List IVal → Option Bool
  | [], [], [] => some true
  | k :: ks, x :: xs, y :: ys => if keyK k x then match eqCell x y with
    | some true => eqK ks xs ys
    | some false => some false
    | none => none
    else none
  | _, _, _ => none

def toBytes : List IVal → Option (List UInt8)
  | [] => some []
  | .int .u8 n :: xs => match toBytes xs with
    | some l => some (UInt8.ofNat n.toNat :: l)
    | none => none
  | _ :: _ => none

def nilI : IVal := .prim .nilIface
def withOk (ok : Bool) (v : IVal) : IVal := if ok then .tup [v, .bool true] else v

def hdlI (G : Nat) (t : TypeId) : IVal := .prim (.pointer (some ⟨G, t, none⟩))
def rtI (rt G : Nat) (t : TypeId) : IVal := .iface rt (.agg [hdlI G t])
/-- Of which type it is a descriptor. -/
def hdlT (G : Nat) : IVal → Option TypeId
  | .prim (.pointer (some ⟨b, t, none⟩)) => if b = G then some t else none
  | _ => none

def recvI : RecvK → IVal → Option IVal
  | .same, v => some v
  | .fld off n, .agg cs => takeV n cs off
  | _, _ => none

def extI : ExtK → List IVal → Option IVal
  | .typeOf rt G, [.iface t _] => some (rtI rt G t)
  | .vType rt G, [.agg [h, .pv _ _ _, .int .u64 f]] => match hdlT G h with
    | some t => if f = 150 then some (rtI rt G t) else none
    | none => none
  | .vIsNil G tab, [.agg [h, .pv _ [c] 0, .int .u64 f]] => match hdlT G h with
    | some t => if f = 150 ∧ tab.contains t = true then (match c with
      | .prim (.pointer none) => some (.bool true)
      | .ptr _ _ => some (.bool false)
      | .pv _ _ _ => some (.bool false)
      | _ => none) else none
    | none => none
  | .vElem G tab, [.agg [h, .pv _ [c] 0, .int .u64 f]] => match hdlT G h with
    | some t => if f = 150 then (match tab.find? (fun p => p.1 == t) with
      | some (_, e, k) => (match c with
        | .ptr id off => some (.agg [hdlI G e, .ptr id off, .int .u64 (k + 384 : Nat)])
        | _ => none)
      | none => none) else none
    | none => none
  | .rElem rt G tab, [.agg [h]] => match hdlT G h with
    | some t => match tab.find? (fun p => p.1 == t) with
      | some (_, e) => some (rtI rt G e)
      | none => none
    | none => none
  | .rCmp G tab, [.agg [h]] => match hdlT G h with
    | some t => match tab.find? (fun p => p.1 == t) with
      | some (_, b) => some (.bool b)
      | none => none
    | none => none
  | .rImpl G tab, [.agg [h], .iface _ (.agg [h'])] => match hdlT G h, hdlT G h' with
    | some t, some u => match tab.find? (fun p => p.1.1 == t && p.1.2 == u) with
      | some (_, b) => some (.bool b)
      | none => none
    | _, _ => none
  | .rAsg G tab, [.agg [h], .iface _ (.agg [h'])] => match hdlT G h, hdlT G h' with
    | some t, some u => match tab.find? (fun p => p.1.1 == t && p.1.2 == u) with
      | some (_, b) => some (.bool b)
      | none => none
    | _, _ => none
  | .aKind G tab, [h] => match hdlT G h with
    | some t => match tab.find? (fun p => p.1 == t) with
      | some (_, n) => some (.int .u8 n)
      | none => none
    | none => none
  | _, _ => none

def purI : PurK → List IVal → Option IVal
  | .ext k, vs => extI k vs
  | .invX tab, .iface t v :: vs => match tab.find? (fun p => p.1 == t) with
    | some (_, k, rk) => match recvI rk v with
      | some y => extI k (y :: vs)
      | none => none
    | none => none
  | .eqa neg ks, [.agg a, .agg b] => if a.length = ks.length ∧ b.length = ks.length then match eqK ks a b with
    | some r => some (.bool (r != neg))
    | none => none
    else none
  | .text, [.sl _ _ xs] => match toBytes xs with
    | some l => some (.str l)
    | none => none
  | .rune, [.int _ n] => if 0 ≤ n ∧ n < 128 then some (.str [UInt8.ofNat n.toNat]) else none
  | .tyC t ok z, [.iface u v] => if u = t then some (withOk ok v) else if ok && nt z then some (.tup [z, .bool false]) else none
  | .tyC _ ok z, [.prim .nilIface] => if ok && nt z then some (.tup [z, .bool false]) else none
  | .tyI yes no ok, [.iface u v] => if yes.contains u then some (withOk ok (.iface u v)) else if ok && no.contains u then some (.tup [nilI, .bool false]) else none
  | .tyI _ _ ok, [.prim .nilIface] => if ok then some (.tup [nilI, .bool false]) else none
  | .isnilS neg, [.sl _ _ (_ :: _)] => some (.bool neg)
  | .isnilS neg, [.rs _ _ _ _] => some (.bool neg)
  | .eqi neg ks, [.iface t x, .iface u y] => if t = u then (match ks.find? (fun p => p.1 == t) with
      | some (_, k) => if keyK k x then (match eqCell x y with
        | some r => some (.bool (r != neg))
        | none => none) else none
      | none => none)
    else some (.bool neg)
  | .eqi neg _, [.iface _ _, .prim .nilIface] => some (.bool neg)
  | .eqi neg _, [.prim .nilIface, .iface _ _] => some (.bool neg)
  | _, _ => none

/-- What is called: a function, or a loop's yield. -/
inductive Cal where
  | f (f : FuncId)
  | y (id : Nat)

abbrev CallF := Cal → List IVal → List IObj → Option Out

def addOut (o : Out) (s : St) (ts : Ts) : Res := ⟨o.pan, o.v, { ts := ts, σ := o.σ, wr := o.wr ++ s.wr }⟩

def stepCall (cf : CallF) (f : Cal) (vs : List IVal) (ts : Ts) (s : St) : Option Res :=
  match cf f vs s.σ with
  | some o => some (addOut o s ts)
  | none => none

def ext (xs : List IVal) : Bool := !(xs.all nr2)

def stepOp (cf : CallF) (o : IOp) (s : St) : Option Res :=
  match o with
  | .pur k xs => match getAll xs s.ts with
    | some (vs, ts) => match purI k vs with
      | some v => rv v ts s
      | none => none
    | none => none
  | .mv x => match x.get s.ts with
    | some (v, ts) => rv v ts s
    | none => none
  | .pick c a b => match c.get s.ts with
    | some (.bool true, ts) => match a.get ts with
      | some (v, ts) => rv v ts s
      | none => none
    | some (.bool false, ts) => match b.get ts with
      | some (v, ts) => rv v ts s
      | none => none
    | _ => none
  | .alloc zs => some ⟨false, .ptr s.σ.length 0, { s with σ := s.σ ++ [.cells zs] }⟩
  | .box x => match x.get s.ts with
    | some (v, ts) => if v.cells.all IVal.isCell then some ⟨false, .ptr s.σ.length 0, { s with ts := ts, σ := s.σ ++ [.cells v.cells] }⟩ else none
    | none => none
  | .boxv x => match x.get s.ts with
    | some (v, ts) => if v.cells.all IVal.isCell then rv (.pv (ext v.cells) (v.cells.map un1) 0) ts s else none
    | none => none
  | .build zs parts => match getAll (parts.map (·.2.2)) s.ts with
    | some (vs, ts) => if vs.all nt then match fillI zs ((parts.zip vs).map fun p => (p.1.1, p.1.2.1, un2 p.2)) with
      | some cs => rv (.agg cs) ts s
      | none => none
      else none
    | none => none
  | .buildSl esz xs => match getAll xs s.ts with
    | some (vs, ts) =>
      if vs.length ≤ 65536 ∧ vs.all (fun v => v.cells.length == esz) ∧ vs.all nt ∧ vs.length * esz ≤ 16777216 then rv (.sl esz (ext vs) (vs.map un2)) ts s
      else none
    | none => none
  | .buildRs esz xs => match getAll xs s.ts with
    | some (vs, ts) =>
      if vs.length ≤ 65536 ∧ vs.all (fun v => v.cells.length == esz) ∧ vs.all nt ∧ vs.length * esz ≤ 16777216 then
        some ⟨false, .rs esz s.σ.length 0 vs.length, { s with ts := ts, σ := s.σ ++ [.cells (vs.flatMap fun v => (un2 v).cells)] }⟩
      else none
    | none => none
  | .load mvf n x => match x.get s.ts with
    | some (.pv _ cs off, ts) => match takeV n cs off with
      | some v => rv v ts s
      | none => none
    | some (.ptr id off, ts) => match loadCell s.σ id with
      | some cs => match takeV n cs off with
        | some v =>
          if mvf then some ⟨false, v, { ts := ts, σ := s.σ.set id (.cells (putCells cs off (un2 v).cells)), wr := (id, false) :: s.wr }⟩
          else rv (un2 v) ts s
        | none => none
      | none => none
    | _ => none
  | .store n x v => match x.get s.ts with
    | some (.ptr id off, ts) => match v.get ts with
      | some (v, ts) => match loadCell s.σ id with
        | some cs =>
          if v.cells.length = n ∧ off + n ≤ cs.length ∧ v.cells.all IVal.isCell then
            some ⟨false, undefI, { ts := ts, σ := s.σ.set id (.cells (putCells cs off v.cells)), wr := markW s id v.cells }⟩
          else none
        | none => none
      | none => none
    | _ => none
  | .vOf G tab x => match x.get s.ts with
    | some (.iface t v, ts) => match tab.find? (fun p => p.1 == t) with
      | some (_, k) => if v.cells.all IVal.isCell then rv (.agg [hdlI G t, .pv (ext v.cells) (v.cells.map un1) 0, .int .u64 (k + 128 : Nat)]) ts s else none
      | none => none
    | _ => none
  | .vSet G tab x y => match x.get s.ts with
    | some (.agg [h, .ptr id off, .int .u64 f], ts) => match y.get ts with
      | some (.agg [h', .pv _ [v] 0, .int .u64 f'], ts) => match hdlT G h, hdlT G h' with
        | some t, some t' => if t = t' ∧ f = 406 ∧ f' = 150 ∧ tab.contains t = true then (match loadCell s.σ id with
          | some cs =>
            if off < cs.length then
              some ⟨false, .tup [], { ts := ts, σ := s.σ.set id (.cells (putCells cs off [v])), wr := markW s id [v] }⟩
            else none
          | none => none) else none
        | _, _ => none
      | _ => none
    | _ => none
  | .nilCheck x => match x.get s.ts with
    | some (.ptr id off, ts) => rv (.ptr id off) ts s
    | some (.pv r cs off, ts) => rv (.pv r cs off) ts s
    | _ => none
  | .bin op x y => match x.get s.ts with
    | some (a, ts) => match y.get ts with
      | some (b, ts) => match bin op a b with
        | some v => rv v ts s
        | none => none
      | none => none
    | none => none
  | .isnil neg k x => match x.get s.ts with
    | some (a, ts) => match isNil k a with
      | some b => rv (.bool (b != neg)) ts s
      | none => none
    | none => none
  | .eqa neg x y => match x.get s.ts with
    | some (.agg a, ts) => match y.get ts with
      | some (.agg b, ts) => match eqCells a b with
        | some r => rv (.bool (r != neg)) ts s
        | none => none
      | _ => none
    | _ => none
  | .eqb neg x y => match x.get s.ts with
    | some (.bool a, ts) => match y.get ts with
      | some (.bool b, ts) => rv (.bool ((a == b) != neg)) ts s
      | _ => none
    | _ => none
  | .un op x => match x.get s.ts with
    | some (a, ts) => match unI op a with
      | some v => rv v ts s
      | none => none
    | none => none
  | .conv c x => match x.get s.ts with
    | some (a, ts) => match c, a with
      | .int k, .int _ n => rv (.int k (k.wrap n)) ts s
      | .same, .str b => rv (.str b) ts s
      | .text, .sl _ _ xs => match toBytes xs with
        | some l => rv (.str l) ts s
        | none => none
      | .bytes, .str b => rv (.sl 0 false (b.map fun c => .int .u8 c.toNat)) ts s
      | .rune, .int _ n => if 0 ≤ n ∧ n < 128 then rv (.str [UInt8.ofNat n.toNat]) ts s else none
      | _, _ => none
    | none => none
  | .mkIface t x => match x.get s.ts with
    | some (a, ts) => if nt a then rv (.iface t (un2 a)) ts s else none
    | none => none
  | .mkFn f xs ys => match getAll xs s.ts with
    | some (vs, ts) => match getAll ys ts with
      | some (us, ts) => if vs.all nt && us.all nt then rv (.fn f (vs.map un2) (us.map un2)) ts s else none
      | none => none
    | none => none
  | .mkMap => some ⟨false, .map s.σ.length, { s with σ := s.σ ++ [.map []] }⟩
  | .mkSl byref esz bytes zs len cap => match len.get s.ts with
    | some (.int _ l, ts) => match cap.get ts with
      | some (.int _ c, ts) =>
        if 0 ≤ l ∧ l ≤ c ∧ c * bytes ≤ 1099511627776 ∧ c ≤ 1099511627776 ∧ zs.length = esz ∧ 0 < esz then
          if byref then some ⟨false, .rs esz s.σ.length 0 l.toNat, { s with ts := ts, σ := s.σ ++ [.cells (repl c.toNat zs)] }⟩
          else if l = 0 then rv (.sl esz false []) ts s else none
        else none
      | _ => none
    | _ => none
  | .sliceS x lo hi => match x.get s.ts with
    | some (.str b, ts) => match optInt lo ts 0, optInt hi ts b.length with
      | some l, some h => if l ≤ h ∧ h ≤ b.length then rv (.str ((b.take h).drop l)) ts s else none
      | _, _ => none
    | _ => none
  | .sliceL esz x lo hi mx => match x.get s.ts with
    | some (.sl own r xs, ts) => match optInt lo ts 0, optInt hi ts xs.length, optInt mx ts xs.length with
      | some l, some h, some m =>
        if l ≤ h ∧ h ≤ xs.length ∧ xs.all (fun v => v.cells.length == esz) then
          match mx with
          | none => rv (.sl (if h = xs.length ∧ own = esz then own else 0) r ((xs.take h).drop l)) ts s
          | some _ => if h = m then rv (.sl esz r ((xs.take h).drop l)) ts s else none
        else none
      | _, _, _ => none
    | some (.rs e id off len, ts) => match optInt lo ts 0, optInt hi ts len, mx with
      | some l, some h, none => if l ≤ h ∧ h ≤ len ∧ e = esz then if l = h then rv (.sl 0 false []) ts s else rv (.rs e id (off + l * e) (h - l)) ts s else none
      | _, _, _ => none
    | _ => none
  | .fieldAddr o x => match x.get s.ts with
    | some (.ptr id off, ts) => rv (.ptr id (off + o)) ts s
    | some (.pv r cs off, ts) => rv (.pv r cs (off + o)) ts s
    | _ => none
  | .field o n x => match x.get s.ts with
    | some (.agg cs, ts) => match takeV n cs o with
      | some v => rv v ts s
      | none => none
    | _ => none
  | .idxAddr esz x i => match x.get s.ts with
    | some (.sl _ r xs, ts) => match i.get ts with
      | some (.int _ n, ts) => if 0 ≤ n then match xs[n.toNat]? with
          | some v => if v.cells.length = esz then rv (.pv r v.cells 0) ts s else none
          | none => none
        else none
      | _ => none
    | some (.rs e id off len, ts) => match i.get ts with
      | some (.int _ n, ts) => if 0 ≤ n ∧ n < len ∧ e = esz then rv (.ptr id (off + n.toNat * e)) ts s else none
      | _ => none
    | _ => none
  | .idxAddrA len esz x i => match x.get s.ts with
    | some (.ptr id off, ts) => match i.get ts with
      | some (.int _ n, ts) => if 0 ≤ n ∧ n < len then rv (.ptr id (off + n.toNat * esz)) ts s else none
      | _ => none
    | some (.pv r cs off, ts) => match i.get ts with
      | some (.int _ n, ts) => if 0 ≤ n ∧ n < len then rv (.pv r cs (off + n.toNat * esz)) ts s else none
      | _ => none
    | _ => none
  | .idxS x i => match x.get s.ts with
    | some (.str b, ts) => match i.get ts with
      | some (.int _ n, ts) => if 0 ≤ n then match b[n.toNat]? with
          | some c => rv (.int .u8 c.toNat) ts s
          | none => none
        else none
      | _ => none
    | _ => none
  | .idxA len esz n x i => match x.get s.ts with
    | some (.agg cs, ts) => match i.get ts with
      | some (.int _ j, ts) => if 0 ≤ j ∧ j < len then match takeV n cs (j.toNat * esz) with
          | some v => rv v ts s
          | none => none
        else none
      | _ => none
    | _ => none
  | .lookup kk z ok x k => match x.get s.ts with
    | some (.map id, ts) => match k.get ts with
      | some (k, ts) => match s.σ[id]? with
        | some (.map es) => if keyK kk k then match findE k es with
          | some (some v) => rv (if ok then .tup [v, .bool true] else v) ts s
          | some none => rv (if ok then .tup [z, .bool false] else z) ts s
          | none => none
          else none
        | _ => none
      | none => none
    | _ => none
  | .mapSet kk m k v => match m.get s.ts with
    | some (.map id, ts) => match k.get ts with
      | some (k, ts) => match v.get ts with
        | some (v, ts) => match s.σ[id]? with
          | some (.map es) => if keyK kk k && nt v then match setE k (un2 v) es with
            | some es' => some ⟨false, undefI, { ts := ts, σ := s.σ.set id (.map es'), wr := (id, !(nr2 v)) :: s.wr }⟩
            | none => none
            else none
          | _ => none
        | none => none
      | none => none
    | _ => none
  | .extract x i => match x.get s.ts with
    | some (.tup vs, ts) => match vs[i]? with
      | some v => match x with
        | .m j => rv v (ts.set j (.tup (vs.set i (un2 v)))) s
        | _ => rv v ts s
      | none => none
    | _ => none
  | .append byref str esz bytes sv x => match sv.get s.ts with
    | some (base, ts) => match x.get ts with
      | some (y, ts) => match elemsOf str esz y s.σ with
        | some ys => match base with
          | .sl own r xs =>
            if own = esz ∧ 0 < esz ∧ (xs.length + ys.length) * bytes ≤ 1099511627776 ∧ xs.length + ys.length ≤ 1099511627776 then
              if byref then none
              else rv (.sl esz (r || ext ys) (xs ++ ys.map un2)) ts s
            else none
          | _ => none
        | none => none
      | none => none
    | none => none
  | .copy str esz d x => match d.get s.ts with
    | some (.rs e id off len, ts) => match x.get ts with
      | some (y, ts) => match elemsOf str esz y s.σ, loadCell s.σ id with
        | some ys, some cs =>
          if e = esz ∧ off + len * e ≤ cs.length then
            let zs := (ys.take len).flatMap IVal.cells
            some ⟨false, .int .i64 (min ys.length len), { ts := ts, σ := s.σ.set id (.cells (putCells cs off (zs.map un1))), wr := markW s id zs }⟩
          else none
        | _, _ => none
      | none => none
    | _ => none
  | .lenS x => match x.get s.ts with
    | some (.str b, ts) => rv (.int .i64 b.length) ts s
    | _ => none
  | .lenL x => match x.get s.ts with
    | some (.sl _ _ xs, ts) => rv (.int .i64 xs.length) ts s
    | some (.rs _ _ _ n, ts) => rv (.int .i64 n) ts s
    | _ => none
  | .lenM x => match x.get s.ts with
    | some (.map id, ts) => match s.σ[id]? with
      | some (.map es) => rv (.int .i64 es.length) ts s
      | _ => none
    | _ => none
  | .minmax mx xs => match getAll xs s.ts with
    | some ([.int k a, .int k' b], ts) => if k = k' then rv (.int k (if mx then (if a < b then b else a) else (if b < a then b else a))) ts s else none
    | _ => none
  | .call f xs => match getAll xs s.ts with
    | some (vs, ts) => stepCall cf (.f f) vs ts s
    | none => none
  | .callp f xs => match getAll xs s.ts with
    | some (vs, ts) => if vs.all nr2 then match cf (.f f) vs [] with
        | some ⟨false, v, _, _⟩ => if nr3 v then rv v ts s else none
        | _ => none
      else none
    | none => none
  | .inv tab x xs => match x.get s.ts with
    | some (.iface t v, ts) => match tab.find? (fun p => p.1 == t) with
      | some (_, f, rk) => match recvI rk v with
        | some y => match getAll xs ts with
          | some (vs, ts) => stepCall cf (.f f) (y :: vs) ts s
          | none => none
        | none => none
      | none => none
    | _ => none
  | .callv f xs => match f.get s.ts with
    | some (.fn (.func g) us ws, ts) => match getAll xs ts with
      | some (vs, ts) => stepCall cf (.f g) (us ++ vs ++ ws) ts s
      | none => none
    | some (.yl id, ts) => match getAll xs ts with
      | some (vs, ts) => stepCall cf (.y id) vs ts s
      | none => none
    | _ => none
  | .panic x => match x.get s.ts with
    | some (v, ts) => some ⟨true, v, { s with ts := ts }⟩
    | none => none

def putT (ts : Ts) (dst : Option Nat) (v : IVal) : Ts :=
  match dst with
  | some d => ts.set d v
  | none => ts

def wantedI (g : Option (Nat × Bool)) (ts : Ts) : Option Bool :=
  match g with
  | none => some true
  | some (t, b) => match ts.get? t with
    | some (.bool b') => some (b' == b)
    | some _ => some false
    | none => none

/-- Operations one behind the other; a panic ends them. -/
def runOps (cf : CallF) : List IOper → St → Option (IExit × St)
  | [], s => some (.normal, s)
  | o :: os, s =>
    match wantedI o.guard s.ts with
    | some true =>
      match stepOp cf o.op s with
      | some ⟨false, v, s'⟩ => runOps cf os { s' with ts := putT s'.ts o.dst v }
      | some ⟨true, v, s'⟩ => some (.panic v, s')
      | none => none
    | some false => runOps cf os { s with ts := putT s.ts o.dst undefI }
    | none => none

def opdsOf : IOp → List Opd
  | .pur _ xs => xs
  | .mv x => [x]
  | .pick c a b => [c, a, b]
  | .alloc _ => []
  | .box x => [x]
  | .boxv x => [x]
  | .build _ parts => parts.map (·.2.2)
  | .buildSl _ xs => xs
  | .buildRs _ xs => xs
  | .load _ _ x => [x]
  | .store _ x v => [x, v]
  | .nilCheck x => [x]
  | .bin _ x y => [x, y]
  | .isnil _ _ x => [x]
  | .eqa _ x y => [x, y]
  | .eqb _ x y => [x, y]
  | .un _ x => [x]
  | .conv _ x => [x]
  | .mkIface _ x => [x]
  | .mkFn _ xs ys => xs ++ ys
  | .mkMap => []
  | .mkSl _ _ _ _ len cap => [len, cap]
  | .sliceS x lo hi => x :: (lo.toList ++ hi.toList)
  | .sliceL _ x lo hi mx => x :: (lo.toList ++ (hi.toList ++ mx.toList))
  | .fieldAddr _ x => [x]
  | .field _ _ x => [x]
  | .idxAddr _ x i => [x, i]
  | .idxAddrA _ _ x i => [x, i]
  | .idxS x i => [x, i]
  | .idxA _ _ _ x i => [x, i]
  | .lookup _ _ _ x k => [x, k]
  | .mapSet _ m k v => [m, k, v]
  | .extract x _ => [x]
  | .append _ _ _ _ s x => [s, x]
  | .copy _ _ s x => [s, x]
  | .lenS x => [x]
  | .lenL x => [x]
  | .lenM x => [x]
  | .minmax _ xs => xs
  | .call _ xs => xs
  | .callp _ xs => xs
  | .callv f xs => f :: xs
  | .inv _ x xs => x :: xs
  | .vOf _ _ x => [x]
  | .vSet _ _ x y => [x, y]
  | .panic x => [x]

/-- What an operation reads of the store. -/
def rdOf (o : IOp) (s : St) : Option Nat :=
  match o with
  | .load _ _ x => match x.get s.ts with
    | some (.ptr id _, _) => some id
    | _ => none
  | .lookup _ _ _ x _ => match x.get s.ts with
    | some (.map id, _) => some id
    | _ => none
  | .lenM x => match x.get s.ts with
    | some (.map id, _) => some id
    | _ => none
  | _ => none

/-- An append out of an array of the store reads it. -/
def noRs (o : IOp) (s : St) : Bool :=
  match o with
  | .append _ _ _ _ sv x => match sv.get s.ts with
    | some (_, ts) => match x.get ts with
      | some (.rs _ _ _ _, _) => false
      | _ => true
    | none => true
  | .conv _ x => match x.get s.ts with
    | some (.rs _ _ _ _, _) => false
    | _ => true
  | _ => true

/-- It writes nothing, and reads one object at most. -/
def quiet : IOp → Bool
  | .alloc _ => false
  | .box _ => false
  | .buildRs _ _ => false
  | .load mvf _ _ => !mvf
  | .store _ _ _ => false
  | .mkMap => false
  | .mkSl br _ _ _ _ _ => !br
  | .mapSet _ _ _ _ => false
  | .append br _ _ _ _ _ => !br
  | .copy _ _ _ _ => false
  | .call _ _ => false
  | .callv _ _ => false
  | .inv _ _ _ => false
  | .vSet _ _ _ _ => false
  | .panic _ => false
  | _ => true

/-- What an operation reads and wrote, and how many objects there were. -/
structure DLog where
  rd : Option Nat
  wr : List (Nat × Bool)
  len : Nat

def stepD (cf : CallF) (o : IOper) (s : St) : Option (St × DLog) :=
  match wantedI o.guard s.ts with
  | some true =>
    if noRs o.op s then
      match getAll (opdsOf o.op) s.ts with
      | some _ => match stepOp cf o.op { s with wr := [] } with
        | some ⟨false, v, s'⟩ => some ({ ts := putT s'.ts o.dst v, σ := s'.σ, wr := s'.wr ++ s.wr }, ⟨rdOf o.op s, s'.wr, if quiet o.op then 0 else s.σ.length⟩)
        | _ => none
      | none => none
    else none
  | some false => some ({ s with ts := putT s.ts o.dst undefI }, ⟨none, [], 0⟩)
  | none => none

/-- Operations whose order is open: in the text's order, with what each read and wrote. -/
def runDraw (cf : CallF) : List (Nat × IOper) → St → Option (St × List (Nat × DLog))
  | [], s => some (s, [])
  | o :: os, s =>
    match stepD cf o.2 s with
    | some (s1, l) => match runDraw cf os s1 with
      | some (s2, ls) => some (s2, (o.1, l) :: ls)
      | none => none
    | none => none

def okPair (x y : DLog) : Bool :=
  match x.rd with
  | none => true
  | some id => decide (id < y.len) && y.wr.all fun q => q.1 != id

def pairsOK (pairs : List (Nat × Nat)) (log : List (Nat × DLog)) : Bool :=
  pairs.all fun p => log.all fun x => x.1 != p.1 || log.all fun y => y.1 != p.2 || okPair x.2 y.2

def readRes (rs : List RV) (s : St) : Option (List IVal × St) :=
  match rs with
  | [] => some ([], s)
  | .t i :: rs => match s.ts.get? i with
    | some v => match readRes rs { s with ts := s.ts.set i (un3 v) } with
      | some (vs, s') => some (v :: vs, s')
      | none => none
    | none => none
  | .cell i n :: rs => match s.ts.get? i with
    | some (.ptr id off) => match loadCell s.σ id with
      | some cs => match takeV n cs off with
        | some v => match readRes rs { s with σ := s.σ.set id (.cells (putCells cs off (un2 v).cells)), wr := (id, false) :: s.wr } with
          | some (vs, s') => some (v :: vs, s')
          | none => none
        | none => none
      | none => none
    | _ => none

def tupV : List IVal → IVal
  | [v] => v
  | vs => .tup vs

/-- What is handed back; the store without what nobody sees any more. -/
def finish (n₀ : Nat) (pan : Bool) (v : IVal) (s : St) : Out :=
  if nr3 v && s.wr.all (fun p => !p.2 || decide (n₀ ≤ p.1)) then ⟨pan, v, s.σ.take n₀, s.wr.filter fun p => decide (p.1 < n₀)⟩
  else ⟨pan, v, s.σ, s.wr.filter fun p => decide (p.1 < n₀)⟩

/-- The marks of loops: their blocks are shut. -/
def shut : List IObj → List Nat → Option (List IObj)
  | σ, [] => some σ
  | σ, id :: ids => match σ[id]? with
    | some .defr => shut (σ.set id .dead) ids
    | _ => none

/-- The function's end: its loops' blocks, its results. -/
def retI (n₀ : Nat) (res : List RV) (s : St) : Option Out :=
  match shut s.σ s.ts.ds with
  | some σ => match readRes res { s with σ := σ, wr := (s.ts.ds.map fun id => (id, false)) ++ s.wr } with
    | some (vs, s') => if vs.all nt then some (finish n₀ false (tupV vs) s') else none
    | none => none
  | none => none

def callI (ev : ICode → St → Option (IExit × St)) (fn : IFunc) (args : List IVal) (σ : List IObj) : Option Out :=
  match ev fn.body { ts := (Ts.mk fn.nv fn.m (Tm.empty fn.dep) []).fill 0 args, σ := σ, wr := [] } with
  | some (.normal, s) => retI σ.length fn.res s
  | some (.ret, s) => retI σ.length fn.res s
  | some (.panic v, s) => match s.ts.ds with
    | [] => some (finish σ.length true v s)
    | _ => none
  | _ => none

def IProg := FuncId → Option IFunc

def Tm.un : Tm → Tm
  | .leaf => .leaf
  | .node l c r => .node l.un (match c with | some (i, v) => some (i, un3 v) | none => none) r.un

def Ts.setAll (ts : Ts) : List Nat → List IVal → Option Ts
  | [], [] => some ts
  | p :: ps, v :: vs => (ts.set p v).setAll ps vs
  | _, _ => none

def isJump : IExit → Bool
  | .exit _ => true
  | .goto _ => true
  | .ret => true
  | _ => false

/-- One round of a loop over a function. -/
def roundI (ev : ICode → St → Option (IExit × St)) (id : Nat) (args : List IVal) (σ : List IObj) : Option Out :=
  match σ[id]? with
  | some (.loop l) => match l.st, l.ts.setAll l.ps args with
    | 0, some ts => match ev l.a { ts := ts, σ := σ, wr := [] } with
      | some (.normal, s) => match s.σ[id]? with
        | some (.loop l1) => match l1.st with
          | 0 => match ev l.b { s with σ := s.σ.set id (.loop { l1 with st := 1 }), wr := (id, false) :: s.wr } with
            | some (x, s2) => match s2.σ[id]? with
              | some (.loop l2) => match x with
                | .normal => some (finish σ.length false (.bool true) { s2 with σ := s2.σ.set id (.loop { l2 with st := 0, pend := none }), wr := (id, false) :: s2.wr })
                | x => if isJump x then some (finish σ.length false (.bool false) { s2 with σ := s2.σ.set id (.loop { l2 with st := 2, pend := some x }), wr := (id, false) :: s2.wr }) else none
              | _ => none
            | none => none
          | _ => none
        | _ => none
      | _ => none
    | _, _ => none
  | _ => none

def eval (F : IProg) : Nat → ICode → St → Option (IExit × St)
  | 0, _, _ => none
  | n + 1, c, s =>
    let cf : CallF := fun f args σ => match f with
      | .f f => match F f with
        | some fn => callI (eval F n) fn args σ
        | none => none
      | .y id => roundI (eval F n) id args σ
    match c with
    | .stuck => none
    | .skip => some (.normal, s)
    | .label _ => some (.normal, s)
    | .exit id => some (.exit id, s)
    | .goto l => some (.goto l, s)
    | .ret => some (.ret, s)
    | .ops l => runOps cf l s
    | .draw l pairs => match runDraw cf l s with
      | some (s', log) => if pairsOK pairs log then some (.normal, s') else none
      | none => none
    | .seq a b => match eval F n a s with
      | some (.normal, s') => eval F n b s'
      | r => r
    | .cond x a b => match x.get s.ts with
      | some (.bool true, _) => eval F n a s
      | some (.bool false, _) => eval F n b s
      | _ => none
    | .block id b => match eval F n b s with
      | some (.exit i, s') => if i = id then some (.normal, s') else some (.exit i, s')
      | r => r
    | .loop b => match eval F n b s with
      | some (.normal, s') => eval F n (.loop b) s'
      | r => r
    | .scope b => match eval F n b s with
      | some (.goto _, _) => none
      | r => r
    | .rangeF x ps a b => match x.get s.ts with
      | some (.fn (.func g) us ws, _) =>
        let k := s.σ.length
        match cf (.f g) (us ++ [.yl (k + 1)] ++ ws) (s.σ ++ [.defr, .loop ⟨0, { s.ts with t := s.ts.t.un, ds := [] }, ps, a, b, none⟩]) with
        | some ⟨false, _, σ', wr'⟩ => match σ'[k + 1]? with
          | some (.loop l) => if l.st = 1 then none else
            let s' : St := { ts := { s.ts with ds := k :: s.ts.ds }, σ := σ'.set (k + 1) .dead, wr := (k + 1, false) :: (wr' ++ s.wr) }
            match l.pend with
            | none => some (.normal, s')
            | some x => if isJump x then some (x, s') else none
          | _ => none
        | _ => none
      | _ => none

end Go.Idl
