/- The ideal machine and its evaluators, part 1; no conditions. -/
import Derived.LoopIn
import Derived.OrdersIn
import Derived.Laws.Append
import Derived.Below
import Derived.RangeFuncCalls
import Derived.Laws.Small
import Derived.Laws.StructEq
import Derived.Lib.FrozenHead
set_option linter.unusedSectionVars false
set_option linter.unusedVariables false
set_option linter.unusedSimpArgs false
namespace Go.Idl
theorem rA.{u} : type_of% @List.getElem?_set_ne.{u} := @List.getElem?_set_ne.{u}
theorem rB : type_of% @decide_eq_true := @decide_eq_true
theorem rC.{u} : type_of% @List.length_set.{u} := @List.length_set.{u}
theorem rD.{u} : type_of% @List.all_eq_true.{u} := @List.all_eq_true.{u}
theorem rE : type_of% @decide_eq_false := @decide_eq_false
theorem rF.{u} : type_of% @List.length_append.{u} := @List.length_append.{u}
theorem rG.{u} : type_of% @List.getElem?_eq_getElem.{u} := @List.getElem?_eq_getElem.{u}
theorem rH.{u} : type_of% @List.getElem?_set_self.{u} := @List.getElem?_set_self.{u}
theorem rI : type_of% @Int.toNat_natCast := @Int.toNat_natCast
theorem rJ.{u,v} : type_of% @List.getElem?_map.{u,v} := @List.getElem?_map.{u,v}
theorem rK.{u} : type_of% @List.mem_cons_of_mem.{u} := @List.mem_cons_of_mem.{u}
theorem rM.{u} : type_of% @List.append_nil.{u} := @List.append_nil.{u}
theorem rO.{u,v} : type_of% @List.flatMap_cons.{u,v} := @List.flatMap_cons.{u,v}
theorem rP : type_of% @Nat.le_refl := @Nat.le_refl
theorem rR.{u,v} : type_of% @List.map_cons.{u,v} := @List.map_cons.{u,v}
theorem rS.{u} : type_of% @List.getElem?_append_right.{u} := @List.getElem?_append_right.{u}
theorem rT.{u,v} : type_of% @Option.map_eq_some_iff.{u,v} := @Option.map_eq_some_iff.{u,v}
theorem rU.{u} : type_of% @List.take_of_length_le.{u} := @List.take_of_length_le.{u}
theorem rV.{u} : type_of% @List.getElem?_eq_none.{u} := @List.getElem?_eq_none.{u}
theorem rW.{u} : type_of% @List.mem_append_right.{u} := @List.mem_append_right.{u}
theorem rY.{u} : type_of% @Option.some.inj.{u} := @Option.some.inj.{u}
theorem rZ.{u} : type_of% @List.mem_append_left.{u} := @List.mem_append_left.{u}
theorem r5.{u} : type_of% @List.take_succ_cons.{u} := @List.take_succ_cons.{u}
theorem r7.{u} : type_of% @List.set_set.{u} := @List.set_set.{u}
theorem r8 : type_of% @Bool.false_eq_true := @Bool.false_eq_true
theorem r9.{u} : type_of% @List.mem_of_mem_take.{u} := @List.mem_of_mem_take.{u}
theorem tA.{u} : type_of% @List.getElem?_drop.{u} := @List.getElem?_drop.{u}
theorem tB.{u} : type_of% @List.length_cons.{u} := @List.length_cons.{u}
theorem tC.{u,v} : type_of% @List.zip_cons_cons.{u,v} := @List.zip_cons_cons.{u,v}
theorem tD.{u} : type_of% @List.getElem?_take.{u} := @List.getElem?_take.{u}
theorem tE.{u} : type_of% @List.length_take.{u} := @List.length_take.{u}
theorem tF.{u} : type_of% @List.mem_of_mem_drop.{u} := @List.mem_of_mem_drop.{u}
theorem tH : type_of% @Nat.add_mul := @Nat.add_mul
theorem tI.{u} : type_of% @List.cons_append.{u} := @List.cons_append.{u}
theorem tJ.{u} : type_of% @List.nil_append.{u} := @List.nil_append.{u}
theorem tL.{u,v,w} : type_of% @List.getElem?_zipWith.{u,v,w} := @List.getElem?_zipWith.{u,v,w}
theorem tM.{u,v} : type_of% @List.zip_nil_right.{u,v} := @List.zip_nil_right.{u,v}
theorem tN.{u} : type_of% @List.drop_of_length_le.{u} := @List.drop_of_length_le.{u}
theorem tO.{u,v} : type_of% @List.mem_map.{u,v} := @List.mem_map.{u,v}
theorem tP.{u} : type_of% @List.cons.injEq.{u} := @List.cons.injEq.{u}
theorem tR.{u} : type_of% @List.drop_succ_cons.{u} := @List.drop_succ_cons.{u}
theorem tS : type_of% @Nat.zero_add := @Nat.zero_add
theorem tT : type_of% @Bool.not_eq_true' := @Bool.not_eq_true'
theorem tU.{u,v} : type_of% @Option.map_some.{u,v} := @Option.map_some.{u,v}
theorem tV : type_of% @Nat.mul_le_mul_right := @Nat.mul_le_mul_right
theorem tW.{u} : type_of% @List.perm_middle.{u} := @List.perm_middle.{u}
theorem zO {α : Type _} (a b : α) : (some a = some b) = (a = b) := Option.some.injEq a b
theorem zN {n m : Nat} (h : Nat.beq n m = true) : n = m := Nat.eq_of_beq_eq_true h
theorem zE {n m : Nat} (h : Nat.beq n m = false) : ¬n = m := Nat.ne_of_beq_eq_false h
theorem zA (a b : Bool) : ((a && b) = true) = (a = true ∧ b = true) := Bool.and_eq_true a b
theorem zM {α : Type _} {l : List α} {i : Nat} {a : α} (e : l[i]? = some a) : a ∈ l := List.mem_of_getElem? e
theorem zP {α : Type _} {β : Type _} (a : α) (b : β) (c : α) (d : β) : ((a, b) = (c, d)) = (a = c ∧ b = d) := Prod.mk.injEq a b c d
theorem zL {α : Type _} {l m : List α} {n : Nat} (h : n < l.length) : (l ++ m)[n]? = l[n]? := List.getElem?_append_left h
theorem zR {α : Type _} {l m : List α} {n : Nat} (h : l.length ≤ n) : (l ++ m)[n]? = m[n - l.length]? := rS h
theorem zS {α : Type _} (a b c : List α) : a ++ b ++ c = a ++ (b ++ c) := List.append_assoc a b c
inductive IVal where
 | int (k : IntKind) (n : Int)
 | bool (b : Bool)
 | str (s : List UInt8)
 | prim (v : Value)
 | sl (own : Nat) (ref : Bool) (xs : List IVal)
 | rs (esz id off len : Nat)
 | ptr (id off : Nat)
 | pv (ref : Bool) (cs : List IVal) (off : Nat)
 | map (id : Nat)
 | yl (id : Nat)
 | fn (f : Fn) (xs ys : List IVal)
 | iface (t : TypeId) (v : IVal)
 | agg (cs : List IVal)
 | tup (xs : List IVal)
 deriving Inhabited
def IVal.cells : IVal -> List IVal
 | .agg cs => cs
 | v => [v]
def IVal.isCell : IVal -> Bool
 | .agg _ => false
 | .tup _ => false
 | _ => true
def nr0 : IVal -> Bool
 | .int _ _ => true
 | .bool _ => true
 | .str _ => true
 | .prim _ => true
 | .sl _ r xs => !r || xs.isEmpty
 | .pv r _ _ => !r
 | _ => false
def nr1 : IVal -> Bool
 | .iface _ (.agg cs) => cs.all nr0
 | .iface _ v => nr0 v
 | .fn _ [] [] => true
 | v => nr0 v
def nr2 : IVal -> Bool
 | .agg cs => cs.all nr1
 | v => nr1 v
def nr3 : IVal -> Bool
 | .tup xs => xs.all nr2
 | v => nr2 v
def un1 : IVal -> IVal
 | .sl _ r xs => .sl 0 r xs
 | v => v
def un2 : IVal -> IVal
 | .agg cs => .agg (cs.map un1)
 | v => un1 v
def un3 : IVal -> IVal
 | .tup xs => .tup (xs.map un2)
 | v => un2 v
def nt : IVal -> Bool
 | .tup _ => false
 | _ => true
def jl : IVal := .tup []
inductive Tm where
 | leaf
 | node (l : Tm) (c : Option (Nat × IVal)) (r : Tm)
def Tm.get : Tm -> Nat -> Option (Nat × IVal)
 | .leaf, _ => none
 | .node l c r, k => bif Nat.beq k 0 then c else bif Nat.beq (k % 2) 1 then l.get (k / 2) else r.get (k / 2 - 1)
def Tm.set (x : Option (Nat × IVal)) : Tm -> Nat -> Tm
 | .leaf, _ => .leaf
 | .node l c r, k => bif Nat.beq k 0 then .node l x r else bif Nat.beq (k % 2) 1 then .node (l.set x (k / 2)) c r else .node l c (r.set x (k / 2 - 1))
def Tm.list : Tm -> List (Nat × IVal)
 | .leaf => []
 | .node l c r => c.toList ++ (l.list ++ r.list)
def Tm.empty : Nat -> Tm
 | 0 => .leaf
 | n + 1 => .node (Tm.empty n) none (Tm.empty n)
def Tm.has : Tm -> Nat -> Bool
 | .leaf, _ => false
 | .node l _ r, k => bif Nat.beq k 0 then true else bif Nat.beq (k % 2) 1 then l.has (k / 2) else r.has (k / 2 - 1)
structure Ts where
 nv : Nat
 m : Nat
 t : Tm
 ds : List Nat
def Ts.slot (ts : Ts) (j : Nat) : Nat := bif Nat.blt j ts.nv then j else ts.nv + (j - ts.nv) % ts.m
def Ts.get? (ts : Ts) (j : Nat) : Option IVal := match ts.t.get (ts.slot j) with
 | some (i, v) => bif Nat.beq i j then some v else none
 | none => none
def Ts.set (ts : Ts) (j : Nat) (v : IVal) : Ts := { ts with t := ts.t.set (some (j, v)) (ts.slot j) }
def Ts.fill (ts : Ts) : Nat -> List IVal -> Ts
 | _, [] => ts
 | j, v :: vs => (ts.set j v).fill (j + 1) vs
inductive Opd where
 | t (i : Nat)
 | m (i : Nat)
 | c (v : IVal)
def Opd.get (x : Opd) (ts : Ts) : Option (IVal × Ts) :=
 match x with
 | .t i => match ts.get? i with
   | some v => some (un3 v, ts)
   | none => none
 | .m i => match ts.get? i with
   | some v => some (v, ts.set i (un3 v))
   | none => none
 | .c v => some (v, ts)
def getAll : List Opd -> Ts -> Option (List IVal × Ts)
 | [], ts => some ([], ts)
 | x :: xs, ts => match x.get ts with
   | some (v, ts1) => match getAll xs ts1 with
     | some (vs, ts2) => some (v :: vs, ts2)
     | none => none
   | none => none
inductive IConv where
 | int (k : IntKind)
 | bytes            -- string to bytes
 | text             -- bytes to string
 | same
 | rune             -- int to string, below 128
inductive RecvK where
 | same
 | fld (off : Nat) (n : Option Nat)
inductive ExtK where
 | typeOf (rt G : Nat)
 | vType (rt G : Nat)
 | vIsNil (G : Nat) (tab : List TypeId)
 | vElem (G : Nat) (tab : List (TypeId × TypeId × Nat))
 | rElem (rt G : Nat) (tab : List (TypeId × TypeId))
 | rCmp (G : Nat) (tab : List (TypeId × Bool))
 | rImpl (G : Nat) (tab : List ((TypeId × TypeId) × Bool))
 | rAsg (G : Nat) (tab : List ((TypeId × TypeId) × Bool))
 | aKind (G : Nat) (tab : List (TypeId × Nat))
 | cntS
 | idxBS
 | mk0 (a : Bool)
 | mk1 (a : Bool)
inductive MemK where
 | aload (k : IntKind)
 | astore (k : IntKind)
 | acas (k : IntKind)
 | aadd (k : IntKind)
 | uptr
 | iter
 | next
 | mclone
 | extN (esz bytes : Nat) (zs : List IVal)
 | bytesR
 | textR
 | talloc (T : TypeId) (zs : List IVal)
 | unp (T : TypeId) (n : Nat)
 | noesc
 | bapp (T : TypeId)
 | sdat
 | ustr (T : TypeId)
inductive PurK where
 | ext (k : ExtK)
 | invX (tab : List (TypeId × ExtK × RecvK))
 | eqa (neg : Bool) (ks : List Nat)
 | text
 | rune
 | tyC (t : TypeId) (ok : Bool) (z : IVal)
 | tyI (yes no : List TypeId) (ok : Bool)
 | isnilS (neg : Bool)
 | cap0
 | slA (n : Nat)
 | eqi (neg : Bool) (ks : List (TypeId × Nat))
 | eqp (neg : Bool)
 | mkM (n : String)
 | nilM (ts : List TypeId) (n : String)
inductive IOp where
 | pur (k : PurK) (xs : List Opd)
 | mv (x : Opd)
 | pick (c a b : Opd)
 | alloc (zs : List IVal)
 | box (x : Opd)
 | boxv (x : Opd)
 | build (zs : List IVal) (parts : List (Nat × Nat × Opd))
 | buildSl (esz : Nat) (xs : List Opd)
 | buildRs (esz : Nat) (xs : List Opd)
 | load (mvf : Bool) (n : Option Nat) (x : Opd)
 | store (n : Nat) (x v : Opd)
 | nilCheck (x : Opd)
 | bin (op : BinOp) (x y : Opd)
 | isnil (neg : Bool) (k : Nat) (x : Opd)
 | eqa (neg : Bool) (x y : Opd)
 | eqb (neg : Bool) (x y : Opd)
 | un (op : UnOp) (x : Opd)
 | conv (c : IConv) (x : Opd)
 | mkIface (t : TypeId) (x : Opd)
 | mkFn (f : Fn) (xs ys : List Opd)
 | mkMap
 | mkSl (byref : Bool) (esz bytes : Nat) (zs : List IVal) (len cap : Opd)
 | sliceS (x : Opd) (lo hi : Option Opd)
 | sliceL (esz : Nat) (x : Opd) (lo hi mx : Option Opd)
 | fieldAddr (off : Nat) (x : Opd)
 | field (off : Nat) (n : Option Nat) (x : Opd)
 | idxAddr (esz : Nat) (x i : Opd)
 | idxAddrA (len esz : Nat) (x i : Opd)
 | idxS (x i : Opd)
 | idxA (len esz : Nat) (n : Option Nat) (x i : Opd)
 | lookup (kk : Nat) (z : IVal) (ok : Bool) (x k : Opd)
 | mapSet (kk : Nat) (m k v : Opd)
 | extract (x : Opd) (i : Nat)
 | append (byref str : Bool) (esz bytes : Nat) (s x : Opd)
 | copy (str : Bool) (esz : Nat) (s x : Opd)
 | clear (zs : List IVal) (x : Opd)
 | lenS (x : Opd)
 | lenL (x : Opd)
 | lenM (x : Opd)
 | minmax (mx : Bool) (xs : List Opd)
 | call (f : FuncId) (xs : List Opd)
 | callp (f : FuncId) (xs : List Opd)
 | callv (f : Opd) (xs : List Opd)
 | inv (tab : List (TypeId × FuncId × RecvK)) (x : Opd) (xs : List Opd)
 | vOf (G : Nat) (tab : List (TypeId × Nat)) (x : Opd)
 | vSet (G : Nat) (tab : List TypeId) (x y : Opd)
 | panic (x : Opd)
 | mem (k : MemK) (xs : List Opd)
structure IOper where
 dst : Option Nat
 op : IOp
 guard : Option (Nat × Bool)
structure DInfo where
 g : FuncId
 nt : Nat
 nv : Nat
 m : Nat
 dep : Nat
 slot : Option Nat
abbrev ZY := (Nat -> Option (List IVal)) -> (Nat -> Option (List (IVal × IVal))) -> List IVal -> Option IVal
inductive ICode where
 | skip
 | ops (l : List IOper)
 | draw (l : List (Nat × IOper)) (pairs : List (Nat × Nat))
 | seq (a b : ICode)
 | cond (x : Opd) (a b : ICode)
 | block (id : Nat) (b : ICode)
 | loop (b : ICode)
 | exit (id : Nat)
 | scope (b : ICode)
 | label (l : Nat)
 | goto (l : Nat)
 | ret
 | stuck
 | rangeF (x : Opd) (ps : List Nat) (a b : ICode)
 | dfr (l : List IOper) (x : Opd) (xs : List Opd) (d : DInfo) (c b : ICode)
 | lib (p : ZY)
inductive XOpd where
 | v (i : Nat)
 | m (i : Nat)
 | s (d : Nat)
 | u (d : Nat)
 | n (d : Nat)
 | c (x : IVal)
inductive XDst where
 | push
 | var (i : Nat)
 | drop
structure XOper where
 op : IOp
 xs : List XOpd
 pop : Nat
 dst : XDst
 g : Option (XOpd × Bool)
inductive XCode where
 | skip
 | ops (keep : Bool) (l : List XOper)
 | draw (keep : Bool) (l : List (Nat × XOper)) (pairs : List (Nat × Nat))
 | seq (a b : XCode)
 | cond (x : XOpd) (a b : XCode)
 | block (id : Nat) (b : XCode)
 | loop (ks : List Nat) (b : XCode)
 | exit (id : Nat)
 | scope (b : XCode)
 | ret
 | stuck
 | rangeF (x : XOpd) (ps : List Nat) (a b : XCode)
 | dfr (l : List XOper) (x : XOpd) (xs : List XOpd) (g nv : Nat) (slot : Option Nat) (c b : XCode)
 | lib (p : ZY)
structure XL where
 vs : List (Nat × IVal)
 a : XCode
 b : XCode
def XL.none : XL := ⟨[], .skip, .skip⟩
inductive IExit where
 | normal
 | exit (id : Nat)
 | goto (l : Nat)
 | ret
 | panic (v : IVal)
structure ILoop where
 st : Nat
 ts : Ts
 ps : List Nat
 a : ICode
 b : ICode
 pend : Option IExit
 x : XL
inductive IObj where
 | cells (cs : List IVal)
 | map (es : List (IVal × IVal))
 | loop (l : ILoop)
 | defr
 | it (s : List UInt8) (pos : Nat)
 | ty (T n k : Nat)
 | dead
instance : Inhabited IObj := ⟨.dead⟩
inductive RV where
 | t (i : Nat)
 | cell (i : Nat) (n : Option Nat)
structure IFunc where
 nt : Nat
 nv : Nat
 m : Nat
 dep : Nat
 body : ICode
 res : List RV
structure St where
 ts : Ts
 σ : List IObj
 wr : List (Nat × Bool)
structure Out where
 pan : Bool
 v : IVal
 σ : List IObj
 wr : List (Nat × Bool)
structure Res where
 pan : Bool
 v : IVal
 s : St
def rv (v : IVal) (ts : Ts) (s : St) : Option Res := some ⟨false, v, { s with ts := ts }⟩
def j0 (op : BinOp) (k : IntKind) (x y : Int) : Option IVal :=
 match op with
 | .add => some (.int k (k.wrap (x + y)))
 | .sub => some (.int k (k.wrap (x - y)))
 | .mul => some (.int k (k.wrap (x * y)))
 | .quo => if y = 0 then none else some (.int k (k.wrap (x.tdiv y)))
 | .rem => if y = 0 then none else some (.int k (x.tmod y))
 | .and => some (.int k (k.wrap (BitVec.ofInt k.bits x &&& BitVec.ofInt k.bits y).toNat))
 | .or => some (.int k (k.wrap (BitVec.ofInt k.bits x ||| BitVec.ofInt k.bits y).toNat))
 | .xor => some (.int k (k.wrap (BitVec.ofInt k.bits x ^^^ BitVec.ofInt k.bits y).toNat))
 | .andNot => some (.int k (k.wrap (BitVec.ofInt k.bits x &&& ~~~BitVec.ofInt k.bits y).toNat))
 | .eql => some (.bool (x == y))
 | .neq => some (.bool (x != y))
 | .lss => some (.bool (decide (x < y)))
 | .leq => some (.bool (decide (x <= y)))
 | .gtr => some (.bool (decide (x > y)))
 | .geq => some (.bool (decide (x ≥ y)))
 | _ => none
def j6 (op : BinOp) (x y : List UInt8) : Option IVal :=
 match op with
 | .add => if x.length + y.length <= 1099511627776 then some (.str (x ++ y)) else none
 | .eql => some (.bool (x == y))
 | .neq => some (.bool !(x == y))
 | .lss => some (.bool (Op.bytesLess x y))
 | .leq => some (.bool (Op.bytesLess x y || x == y))
 | .gtr => some (.bool !(Op.bytesLess x y || x == y))
 | .geq => some (.bool !(Op.bytesLess x y))
 | _ => none
def QP (op : BinOp) (k : IntKind) (x y : Int) : Option IVal :=
 if y < 0 then none else
 match op with
 | .shl => some (.int k (k.wrap (x * 2 ^ (min y.toNat k.bits))))
 | .shr => some (.int k (x.fdiv (2 ^ (min y.toNat k.bits))))
 | _ => none
def bin (op : BinOp) (x y : IVal) : Option IVal :=
 match x, y with
 | .int k a, .int k' b =>
   match op with
   | .shl => QP .shl k a b
   | .shr => QP .shr k a b
   | op => if k = k' then j0 op k a b else none
 | .str a, .str b => j6 op a b
 | _, _ => none
def unI (op : UnOp) (x : IVal) : Option IVal :=
 match op, x with
 | .neg, .int k n => some (.int k (k.wrap (0 - n)))
 | .xor, .int k n => j0 .xor k (if k.signed then -1 else k.max) n
 | .not, .bool b => some (.bool !b)
 | _, _ => none
def qh : IVal -> IVal -> Option Bool
 | .int k a, .int k' b => if k = k' then some (a == b) else none
 | .bool a, .bool b => some (a == b)
 | .str a, .str b => some (a == b)
 | _, _ => none
def Yz : List IVal -> List IVal -> Option Bool
 | [], [] => some true
 | x :: xs, y :: ys => match qh x y with
   | some true => Yz xs ys
   | some false => some false
   | none => none
 | _, _ => none
def isNil : Nat -> IVal -> Option Bool
 | 0, .prim (.pointer none) => some true
 | 0, .ptr _ _ => some false
 | 0, .pv _ _ _ => some false
 | 1, .prim .nilIface => some true
 | 1, .iface _ _ => some false
 | 2, .prim .nilFunc => some true
 | 2, .fn _ _ _ => some false
 | 3, .prim (.map none) => some true
 | 3, .map _ => some false
 | _, _ => none
def Jf : Nat -> IVal -> Bool
 | 0, .int _ _ => true
 | 1, .str _ => true
 | 2, .bool _ => true
 | _, _ => false
def YH (k : IVal) : List (IVal × IVal) -> Option (Option IVal)
 | [] => some none
 | (k', v) :: es => match qh k k' with
   | some true => some (some v)
   | some false => YH k es
   | none => none
def jbY (k v : IVal) : List (IVal × IVal) -> Option (List (IVal × IVal))
 | [] => some [(k, v)]
 | (k', v') :: es => match qh k k' with
   | some true => some ((k, v) :: es)
   | some false => match jbY k v es with
     | some es' => some ((k', v') :: es')
     | none => none
   | none => none
def jA (n : Option Nat) (cs : List IVal) (off : Nat) : Option IVal :=
 match n with
 | some n => if off + n <= cs.length then some (.agg ((cs.drop off).take n)) else none
 | none => cs[off]?
def jb (cs : List IVal) (off : Nat) : List IVal -> List IVal
 | [] => cs
 | v :: vs => jb (cs.set off v) (off + 1) vs
def yZ : List IVal -> List (Nat × Nat × IVal) -> Option (List IVal)
 | cs, [] => some cs
 | cs, (off, size, v) :: rest =>
   if v.cells.length = size /\ off + size <= cs.length /\ v.cells.all IVal.isCell = true then yZ (jb cs off v.cells) rest else none
def jX (r : Bool) (xs ys : List IVal) : Bool := if ys.isEmpty then r else ((!xs.isEmpty && r) || !(ys.all nr2))
def X4 (r : Bool) (l h n : Nat) : Bool := r && (decide (l < h) || decide (n = 0))
def YL (esz : Nat) : List IVal -> Bool
 | [] => true
 | v :: _ => v.cells.length == esz
def nilOwn (esz : Nat) : IVal -> IVal
 | .sl _ true [] => .sl esz true []
 | v => v
theorem nilOwn_self (esz : Nat) (r : Bool) (xs : List IVal) : nilOwn esz (.sl esz r xs) = .sl esz r xs := by
 cases r <;> cases xs <;> rfl
def Vi (own esz l h n : Nat) : Nat := if h = n /\ own = esz /\ (l < h \/ h = 0) then own else 0
def jaF (esz : Nat) (l c : Int) : Nat := if l = 0 /\ c ≠ 0 then 0 else esz
def Qe : List IVal -> IVal
 | [z] => un1 z
 | zs => .agg (zs.map un1)
def J1 (n : Nat) (zs : List IVal) : List IVal := (List.replicate n zs).flatten
def nat (x : Int) : Option Nat := if 0 <= x then some x.toNat else none
def jq (x : Option Opd) (ts : Ts) (dflt : Nat) : Option Nat :=
 match x with
 | none => some dflt
 | some x => match x.get ts with
   | some (.int _ n, _) => nat n
   | _ => none
def jc (σ : List IObj) (id : Nat) : Option (List IVal) :=
 match σ[id]? with
 | some (.cells cs) => some cs
 | _ => none
def zJ (esz n : Nat) (cs : List IVal) : List IVal := (List.range n).map fun i => .agg ((cs.drop (i * esz)).take esz)
def jh (str : Bool) (esz : Nat) (x : IVal) (σ : List IObj) : Option (List IVal) :=
 match str, x with
 | true, .str s => if esz = 1 then some (s.map fun b => .int .u8 b.toNat) else none
 | false, .sl _ _ xs => if xs.all (fun v => v.cells.length == esz) then some xs else none
 | false, .rs e id off len =>
   if e = 1 /\ esz = 1 then
     match jc σ id with
     | some cs => if off + len <= cs.length then some ((cs.drop off).take len) else none
     | none => none
   else if e = esz /\ 1 < esz then
     match jc σ id with
     | some cs => if off + len * esz <= cs.length then some (zJ esz len (cs.drop off)) else none
     | none => none
   else none
 | _, _ => none
def jz (s : St) (id : Nat) (v : List IVal) : List (Nat × Bool) := (id, !(v.all nr1)) :: s.wr
def eqK : List Nat -> List IVal -> List IVal -> Option Bool
 | [], [], [] => some true
 | k :: ks, x :: xs, y :: ys => if Jf k x then match qh x y with
   | some true => eqK ks xs ys
   | some false => some false
   | none => none
   else none
 | _, _, _ => none
def vB : List IVal -> Option (List UInt8)
 | [] => some []
 | .int .u8 n :: xs => match vB xs with
   | some l => some (UInt8.ofNat n.toNat :: l)
   | none => none
 | _ :: _ => none
def zG : IVal := .prim .nilIface
def KD (ok : Bool) (v : IVal) : IVal := if ok then .tup [v, .bool true] else v
def V3 (G : Nat) (t : TypeId) : IVal := .prim (.pointer (some ⟨G, t, none⟩))
def rtI (rt G : Nat) (t : TypeId) : IVal := .iface rt (.agg [V3 G t])
def K9 (G : Nat) : IVal -> Option TypeId
 | .prim (.pointer (some ⟨b, t, none⟩)) => if b = G then some t else none
 | _ => none
def J8 : RecvK -> IVal -> Option IVal
 | .same, v => some v
 | .fld off n, .agg cs => jA n cs off
 | _, _ => none
def X8 (c : Nat) : List UInt8 -> Nat -> Nat
 | [], n => n
 | b :: s, n => X8 c s (bif Nat.beq b.toNat c then n + 1 else n)
def Q2 (c : Nat) : List UInt8 -> Nat -> Int
 | [], _ => -1
 | b :: s, k => bif Nat.beq b.toNat c then (k : Int) else Q2 c s (k + 1)
def jO : MemK -> List IVal -> List IObj -> Option (IVal × List IObj × List (Nat × Bool))
 | .aload k, [.ptr id off], σ => match jc σ id with
   | some cs => match cs[off]? with
     | some (.int k' n) => if k = k' then some (.int k n, σ, []) else none
     | _ => none
   | none => none
 | .astore k, [.ptr id off, .int k1 y], σ => match jc σ id with
   | some cs => if off < cs.length /\ k = k1 then some (.tup [], σ.set id (.cells (jb cs off [.int k y])), [(id, false)]) else none
   | none => none
 | .acas k, [.ptr id off, .int k1 x, .int k2 y], σ => match jc σ id with
   | some cs => match cs[off]? with
     | some (.int k' n) => if k = k' /\ k = k1 /\ k = k2 then (if n = x then some (.bool true, σ.set id (.cells (jb cs off [.int k y])), [(id, false)]) else some (.bool false, σ, [])) else none
     | _ => none
   | none => none
 | .aadd k, [.ptr id off, .int k1 y], σ => match jc σ id with
   | some cs => match cs[off]? with
     | some (.int k' n) => if k = k' /\ k = k1 then some (.int k (k.wrap (n + y)), σ.set id (.cells (jb cs off [.int k (k.wrap (n + y))])), [(id, false)]) else none
     | _ => none
   | none => none
 | .uptr, [.ptr id off], σ => match jc σ id with
   | some cs => if off < cs.length then some (.ptr id off, σ, []) else none
   | none => none
 | .iter, [.str s], σ => some (.ptr σ.length 0, σ ++ [.it s 0], [])
 | .next, [.ptr id 0], σ => match σ[id]? with
   | some (.it s pos) => match s[pos]? with
     | some b => if b.toNat < 128 then some (.tup [.bool true, .int .i64 pos, .int .i32 b.toNat], σ.set id (.it s (pos + 1)), [(id, false)])
       else some (.tup [.bool true, .int .i64 pos, .int .i32 (Utf8.decode ⟨s.toArray⟩ pos).1], σ.set id (.it s (pos + (Utf8.decode ⟨s.toArray⟩ pos).2)), [(id, false)])
     | none => some (.tup [.bool false], σ, [])
   | _ => none
 | .mclone, [.iface t (.map id)], σ => match σ[id]? with
   | some (.map es) => some (.iface t (.map σ.length), σ ++ [.map es], [])
   | _ => none
 | .extN e b zs, [.sl _ true [], .int .i64 n], σ => if 0 < n /\ n * b <= 140737488355328 /\ n <= 1099511627776 /\ zs.length = e /\ 0 < e then some (.rs e σ.length 0 n.toNat, σ ++ [.cells (J1 n.toNat zs)], []) else none
 | .bytesR, [.str s], σ => some (.rs 1 σ.length 0 s.length, σ ++ [.cells (s.map fun c => .int .u8 c.toNat)], [])
 | .textR, [.rs 1 id off len], σ => match jc σ id with
   | some cs => match vB ((cs.drop off).take len) with
     | some l => if off + len <= cs.length then some (.str l, σ, []) else none
     | none => none
   | none => none
 | .talloc T zs, [], σ => some (.ptr σ.length 0, σ ++ [.cells zs] ++ [.ty T zs.length σ.length], [])
 | .unp T n, [.ptr id 0], σ => match σ[id + 1]? with
   | some (.ty T' n' k) => if T' = T /\ n' = n /\ n' ≠ 0 /\ k = id then some (.ptr id 0, σ, []) else none
   | _ => none
 | .noesc, [.ptr id off], σ => some (.ptr id off, σ, [])
 | .bapp T, [.sl own true [], .str s], σ => if s.length = 0 then some (.sl own true [], σ, []) else if s.length <= 1099511627776 then
     some (.rs 1 σ.length 0 s.length, σ ++ [.cells (s.map fun c => .int .u8 c.toNat)] ++ [.ty T 0 σ.length], []) else none
 | .bapp T, [.rs 1 id 0 len, .str s], σ => match jc σ id with
   | some cs => match σ[id + 1]? with
     | some (.ty T' _ k) => if T' = T /\ k = id /\ len <= cs.length /\ len + s.length <= 1099511627776 then
         some (.rs 1 σ.length 0 (len + s.length), σ.set id .dead ++ [.cells (cs.take len ++ s.map fun c => .int .u8 c.toNat)] ++ [.ty T 0 σ.length], [(id, false)]) else none
     | _ => none
   | none => none
 | .sdat, [.sl _ true []], σ => some (.prim (.pointer none), σ, [])
 | .sdat, [.rs 1 id 0 len], σ => if 0 < len then some (.ptr id 0, σ, []) else none
 | .ustr _, [.prim (.pointer none), .int .i64 n], σ => if n = 0 then some (.str [], σ, []) else none
 | .ustr T, [.ptr id 0, .int .i64 n], σ => match jc σ id with
   | some cs => match σ[id + 1]?, vB (cs.take n.toNat) with
     | some (.ty T' _ k), some l => if T' = T /\ k = id /\ 0 < n /\ n.toNat <= cs.length /\ n <= 1099511627776 then some (.str l, σ.set id .dead, [(id, false)]) else none
     | _, _ => none
   | none => none
 | _, _, _ => none
def j5 : ExtK -> List IVal -> Option IVal
 | .typeOf rt G, [.iface t _] => some (rtI rt G t)
 | .vType rt G, [.agg [h, .pv _ _ _, .int .u64 f]] => match K9 G h with
   | some t => if f = 150 then some (rtI rt G t) else none
   | none => none
 | .vIsNil G tab, [.agg [h, .pv _ [c] 0, .int .u64 f]] => match K9 G h with
   | some t => if f = 150 /\ tab.contains t = true then (match c with
     | .prim (.pointer none) => some (.bool true)
     | .ptr _ _ => some (.bool false)
     | .pv _ _ _ => some (.bool false)
     | _ => none) else none
   | none => none
 | .vElem G tab, [.agg [h, .pv _ [c] 0, .int .u64 f]] => match K9 G h with
   | some t => if f = 150 then (match tab.find? (fun p => p.1 == t) with
     | some (_, e, k) => (match c with
       | .ptr id off => some (.agg [V3 G e, .ptr id off, .int .u64 (k + 384 : Nat)])
       | _ => none)
     | none => none) else none
   | none => none
 | .rElem rt G tab, [.agg [h]] => match K9 G h with
   | some t => match tab.find? (fun p => p.1 == t) with
     | some (_, e) => some (rtI rt G e)
     | none => none
   | none => none
 | .rCmp G tab, [.agg [h]] => match K9 G h with
   | some t => match tab.find? (fun p => p.1 == t) with
     | some (_, b) => some (.bool b)
     | none => none
   | none => none
 | .rImpl G tab, [.agg [h], .iface _ (.agg [h'])] => match K9 G h, K9 G h' with
   | some t, some u => match tab.find? (fun p => p.1.1 == t && p.1.2 == u) with
     | some (_, b) => some (.bool b)
     | none => none
   | _, _ => none
 | .rAsg G tab, [.agg [h], .iface _ (.agg [h'])] => match K9 G h, K9 G h' with
   | some t, some u => match tab.find? (fun p => p.1.1 == t && p.1.2 == u) with
     | some (_, b) => some (.bool b)
     | none => none
   | _, _ => none
 | .aKind G tab, [h] => match K9 G h with
   | some t => match tab.find? (fun p => p.1 == t) with
     | some (_, n) => some (.int .u8 n)
     | none => none
   | none => none
 | .cntS, [.str s, .int .u8 c] => some (.int .i64 (X8 (c.toNat % 256) s 0 : Nat))
 | .idxBS, [.str s, .int .u8 c] => some (.int .i64 (Q2 (c.toNat % 256) s 0))
 | .mk0 _, [] => some (.tup [])
 | .mk1 _, [.ptr _ _] => some (.tup [])
 | _, _ => none
def jbO : IVal -> Bool
 | .ptr _ _ => true
 | .agg _ => true
 | _ => false
def jeH (ts : List TypeId) (n : String) : IVal -> Option IVal
 | .fn (.method n') [.iface t w] [] => if n = n' /\ ts.contains t = true /\ jbO w = true then some (.fn (.method n') [.iface t w] []) else none
 | _ => none
def jS : PurK -> List IVal -> Option IVal
 | .ext k, vs => j5 k vs
 | .invX tab, .iface t v :: vs => match tab.find? (fun p => p.1 == t) with
   | some (_, k, rk) => match J8 rk v with
     | some y => j5 k (y :: vs)
     | none => none
   | none => none
 | .eqa neg ks, [.agg a, .agg b] => if a.length = ks.length /\ b.length = ks.length then match eqK ks a b with
   | some r => some (.bool (r != neg))
   | none => none
   else none
 | .text, [.sl _ _ xs] => match vB xs with
   | some l => some (.str l)
   | none => none
 | .rune, [.int _ n] => if 0 <= n /\ n < 128 then some (.str [UInt8.ofNat n.toNat]) else some (.str (Utf8.encode n).data.toList)
 | .tyC t ok z, [.iface u v] => if u = t then some (KD ok v) else if ok && nt z then some (.tup [z, .bool false]) else none
 | .tyC _ ok z, [.prim .nilIface] => if ok && nt z then some (.tup [z, .bool false]) else none
 | .tyI yes no ok, [.iface u v] => if yes.contains u then some (KD ok (.iface u v)) else if ok && no.contains u then some (.tup [zG, .bool false]) else none
 | .tyI _ _ ok, [.prim .nilIface] => if ok then some (.tup [zG, .bool false]) else none
 | .mkM n, [x] => if nt x then some (.fn (.method n) [un2 x] []) else none
 | .nilM ts n, [x] => jeH ts n x
 | .cap0, [.sl _ true []] => some (.int .i64 0)
 | .slA n, [.pv r cs off] => if 0 < n /\ off + n <= cs.length then some (.sl 0 r ((cs.drop off).take n)) else none
 | .isnilS neg, [.sl _ _ (_ :: _)] => some (.bool neg)
 | .isnilS neg, [.sl _ r []] => some (.bool (r != neg))
 | .isnilS neg, [.rs _ _ _ _] => some (.bool neg)
 | .eqp neg, [.ptr i o, .ptr j p] => if i = j /\ o = p then some (.bool (true != neg)) else none
 | .eqi neg ks, [.iface t x, .iface u y] => if t = u then (match ks.find? (fun p => p.1 == t) with
     | some (_, k) => if Jf k x then (match qh x y with
       | some r => some (.bool (r != neg))
       | none => none) else none
     | none => none)
   else some (.bool neg)
 | .eqi neg _, [.iface _ _, .prim .nilIface] => some (.bool neg)
 | .eqi neg _, [.prim .nilIface, .iface _ _] => some (.bool neg)
 | _, _ => none
inductive Cal where
 | f (f : FuncId)
 | y (id : Nat)
abbrev kt := Cal -> List IVal -> List IObj -> Option Out
def jn (o : Out) (s : St) (ts : Ts) : Res := ⟨o.pan, o.v, { ts := ts, σ := o.σ, wr := o.wr ++ s.wr }⟩
def stepCall (cf : kt) (f : Cal) (vs : List IVal) (ts : Ts) (s : St) : Option Res :=
 match cf f vs s.σ with
 | some o => some (jn o s ts)
 | none => none
def ext (xs : List IVal) : Bool := !(xs.all nr2)
def ja (cf : kt) (o : IOp) (s : St) : Option Res :=
 match o with
 | .pur k xs => match getAll xs s.ts with
   | some (vs, ts) => match jS k vs with
     | some v => rv v ts s
     | none => none
   | none => none
 | .mv x => match x.get s.ts with
   | some (v, ts) => rv v ts s
   | none => none
 | .pick c a b => match c.get s.ts with
   | some (.bool true, ts) => match a.get ts with
     | some (v, ts) => rv v ts s
     | none => none
   | some (.bool false, ts) => match b.get ts with
     | some (v, ts) => rv v ts s
     | none => none
   | _ => none
 | .alloc zs => some ⟨false, .ptr s.σ.length 0, { s with σ := s.σ ++ [.cells zs] }⟩
 | .box x => match x.get s.ts with
   | some (v, ts) => if v.cells.all IVal.isCell then some ⟨false, .ptr s.σ.length 0, { s with ts := ts, σ := s.σ ++ [.cells v.cells] }⟩ else none
   | none => none
 | .boxv x => match x.get s.ts with
   | some (v, ts) => if v.cells.all IVal.isCell then rv (.pv (ext v.cells) (v.cells.map un1) 0) ts s else none
   | none => none
 | .build zs parts => match getAll (parts.map (·.2.2)) s.ts with
   | some (vs, ts) => if vs.all nt then match yZ zs ((parts.zip vs).map fun p => (p.1.1, p.1.2.1, un2 p.2)) with
     | some cs => rv (.agg cs) ts s
     | none => none
     else none
   | none => none
 | .buildSl esz xs => match getAll xs s.ts with
   | some (vs, ts) =>
     if vs.length <= 65536 /\ vs.all (fun v => v.cells.length == esz) /\ vs.all nt /\ vs.length * esz <= 16777216 then rv (.sl esz (ext vs) (vs.map un2)) ts s
     else none
   | none => none
 | .buildRs esz xs => match getAll xs s.ts with
   | some (vs, ts) =>
     if vs.length <= 65536 /\ vs.all (fun v => v.cells.length == esz) /\ vs.all nt /\ vs.length * esz <= 16777216 then
       some ⟨false, .rs esz s.σ.length 0 vs.length, { s with ts := ts, σ := s.σ ++ [.cells (vs.flatMap fun v => (un2 v).cells)] }⟩
     else none
   | none => none
 | .load mvf n x => match x.get s.ts with
   | some (.pv _ cs off, ts) => match jA n cs off with
     | some v => rv v ts s
     | none => none
   | some (.ptr id off, ts) => match jc s.σ id with
     | some cs => match jA n cs off with
       | some v =>
         if mvf then some ⟨false, v, { ts := ts, σ := s.σ.set id (.cells (jb cs off (un2 v).cells)), wr := (id, false) :: s.wr }⟩
         else rv (un2 v) ts s
       | none => none
     | none => none
   | _ => none
 | .store n x v => match x.get s.ts with
   | some (.ptr id off, ts) => match v.get ts with
     | some (v, ts) => match jc s.σ id with
       | some cs =>
         if v.cells.length = n /\ off + n <= cs.length /\ v.cells.all IVal.isCell then
           some ⟨false, jl, { ts := ts, σ := s.σ.set id (.cells (jb cs off v.cells)), wr := jz s id v.cells }⟩
         else none
       | none => none
     | none => none
   | _ => none
 | .vOf G tab x => match x.get s.ts with
   | some (.iface t v, ts) => match tab.find? (fun p => p.1 == t) with
     | some (_, k) => if v.cells.all IVal.isCell then rv (.agg [V3 G t, .pv (ext v.cells) (v.cells.map un1) 0, .int .u64 (k + 128 : Nat)]) ts s else none
     | none => none
   | _ => none
 | .vSet G tab x y => match x.get s.ts with
   | some (.agg [h, .ptr id off, .int .u64 f], ts) => match y.get ts with
     | some (.agg [h', .pv _ [v] 0, .int .u64 f'], ts) => match K9 G h, K9 G h' with
       | some t, some t' => if t = t' /\ f = 406 /\ f' = 150 /\ tab.contains t = true then (match jc s.σ id with
         | some cs =>
           if off < cs.length then
             some ⟨false, .tup [], { ts := ts, σ := s.σ.set id (.cells (jb cs off [v])), wr := jz s id [v] }⟩
           else none
         | none => none) else none
       | _, _ => none
     | _ => none
   | _ => none
 | .nilCheck x => match x.get s.ts with
   | some (.ptr id off, ts) => rv (.ptr id off) ts s
   | some (.pv r cs off, ts) => rv (.pv r cs off) ts s
   | some (.fn (.func f) us vs, ts) => rv (.fn (.func f) us vs) ts s
   | _ => none
 | .bin op x y => match x.get s.ts with
   | some (a, ts) => match y.get ts with
     | some (b, ts) => match bin op a b with
       | some v => rv v ts s
       | none => none
     | none => none
   | none => none
 | .isnil neg k x => match x.get s.ts with
   | some (a, ts) => match isNil k a with
     | some b => rv (.bool (b != neg)) ts s
     | none => none
   | none => none
 | .eqa neg x y => match x.get s.ts with
   | some (.agg a, ts) => match y.get ts with
     | some (.agg b, ts) => match Yz a b with
       | some r => rv (.bool (r != neg)) ts s
       | none => none
     | _ => none
   | _ => none
 | .eqb neg x y => match x.get s.ts with
   | some (.bool a, ts) => match y.get ts with
     | some (.bool b, ts) => rv (.bool ((a == b) != neg)) ts s
     | _ => none
   | _ => none
 | .un op x => match x.get s.ts with
   | some (a, ts) => match unI op a with
     | some v => rv v ts s
     | none => none
   | none => none
 | .conv c x => match x.get s.ts with
   | some (a, ts) => match c, a with
     | .int k, .int _ n => rv (.int k (k.wrap n)) ts s
     | .same, .str b => rv (.str b) ts s
     | .text, .sl _ _ xs => match vB xs with
       | some l => rv (.str l) ts s
       | none => none
     | .bytes, .str b => rv (.sl 0 false (b.map fun c => .int .u8 c.toNat)) ts s
     | .rune, .int _ n => if 0 <= n /\ n < 128 then rv (.str [UInt8.ofNat n.toNat]) ts s else none
     | _, _ => none
   | none => none
 | .mkIface t x => match x.get s.ts with
   | some (a, ts) => if nt a then rv (.iface t (un2 a)) ts s else none
   | none => none
 | .mkFn f xs ys => match getAll xs s.ts with
   | some (vs, ts) => match getAll ys ts with
     | some (us, ts) => if vs.all nt && us.all nt then rv (.fn f (vs.map un2) (us.map un2)) ts s else none
     | none => none
   | none => none
 | .mkMap => some ⟨false, .map s.σ.length, { s with σ := s.σ ++ [.map []] }⟩
 | .mkSl byref esz bytes zs len cap => match len.get s.ts with
   | some (.int _ l, ts) => match cap.get ts with
     | some (.int _ c, ts) =>
       if 0 <= l /\ l <= c /\ c * bytes <= 1099511627776 /\ c <= 1099511627776 /\ zs.length = esz /\ 0 < esz then
         if byref then some ⟨false, .rs esz s.σ.length 0 l.toNat, { s with ts := ts, σ := s.σ ++ [.cells (J1 c.toNat zs)] }⟩
         else if nr2 (Qe zs) = true /\ l <= 65536 then rv (.sl (jaF esz l c) false (List.replicate l.toNat (Qe zs))) ts s else none
       else none
     | _ => none
   | _ => none
 | .sliceS x lo hi => match x.get s.ts with
   | some (.str b, ts) => match jq lo ts 0, jq hi ts b.length with
     | some l, some h => if l <= h /\ h <= b.length then rv (.str ((b.take h).drop l)) ts s else none
     | _, _ => none
   | _ => none
 | .sliceL esz x lo hi mx => match x.get s.ts with
   | some (.sl own r xs, ts) => match jq lo ts 0, jq hi ts xs.length, jq mx ts xs.length with
     | some l, some h, some m =>
       if l <= h /\ h <= xs.length /\ YL esz xs = true then
         match mx with
         | none => rv (.sl (Vi own esz l h xs.length) (X4 r l h xs.length) ((xs.take h).drop l)) ts s
         | some _ => if h = m then rv (.sl esz (X4 r l h xs.length) ((xs.take h).drop l)) ts s else none
       else none
     | _, _, _ => none
   | some (.rs e id off len, ts) => match jq lo ts 0, jq hi ts len, mx with
     | some l, some h, none => if l <= h /\ h <= len /\ e = esz then if off + h = 0 then rv (.rs e id 0 0) ts s else if l = h then rv (.sl 0 false []) ts s else rv (.rs e id (off + l * e) (h - l)) ts s else none
     | _, _, _ => none
   | _ => none
 | .fieldAddr o x => match x.get s.ts with
   | some (.ptr id off, ts) => rv (.ptr id (off + o)) ts s
   | some (.pv r cs off, ts) => rv (.pv r cs (off + o)) ts s
   | _ => none
 | .field o n x => match x.get s.ts with
   | some (.agg cs, ts) => match jA n cs o with
     | some v => rv v ts s
     | none => none
   | _ => none
 | .idxAddr esz x i => match x.get s.ts with
   | some (.sl _ r xs, ts) => match i.get ts with
     | some (.int _ n, ts) => if 0 <= n then match xs[n.toNat]? with
         | some v => if v.cells.length = esz then rv (.pv r v.cells 0) ts s else none
         | none => none
       else none
     | _ => none
   | some (.rs e id off len, ts) => match i.get ts with
     | some (.int _ n, ts) => if 0 <= n /\ n < len /\ e = esz then rv (.ptr id (off + n.toNat * e)) ts s else none
     | _ => none
   | _ => none
 | .idxAddrA len esz x i => match x.get s.ts with
   | some (.ptr id off, ts) => match i.get ts with
     | some (.int _ n, ts) => if 0 <= n /\ n < len then rv (.ptr id (off + n.toNat * esz)) ts s else none
     | _ => none
   | some (.pv r cs off, ts) => match i.get ts with
     | some (.int _ n, ts) => if 0 <= n /\ n < len then rv (.pv r cs (off + n.toNat * esz)) ts s else none
     | _ => none
   | _ => none
 | .idxS x i => match x.get s.ts with
   | some (.str b, ts) => match i.get ts with
     | some (.int _ n, ts) => if 0 <= n then match b[n.toNat]? with
         | some c => rv (.int .u8 c.toNat) ts s
         | none => none
       else none
     | _ => none
   | _ => none
 | .idxA len esz n x i => match x.get s.ts with
   | some (.agg cs, ts) => match i.get ts with
     | some (.int _ j, ts) => if 0 <= j /\ j < len then match jA n cs (j.toNat * esz) with
         | some v => rv v ts s
         | none => none
       else none
     | _ => none
   | _ => none
 | .lookup kk z ok x k => match x.get s.ts with
   | some (.map id, ts) => match k.get ts with
     | some (k, ts) => match s.σ[id]? with
       | some (.map es) => if Jf kk k then match YH k es with
         | some (some v) => rv (if ok then .tup [v, .bool true] else v) ts s
         | some none => rv (if ok then .tup [z, .bool false] else z) ts s
         | none => none
         else none
       | _ => none
     | none => none
   | _ => none
 | .mapSet kk m k v => match m.get s.ts with
   | some (.map id, ts) => match k.get ts with
     | some (k, ts) => match v.get ts with
       | some (v, ts) => match s.σ[id]? with
         | some (.map es) => if Jf kk k && nt v then match jbY k (un2 v) es with
           | some es' => some ⟨false, jl, { ts := ts, σ := s.σ.set id (.map es'), wr := (id, !(nr2 v)) :: s.wr }⟩
           | none => none
           else none
         | _ => none
       | none => none
     | none => none
   | _ => none
 | .extract x i => match x.get s.ts with
   | some (.tup vs, ts) => match vs[i]? with
     | some v => match x with
       | .m j => rv v (ts.set j (.tup (vs.set i (un2 v)))) s
       | _ => rv v ts s
     | none => none
   | _ => none
 | .append byref str esz bytes sv x => match sv.get s.ts with
   | some (base, ts) => match x.get ts with
     | some (y, ts) => match jh str esz y s.σ with
       | some ys => match nilOwn esz base with
         | .sl own r xs =>
           if own = esz /\ 0 < esz /\ (xs.length + ys.length) * bytes <= 1099511627776 /\ xs.length + ys.length <= 1099511627776 then
             if byref then
               if xs.length = 0 then
                 if ys.length = 0 then rv (.sl esz r []) ts s
                 else some ⟨false, .rs esz s.σ.length 0 ys.length, { s with ts := ts, σ := s.σ ++ [.cells (ys.flatMap fun v => (un2 v).cells)] }⟩
               else none
             else rv (.sl esz (jX r xs ys) (xs ++ ys.map un2)) ts s
           else none
         | .rs e id off len =>
           if byref = true /\ e = esz /\ off = 0 /\ 0 < esz /\ (len + ys.length) * bytes <= 1099511627776 /\ len + ys.length <= 1099511627776 then
             match jc s.σ id with
             | some cs => if len * esz <= cs.length then
                 some ⟨false, .rs esz s.σ.length 0 (len + ys.length), { ts := ts, σ := (s.σ.set id .dead) ++ [.cells (cs.take (len * esz) ++ ys.flatMap fun v => (un2 v).cells)], wr := (id, false) :: s.wr }⟩
               else none
             | none => none
           else none
         | _ => none
       | none => none
     | none => none
   | none => none
 | .copy str esz d x => match d.get s.ts with
   | some (.rs e id off len, ts) => match x.get ts with
     | some (y, ts) => match jh str esz y s.σ, jc s.σ id with
       | some ys, some cs =>
         if e = esz /\ off + len * e <= cs.length then
           let zs := (ys.take len).flatMap IVal.cells
           some ⟨false, .int .i64 (min ys.length len), { ts := ts, σ := s.σ.set id (.cells (jb cs off (zs.map un1))), wr := jz s id zs }⟩
         else none
       | _, _ => none
     | none => none
   | _ => none
 | .clear zs x => match x.get s.ts with
   | some (.rs e id off len, ts) => match jc s.σ id with
     | some cs =>
       if e = zs.length /\ 0 < e /\ off + len * e <= cs.length then
         some ⟨false, .tup [], { ts := ts, σ := s.σ.set id (.cells (jb cs off (J1 len zs))), wr := jz s id zs }⟩
       else none
     | none => none
   | some (.sl _ _ [], ts) => rv (.tup []) ts s
   | _ => none
 | .lenS x => match x.get s.ts with
   | some (.str b, ts) => rv (.int .i64 b.length) ts s
   | _ => none
 | .lenL x => match x.get s.ts with
   | some (.sl _ _ xs, ts) => rv (.int .i64 xs.length) ts s
   | some (.rs _ _ _ n, ts) => rv (.int .i64 n) ts s
   | _ => none
 | .lenM x => match x.get s.ts with
   | some (.map id, ts) => match s.σ[id]? with
     | some (.map es) => rv (.int .i64 es.length) ts s
     | _ => none
   | _ => none
 | .minmax mx xs => match getAll xs s.ts with
   | some ([.int k a, .int k' b], ts) => if k = k' then rv (.int k (if mx then (if a < b then b else a) else (if b < a then b else a))) ts s else none
   | _ => none
 | .call f xs => match getAll xs s.ts with
   | some (vs, ts) => stepCall cf (.f f) vs ts s
   | none => none
 | .callp f xs => match getAll xs s.ts with
   | some (vs, ts) => if vs.all nr2 then match cf (.f f) vs [] with
       | some ⟨false, v, _, _⟩ => if nr3 v then rv v ts s else none
       | _ => none
     else none
   | none => none
 | .inv tab x xs => match x.get s.ts with
   | some (.iface t v, ts) => match tab.find? (fun p => p.1 == t) with
     | some (_, f, rk) => match J8 rk v with
       | some y => match getAll xs ts with
         | some (vs, ts) => stepCall cf (.f f) (y :: vs) ts s
         | none => none
       | none => none
     | none => none
   | _ => none
 | .callv f xs => match f.get s.ts with
   | some (.fn (.func g) us ws, ts) => match getAll xs ts with
     | some (vs, ts) => stepCall cf (.f g) (us ++ vs ++ ws) ts s
     | none => none
   | some (.yl id, ts) => match getAll xs ts with
     | some (vs, ts) => stepCall cf (.y id) vs ts s
     | none => none
   | _ => none
 | .panic x => match x.get s.ts with
   | some (.iface t v, ts) => some ⟨true, .iface t v, { s with ts := ts }⟩
   | _ => none
 | .mem k xs => match getAll xs s.ts with
   | some (vs, ts) => match jO k vs s.σ with
     | some (v, σ, wr) => some ⟨false, v, { ts := ts, σ := σ, wr := wr ++ s.wr }⟩
     | none => none
   | none => none
def jP (ts : Ts) (dst : Option Nat) (v : IVal) : Ts :=
 match dst with
 | some d => ts.set d v
 | none => ts
def jg (g : Option (Nat × Bool)) (ts : Ts) : Option Bool :=
 match g with
 | none => some true
 | some (t, b) => match ts.get? t with
   | some (.bool b') => some (b' == b)
   | some _ => some false
   | none => none
def jm (cf : kt) : List IOper -> St -> Option (IExit × St)
 | [], s => some (.normal, s)
 | o :: os, s =>
   match jg o.guard s.ts with
   | some true =>
     match ja cf o.op s with
     | some ⟨false, v, s'⟩ => jm cf os { s' with ts := jP s'.ts o.dst v }
     | some ⟨true, v, s'⟩ => some (.panic v, s')
     | none => none
   | some false => jm cf os { s with ts := jP s.ts o.dst jl }
   | none => none
def jj : IOp -> List Opd
 | .pur _ xs => xs
 | .mv x => [x]
 | .pick c a b => [c, a, b]
 | .alloc _ => []
 | .box x => [x]
 | .boxv x => [x]
 | .build _ parts => parts.map (·.2.2)
 | .buildSl _ xs => xs
 | .buildRs _ xs => xs
 | .load _ _ x => [x]
 | .store _ x v => [x, v]
 | .nilCheck x => [x]
 | .bin _ x y => [x, y]
 | .isnil _ _ x => [x]
 | .eqa _ x y => [x, y]
 | .eqb _ x y => [x, y]
 | .un _ x => [x]
 | .conv _ x => [x]
 | .mkIface _ x => [x]
 | .mkFn _ xs ys => xs ++ ys
 | .mkMap => []
 | .mkSl _ _ _ _ len cap => [len, cap]
 | .sliceS x lo hi => x :: (lo.toList ++ hi.toList)
 | .sliceL _ x lo hi mx => x :: (lo.toList ++ (hi.toList ++ mx.toList))
 | .fieldAddr _ x => [x]
 | .field _ _ x => [x]
 | .idxAddr _ x i => [x, i]
 | .idxAddrA _ _ x i => [x, i]
 | .idxS x i => [x, i]
 | .idxA _ _ _ x i => [x, i]
 | .lookup _ _ _ x k => [x, k]
 | .mapSet _ m k v => [m, k, v]
 | .extract x _ => [x]
 | .append _ _ _ _ s x => [s, x]
 | .copy _ _ s x => [s, x]
 | .clear _ x => [x]
 | .lenS x => [x]
 | .lenL x => [x]
 | .lenM x => [x]
 | .minmax _ xs => xs
 | .call _ xs => xs
 | .callp _ xs => xs
 | .callv f xs => f :: xs
 | .inv _ x xs => x :: xs
 | .vOf _ _ x => [x]
 | .vSet _ _ x y => [x, y]
 | .panic x => [x]
 | .mem _ xs => xs
def jR (o : IOp) (s : St) : Option Nat :=
 match o with
 | .load _ _ x => match x.get s.ts with
   | some (.ptr id _, _) => some id
   | _ => none
 | .lookup _ _ _ x _ => match x.get s.ts with
   | some (.map id, _) => some id
   | _ => none
 | .lenM x => match x.get s.ts with
   | some (.map id, _) => some id
   | _ => none
 | .store _ x _ => match x.get s.ts with
   | some (.ptr id _, _) => some id
   | _ => none
 | _ => none
def jU (o : IOp) (s : St) : Bool :=
 match o with
 | .append true _ _ _ _ _ => true
 | .append false _ _ _ sv x => match sv.get s.ts with
   | some (_, ts) => match x.get ts with
     | some (.rs _ _ _ _, _) => false
     | _ => true
   | none => true
 | .conv _ x => match x.get s.ts with
   | some (.rs _ _ _ _, _) => false
   | _ => true
 | _ => true
def jy : IOp -> Bool
 | .alloc _ => false
 | .box _ => false
 | .buildRs _ _ => false
 | .load mvf _ _ => !mvf
 | .store _ _ _ => false
 | .mkMap => false
 | .mkSl br _ _ _ _ _ => !br
 | .mapSet _ _ _ _ => false
 | .append br _ _ _ _ _ => !br
 | .copy _ _ _ _ => false
 | .clear _ _ => false
 | .call _ _ => false
 | .callv _ _ => false
 | .inv _ _ _ => false
 | .vSet _ _ _ _ => false
 | .panic _ => false
 | .mem _ _ => false
 | _ => true
structure DLog where
 rd : Option Nat
 wr : List (Nat × Bool)
 len : Nat
def jx (cf : kt) (o : IOper) (s : St) : Option (Option IVal × St × DLog) :=
 match jg o.guard s.ts with
 | some true =>
   if jU o.op s then
     match getAll (jj o.op) s.ts with
     | some _ => match ja cf o.op { s with wr := [] } with
       | some ⟨false, v, s'⟩ => some (none, { ts := jP s'.ts o.dst v, σ := s'.σ, wr := s'.wr ++ s.wr }, ⟨jR o.op s, s'.wr, if jy o.op then 0 else s.σ.length⟩)
       | some ⟨true, v, s'⟩ => some (some v, { ts := s'.ts, σ := s'.σ, wr := s'.wr ++ s.wr }, ⟨jR o.op s, s'.wr, if jy o.op then 0 else s.σ.length⟩)
       | none => none
     | none => none
   else none
 | some false => some (none, { s with ts := jP s.ts o.dst jl }, ⟨none, [], if jy o.op then 0 else s.σ.length⟩)
 | none => none
def jd (cf : kt) : List (Nat × IOper) -> St -> Option (Option (IVal × List (Nat × Bool)) × St × List (Nat × DLog))
 | [], s => some (none, s, [])
 | o :: os, s =>
   match jx cf o.2 s with
   | some (none, s1, l) => match jd cf os s1 with
     | some (q, s2, ls) => some (q, s2, (o.1, l) :: ls)
     | none => none
   | some (some v, s1, l) => some (some (v, l.wr), s1, [])
   | none => none
def XQ : Opd -> List Nat
 | .m i => [i]
 | _ => []
def qR (o : IOper) : List Nat := (jj o.op).flatMap XQ
def yW (l : List (Nat × IOper)) : List Nat := l.flatMap fun p => p.2.dst.toList ++ qR p.2
def Ts.clr (ts : Ts) (j : Nat) : Ts := { ts with t := ts.t.set none (ts.slot j) }
def Ts.clrs (ts : Ts) (js : List Nat) : Ts := js.foldl Ts.clr ts
def je7 (l : List (Nat × IOper)) (s : St) : St := { s with ts := s.ts.clrs (yW l) }
def je (l : List (Nat × IOper)) (q : Option (IVal × List (Nat × Bool))) (s : St) : Option (IExit × St) :=
 match q with
 | none => some (.normal, s)
 | some (v, _) => some (.panic v, je7 l s)
def jp (x y : DLog) : Bool :=
 match x.rd with
 | none => true
 | some id => decide (id < y.len) && y.wr.all fun q => q.1 != id
def ji (pairs : List (Nat × Nat)) (log : List (Nat × DLog)) : Bool :=
 pairs.all fun p => log.all fun x => x.1 != p.1 || log.all fun y => y.1 != p.2 || jp x.2 y.2
def jf (rs : List RV) (s : St) : Option (List IVal × St) :=
 match rs with
 | [] => some ([], s)
 | .t i :: rs => match s.ts.get? i with
   | some v => match jf rs { s with ts := s.ts.set i (un3 v) } with
     | some (vs, s') => some (v :: vs, s')
     | none => none
   | none => none
 | .cell i n :: rs => match s.ts.get? i with
   | some (.ptr id off) => match jc s.σ id with
     | some cs => match jA n cs off with
       | some v => match jf rs { s with σ := s.σ.set id (.cells (jb cs off (un2 v).cells)), wr := (id, false) :: s.wr } with
         | some (vs, s') => some (v :: vs, s')
         | none => none
       | none => none
     | none => none
   | _ => none
def jZ : List IVal -> IVal
 | [v] => v
 | vs => .tup vs
def jo (n₀ : Nat) (pan : Bool) (v : IVal) (s : St) : Out :=
 if nr3 v && s.wr.all (fun p => !p.2 || decide (n₀ <= p.1)) then ⟨pan, v, s.σ.take n₀, s.wr.filter fun p => decide (p.1 < n₀)⟩
 else ⟨pan, v, s.σ, s.wr.filter fun p => decide (p.1 < n₀)⟩
def jV : List IObj -> List Nat -> Option (List IObj)
 | σ, [] => some σ
 | σ, id :: ids => match σ[id]? with
   | some .defr => jV (σ.set id .dead) ids
   | _ => none
def jY (n₀ : Nat) (res : List RV) (s : St) : Option Out :=
 match jV s.σ s.ts.ds with
 | some σ => match jf res { s with σ := σ, wr := (s.ts.ds.map fun id => (id, false)) ++ s.wr } with
   | some (vs, s') => if vs.all nt then some (jo n₀ false (jZ vs) s') else none
   | none => none
 | none => none
def jfj (σ : List IObj) (id : Nat) : Option (List IVal) := match σ[id]? with
 | some (.cells cs) => some cs
 | _ => none
def jfk (σ : List IObj) (id : Nat) : Option (List (IVal × IVal)) := match σ[id]? with
 | some (.map es) => some es
 | _ => none
def jC : ICode -> Option ZY
 | .lib p => some p
 | _ => none
def jw (ev : ICode -> St -> Option (IExit × St)) (fn : IFunc) (args : List IVal) (σ : List IObj) : Option Out :=
 match jC fn.body with
 | some p => match p (jfj σ) (jfk σ) args with
   | some v => some ⟨false, v, σ, []⟩
   | none => none
 | none =>
 match ev fn.body { ts := (Ts.mk fn.nv fn.m (Tm.empty fn.dep) []).fill 0 args, σ := σ, wr := [] } with
 | some (.normal, s) => jY σ.length fn.res s
 | some (.ret, s) => jY σ.length fn.res s
 | some (.panic v, s) => match s.ts.ds with
   | [] => some (jo σ.length true v s)
   | _ => none
 | _ => none
def kg := FuncId -> Option IFunc
def Tm.un : Tm -> Tm
 | .leaf => .leaf
 | .node l c r => .node l.un (match c with | some (i, v) => some (i, un3 v) | none => none) r.un
def Ts.setAll (ts : Ts) : List Nat -> List IVal -> Option Ts
 | [], [] => some ts
 | p :: ps, v :: vs => (ts.set p v).setAll ps vs
 | _, _ => none
def zo : IExit -> Option (Option IVal)
 | .normal => some none
 | .ret => some none
 | .panic v => some (some v)
 | _ => none
def jck : Option IVal -> IExit
 | none => .ret
 | some v => .panic v
def dTs (d : DInfo) (args : List IVal) (m : Option IVal) : Ts :=
 match d.slot with
 | some t => ((Ts.mk d.nv d.m (Tm.empty d.dep) []).fill 0 args).set t (match m with | some v => un3 v | none => zG)
 | none => (Ts.mk d.nv d.m (Tm.empty d.dep) []).fill 0 args
def Ju (ev : ICode -> St -> Option (IExit × St)) (d : DInfo) (c : ICode) (args : List IVal) (m : Option IVal) (s : St) : Option (IExit × St) :=
 match ev c { ts := dTs d args m, σ := s.σ, wr := [] } with
 | some (x, s') => match x with
   | .panic _ => none
   | x => match zo x, s'.ts.ds with
     | some _, [] => some (jck (match d.slot with | some _ => none | none => m), { s with σ := s'.σ, wr := s'.wr ++ s.wr })
     | _, _ => none
 | none => none
def yf (ev : ICode -> St -> Option (IExit × St)) (d : DInfo) (c : ICode) (args : List IVal) (x : IExit) (s : St) : Option (IExit × St) :=
 match zo x, jV s.σ s.ts.ds with
 | some m, some σ => Ju ev d c args m { ts := { s.ts with ds := [] }, σ := σ, wr := (s.ts.ds.map fun id => (id, false)) ++ s.wr }
 | _, _ => none
def Ko : IExit -> Bool
 | .exit _ => true
 | .goto _ => true
 | .ret => true
 | _ => false
def vI (ev : ICode -> St -> Option (IExit × St)) (id : Nat) (args : List IVal) (σ : List IObj) : Option Out :=
 match σ[id]? with
 | some (.loop l) => match l.st, l.ts.setAll l.ps args with
   | 0, some ts => match ev l.a { ts := ts, σ := σ, wr := [] } with
     | some (.normal, s) => match s.σ[id]? with
       | some (.loop l1) => match l1.st with
         | 0 => match ev l.b { s with σ := s.σ.set id (.loop { l1 with st := 1 }), wr := (id, false) :: s.wr } with
           | some (x, s2) => match s2.σ[id]? with
             | some (.loop l2) => match x with
               | .normal => some (jo σ.length false (.bool true) { s2 with σ := s2.σ.set id (.loop { l2 with st := 0, pend := none }), wr := (id, false) :: s2.wr })
               | x => if Ko x then some (jo σ.length false (.bool false) { s2 with σ := s2.σ.set id (.loop { l2 with st := 2, pend := some x }), wr := (id, false) :: s2.wr }) else none
             | _ => none
           | none => none
         | _ => none
       | _ => none
     | _ => none
   | _, _ => none
 | _ => none
def eval (F : kg) : Nat -> ICode -> St -> Option (IExit × St)
 | 0, _, _ => none
 | n + 1, c, s =>
   let cf : kt := fun f args σ => match f with
     | .f f => match F f with
       | some fn => jw (eval F n) fn args σ
       | none => none
     | .y id => vI (eval F n) id args σ
   match c with
   | .stuck => none
   | .skip => some (.normal, s)
   | .label _ => some (.normal, s)
   | .exit id => some (.exit id, s)
   | .goto l => some (.goto l, s)
   | .ret => some (.ret, s)
   | .ops l => jm cf l s
   | .draw l pairs => match jd cf l s with
     | some (q, s', log) => if ji pairs log then je l q s' else none
     | none => none
   | .seq a b => match eval F n a s with
     | some (.normal, s') => eval F n b s'
     | r => r
   | .cond x a b => match x.get s.ts with
     | some (.bool true, _) => eval F n a s
     | some (.bool false, _) => eval F n b s
     | _ => none
   | .block id b => match eval F n b s with
     | some (.exit i, s') => if i = id then some (.normal, s') else some (.exit i, s')
     | r => r
   | .loop b => match eval F n b s with
     | some (.normal, s') => eval F n (.loop b) s'
     | r => r
   | .scope b => match eval F n b s with
     | some (.goto _, _) => none
     | r => r
   | .rangeF x ps a b => match x.get s.ts with
     | some (.fn (.func g) us ws, _) =>
       let k := s.σ.length
       match cf (.f g) (us ++ [.yl (k + 1)] ++ ws) (s.σ ++ [.defr, .loop ⟨0, { s.ts with t := s.ts.t.un, ds := [] }, ps, a, b, none, .none⟩]) with
       | some ⟨false, _, σ', wr'⟩ => match σ'[k + 1]? with
         | some (.loop l) => if l.st = 1 then none else
           let s' : St := { ts := { s.ts with ds := k :: s.ts.ds }, σ := σ'.set (k + 1) .dead, wr := (k + 1, false) :: (wr' ++ s.wr) }
           match l.pend with
           | none => some (.normal, s')
           | some x => if Ko x then some (x, s') else none
         | _ => none
       | _ => none
     | _ => none
   | .dfr l x xs d c b => match jm cf l s with
     | some (.normal, s1) => match x.get s1.ts with
       | some (.fn (.func g) us ws, ts1) => match getAll xs ts1 with
         | some (vs, ts2) => if g = d.g /\ vs.all nt = true /\ ts2.ds = [] then
             match eval F n b { s1 with ts := ts2 } with
             | some (x, s2) => yf (eval F n) d c (us ++ vs.map un2 ++ ws) x s2
             | none => none
           else none
         | none => none
       | _ => none
     | _ => none
   | .lib _ => none
end Go.Idl
namespace Go.Idl
inductive Blk where
 | bk (b : Nat)
 | un (zs : List IVal)
structure Gh where
 ι : List Blk
 M : Nat -> Nat -> Option Value
 T : Nat -> Option (Nat × Nat)
 C : Nat -> Nat -> Nat -> Code -> ICode -> Prop
 Z : Nat -> Nat := fun _ => 0
 E : Nat -> Option (TypeId × Nat) := fun _ => none
def ql : Value -> Bool
 | .agg _ => false
 | .tuple _ => false
 | _ => true
def jJ (vs : List Value) : List Value := vs.flatMap fun v => v.cells.toList
def Qa (g : Gh) (b o : Nat) (cs : List Value) : Prop := ∀ k c, cs[k]? = some c -> g.M b (o + k) = some c
def Zi : Value -> Bool
 | .pointer none => true
 | .nilIface => true
 | .nilFunc => true
 | .map none => true
 | .pointer (some ⟨_, _, none⟩) => true
 | _ => false
def vl (x : IVal) : Prop := un2 x = x /\ nt x = true
class Globs where
 vals : Nat -> Option (List Value)
inductive V (g : Gh) : IVal -> Value -> Prop where
 | int (k : IntKind) (n : Int) : V g (.int k n) (.int k n)
 | bool (b : Bool) : V g (.bool b) (.bool b)
 | str (s : ByteArray) : V g (.str s.data.toList) (.string s)
 | prim (v : Value) (h : Zi v = true) : V g (.prim v) v
 | nil (own : Nat) : V g (.sl own true []) (.slice none 0 0)
 | sl (own : Nat) (r : Bool) (xs : List IVal) (vs : List Value) (a : Addr) (cap esz : Nat) (hs : 0 < cap -> a.spot = none) (hc : xs.length <= cap)
     (hl : xs.length = vs.length) (hv : ∀ (i : Nat) x v, xs[i]? = some x -> vs[i]? = some v -> V g x v) (hf : ∀ x ∈ xs, vl x)
     (hr : r = false -> ∀ x ∈ xs, nr2 x = true) (hz : ∀ v ∈ vs, v.cells.size = esz) (hm : Qa g a.block a.off (jJ vs))
     (ho : own ≠ 0 -> own = esz /\ (xs = [] -> cap = 0) /\ (xs.length < cap -> g.T a.block = some (a.off + xs.length * esz, a.off + cap * esz))) (hn : xs = [] -> r = false) :
     V g (.sl own r xs) (.slice (some a) xs.length cap)
 | rs (e id off len cap b : Nat) (hb : g.ι[id]? = some (.bk b)) (hc : len <= cap) (hz : off + cap * e <= g.Z b) : V g (.rs e id off len) (.slice (some ⟨b, off, none⟩) len cap)
 | ptr (id off b : Nat) (hb : g.ι[id]? = some (.bk b)) : V g (.ptr id off) (.pointer (some ⟨b, off, none⟩))
 | pv (r : Bool) (cs : List IVal) (off : Nat) (vs : List Value) (a : Addr) (hs : a.spot = none) (ho : off <= a.off) (hl : cs.length = vs.length)
     (hv : ∀ (i : Nat) x v, cs[i]? = some x -> vs[i]? = some v -> V g x v) (hf : ∀ x ∈ cs, un1 x = x /\ x.isCell = true) (hr : r = false -> ∀ x ∈ cs, nr1 x = true)
     (hm : Qa g a.block (a.off - off) vs) : V g (.pv r cs off) (.pointer (some a))
 | map (id b : Nat) (hb : g.ι[id]? = some (.bk b)) : V g (.map id) (.map (some b))
 | yl (id b : Nat) (hb : g.ι[id]? = some (.bk b)) : V g (.yl id) (.func (.yield b) #[] #[])
 | fn (f : Fn) (xs ys : List IVal) (vs us : Array Value) (hl : xs.length = vs.size) (hv : ∀ (i : Nat) x v, xs[i]? = some x -> vs[i]? = some v -> V g x v) (hf : ∀ x ∈ xs, vl x)
     (hl' : ys.length = us.size) (hv' : ∀ (i : Nat) x v, ys[i]? = some x -> us[i]? = some v -> V g x v) (hf' : ∀ x ∈ ys, vl x) : V g (.fn f xs ys) (.func f vs us)
 | iface (t : TypeId) (x : IVal) (v : Value) (hv : V g x v) (hf : vl x) : V g (.iface t x) (.iface t v)
 | agg (xs : List IVal) (vs : Array Value) (hl : xs.length = vs.size) (hv : ∀ (i : Nat) x v, xs[i]? = some x -> vs[i]? = some v -> V g x v)
     (hi : ∀ x ∈ xs, x.isCell = true) : V g (.agg xs) (.agg vs)
 | tup (xs : List IVal) (vs : Array Value) (hl : xs.length = vs.size) (hv : ∀ (i : Nat) x v, xs[i]? = some x -> vs[i]? = some v -> V g x v)
     (hi : ∀ x ∈ xs, nt x = true) : V g (.tup xs) (.tuple vs)
def qb : IVal -> Value -> List Nat
 | .sl own _ xs, .slice (some a) _ cap => if own = 0 \/ cap <= xs.length then [] else [a.block]
 | _, _ => []
def yg : IVal -> Value -> List Nat
 | .agg xs, .agg vs => (List.zipWith qb xs vs.toList).flatten
 | x, v => qb x v
def kl : IVal -> Value -> List Nat
 | .tup xs, .tuple vs => (List.zipWith yg xs vs.toList).flatten
 | x, v => yg x v
theorem Xf (x : IVal) (v : Value) : qb (un1 x) v = [] := by
 cases x with
 | sl o r xs => cases v with
   | slice a l c => cases a <;> simp [un1, qb]
   | _ => rfl
 | _ => rfl
theorem kP {x : IVal} (h : un1 x = x) (v : Value) : qb x v = [] := by rw [<- h]; exact Xf x v
theorem flatten_nil {α : Type} {l : List (List α)} (h : ∀ x ∈ l, x = []) : l.flatten = [] := by
 induction l with
 | nil => rfl
 | cons a l ih => simp [h a (by simp), ih (fun x hx => h x (by simp [hx]))]
theorem kh {α β γ : Type} {f : α -> β -> γ} {xs : List α} {ys : List β} {c : γ} (h : c ∈ List.zipWith f xs ys) : ∃ (i : Nat) (x : α) (y : β), xs[i]? = some x /\ ys[i]? = some y /\ f x y = c := by
 induction xs generalizing ys with
 | nil => simp at h
 | cons x xs ih =>
   cases ys with
   | nil => simp at h
   | cons y ys =>
     simp at h
     rcases h with rfl | h
     . exact ⟨0, x, y, rfl, rfl, rfl⟩
     . obtain ⟨i, x', y', h1, h2, h3⟩ := ih h;exact ⟨i + 1, x', y', by simpa using h1, by simpa using h2, h3⟩
theorem zu (x : IVal) (v : Value) : yg (un2 x) v = [] := by
 cases x with
 | agg xs =>
   cases v with
   | agg vs =>
     simp only [un2, yg];apply flatten_nil;intro c hc;obtain ⟨i, x, y, h1, h2, rfl⟩ := kh hc;simp at h1;obtain ⟨x', _, rfl⟩ := h1;exact Xf x' y
   | _ => simp [un2, yg, qb]
 | sl o r xs => cases v <;> simp [un2, un1, yg, qb]; rename_i a _ _; cases a <;> simp [qb]
 | _ => cases v <;> simp [un2, un1, yg, qb]
theorem vr (x : IVal) (v : Value) : kl (un3 x) v = [] := by
 cases x with
 | tup xs =>
   cases v with
   | tuple vs =>
     simp only [un3, kl];apply flatten_nil;intro c hc;obtain ⟨i, x, y, h1, h2, rfl⟩ := kh hc;simp at h1;obtain ⟨x', _, rfl⟩ := h1;exact zu x' y
   | _ => simp [un3, kl, yg, qb]
 | agg xs =>
   have := zu (.agg xs) v;cases v <;> simpa [un3, kl, un2] using this
 | sl o r xs =>
   have := zu (.sl o r xs) v;cases v <;> simpa [un3, kl, un2, un1] using this
 | _ => cases v <;> simp [un3, un2, un1, kl, yg, qb]
theorem yq {x : IVal} (h : nt x = true) (v : Value) : kl x v = yg x v := by
 cases x <;> simp_all [nt, kl]
theorem kx {x : IVal} (h : vl x) (v : Value) : kl x v = [] := by
 rw [yq h.2, <- h.1]; exact zu x v
theorem kQ {x : IVal} (h : x.isCell = true) (v : Value) : kl x v = qb x v := by
 cases x <;> simp_all [IVal.isCell, kl, yg]
theorem qc {f : IVal -> Value -> List Nat} {xs : List IVal} {vs : List Value} {i : Nat} {x : IVal} {v : Value} (h1 : xs[i]? = some x) (h2 : vs[i]? = some v) {b : Nat} (h : b ∈ f x v) :
   b ∈ (List.zipWith f xs vs).flatten := by
 simp only [List.mem_flatten];refine ⟨f x v, ?_, h⟩;apply zM (i := i);simp [tL, h1, h2]
theorem V.mono {g g' : Gh} {x : IVal} {v : Value} (h : V g x v) (hι : ∀ (id b : Nat), g.ι[id]? = some (.bk b) -> g'.ι[id]? = some (.bk b))
   (hM : ∀ b o c, g.M b o = some c -> g'.M b o = some c) (hT : ∀ b ∈ kl x v, g'.T b = g.T b) (hZ : ∀ b, g.Z b <= g'.Z b := by intro _; exact rP _) : V g' x v := by
 revert hT
 induction h with
 | int k n => exact fun _ => .int k n
 | bool b => exact fun _ => .bool b
 | str s => exact fun _ => .str s
 | prim v h => exact fun _ => .prim v h
 | nil o => exact fun _ => .nil o
 | sl own r xs vs a cap esz hs hc hl hv hf hr hz hm ho hn ih =>
   intro hT;refine .sl own r xs vs a cap esz hs hc hl (fun i x v hx hv' => ih i x v hx hv' ?_) hf hr hz (fun k c hk => hM _ _ _ (hm k c hk)) (fun h0 => ⟨(ho h0).1, (ho h0).2.1, fun hlt => ?_⟩) hn
   . rw [kx (hf x (zM hx))]; simp
   . rw [hT a.block ?_]; exact (ho h0).2.2 hlt;simp only [kl, yg, qb]; rw [if_neg (by omega)]; simp
 | rs e id off len cap b hb hc hz => exact fun _ => .rs e id off len cap b (hι _ _ hb) hc (Nat.le_trans hz (hZ b))
 | ptr id off b hb => exact fun _ => .ptr id off b (hι _ _ hb)
 | pv r cs off vs a hs ho hl hv hf hr hm ih =>
   refine fun _ => .pv r cs off vs a hs ho hl (fun i x v hx hv' => ih i x v hx hv' ?_) hf hr (fun k c hk => hM _ _ _ (hm k c hk));have hx' := hf x (zM hx);rw [kQ hx'.2, kP hx'.1]; simp
 | map id b hb => exact fun _ => .map id b (hι _ _ hb)
 | yl id b hb => exact fun _ => .yl id b (hι _ _ hb)
 | fn f xs ys vs us hl hv hf hl' hv' hf' ih ih' =>
   refine fun _ => .fn f xs ys vs us hl (fun i x v hx hw => ih i x v hx hw ?_) hf hl' (fun i x v hx hw => ih' i x v hx hw ?_) hf'
   . rw [kx (hf x (zM hx))]; simp
   . rw [kx (hf' x (zM hx))]; simp
 | iface t x v hv hf ih => exact fun _ => .iface t x v (ih (by rw [kx hf]; simp)) hf
 | agg xs vs hl hv hi ih =>
   refine fun hT => .agg xs vs hl (fun i x v hx hw => ih i x v hx hw fun b hb => hT b ?_) hi;have hw' : vs.toList[i]? = some v := by simpa using hw
   rw [kQ (hi x (zM hx))] at hb;exact qc (f := qb) hx hw' hb
 | tup xs vs hl hv hi ih =>
   refine fun hT => .tup xs vs hl (fun i x v hx hw => ih i x v hx hw fun b hb => hT b ?_) hi;have hw' : vs.toList[i]? = some v := by simpa using hw
   rw [yq (hi x (zM hx))] at hb;exact qc (f := yg) hx hw' hb
theorem V.un1 {g : Gh} {x : IVal} {v : Value} (h : V g x v) : V g (un1 x) v := by
 cases h with
 | nil o => exact .nil 0
 | sl own r xs vs a cap esz hs hc hl hv hf hr hz hm ho hn => exact .sl 0 r xs vs a cap esz hs hc hl hv hf hr hz hm (fun h => absurd rfl h) hn
 | _ => first | exact .int _ _ | exact .bool _ | exact .str _ | (exact .prim _ ‹_›) | (exact .rs _ _ _ _ _ _ ‹_› ‹_› ‹_›) | (exact .ptr _ _ _ ‹_›) | (exact .map _ _ ‹_›) | (exact .yl _ _ ‹_›) | (constructor <;> assumption)
theorem qz (x : IVal) : (Idl.un1 x).isCell = x.isCell := by cases x <;> rfl
theorem V9 (x : IVal) : nt (un2 x) = nt x := by cases x <;> rfl
theorem yy (x : IVal) : Idl.un1 (Idl.un1 x) = Idl.un1 x := by cases x <;> rfl
theorem VW (x : IVal) : un2 (un2 x) = un2 x := by
 cases x <;> simp [un2, Idl.un1];intro a _; exact yy a
theorem V.un2 {g : Gh} {x : IVal} {v : Value} (h : V g x v) : V g (un2 x) v := by
 cases x with
 | agg xs =>
   cases h with
   | agg xs vs hl hv hi =>
   refine .agg _ vs (by simpa using hl) (fun i x v hx hw => ?_) (fun x hx => ?_)
   . simp at hx;obtain ⟨x', hx', rfl⟩ := hx;exact (hv i x' v hx' hw).un1
   . simp at hx;obtain ⟨x', hx', rfl⟩ := hx;rw [qz]; exact hi x' hx'
 | _ => exact h.un1
theorem V.un3 {g : Gh} {x : IVal} {v : Value} (h : V g x v) : V g (un3 x) v := by
 cases x with
 | tup xs =>
   cases h with
   | tup xs vs hl hv hi =>
   refine .tup _ vs (by simpa using hl) (fun i x v hx hw => ?_) (fun x hx => ?_)
   . simp at hx;obtain ⟨x', hx', rfl⟩ := hx;exact (hv i x' v hx' hw).un2
   . simp at hx;obtain ⟨x', hx', rfl⟩ := hx;rw [V9]; exact hi x' hx'
 | agg xs => exact h.un2
 | _ => exact h.un1
theorem V.isCell {g : Gh} {x : IVal} {v : Value} (h : V g x v) : x.isCell = ql v := by
 cases h with
 | prim v h => cases v <;> simp_all [Zi, IVal.isCell, ql]
 | _ => rfl
theorem V.cells {g : Gh} {x : IVal} {v : Value} (h : V g x v) : x.cells.length = v.cells.size /\ ∀ (i : Nat) c d, x.cells[i]? = some c -> v.cells[i]? = some d -> V g c d := by
 have key : x.isCell = true -> (x.cells.length = v.cells.size /\ ∀ (i : Nat) c d, x.cells[i]? = some c -> v.cells[i]? = some d -> V g c d) := by
   intro hi;have hx : x.cells = [x] := by cases x <;> simp_all [IVal.cells, IVal.isCell]
   have hv : v.cells = #[v] := by rw [h.isCell] at hi; cases v <;> simp_all [Value.cells, ql]
   rw [hx, hv];refine ⟨rfl, fun i c d hc hd => ?_⟩
   cases i with
   | zero => simp at hc hd; subst hc hd; exact h
   | succ i => simp at hc
 cases h with
 | agg xs vs hl hv hi => exact ⟨hl, hv⟩
 | tup xs vs hl hv hi =>
   refine ⟨rfl, fun i c d hc hd => ?_⟩
   cases i with
   | zero => simp [IVal.cells, Value.cells] at hc hd; subst hc hd; exact .tup xs vs hl hv hi
   | succ i => simp [IVal.cells] at hc
 | prim v hp => exact key rfl
 | _ => exact key rfl
end Go.Idl
namespace Go.Idl
variable [Globs]
inductive RL (n : Nat) : IVal -> Prop where
 | int (k : IntKind) (i : Int) : RL n (.int k i)
 | bool (b : Bool) : RL n (.bool b)
 | str (s : List UInt8) : RL n (.str s)
 | prim (v : Value) : RL n (.prim v)
 | sl (own : Nat) (r : Bool) (xs : List IVal) (h : ∀ x ∈ xs, RL n x) : RL n (.sl own r xs)
 | rs (e id off len : Nat) (h : id < n) : RL n (.rs e id off len)
 | ptr (id off : Nat) (h : id < n) : RL n (.ptr id off)
 | pv (r : Bool) (cs : List IVal) (off : Nat) (h : ∀ x ∈ cs, RL n x) : RL n (.pv r cs off)
 | map (id : Nat) (h : id < n) : RL n (.map id)
 | yl (id : Nat) (h : id < n) : RL n (.yl id)
 | fn (f : Fn) (xs ys : List IVal) (h : ∀ x ∈ xs, RL n x) (h' : ∀ x ∈ ys, RL n x) : RL n (.fn f xs ys)
 | iface (t : TypeId) (x : IVal) (h : RL n x) : RL n (.iface t x)
 | agg (xs : List IVal) (h : ∀ x ∈ xs, RL n x) : RL n (.agg xs)
 | tup (xs : List IVal) (h : ∀ x ∈ xs, RL n x) : RL n (.tup xs)
theorem RL.le {n m : Nat} {x : IVal} (h : RL n x) (hle : n <= m) : RL m x := by
 induction h with
 | int k i => exact .int k i
 | bool b => exact .bool b
 | str s => exact .str s
 | prim v => exact .prim v
 | sl o r xs _ ih => exact .sl o r xs ih
 | rs e id off len h => exact .rs e id off len (by omega)
 | ptr id off h => exact .ptr id off (by omega)
 | pv r cs off _ ih => exact .pv r cs off ih
 | map id h => exact .map id (by omega)
 | yl id h => exact .yl id (by omega)
 | fn f xs ys _ _ ih ih' => exact .fn f xs ys ih ih'
 | iface t x _ ih => exact .iface t x ih
 | agg xs _ ih => exact .agg xs ih
 | tup xs _ ih => exact .tup xs ih
theorem RL.un1 {n : Nat} {x : IVal} (h : RL n x) : RL n (un1 x) := by
 cases h with
 | sl o r xs h => exact .sl 0 r xs h
 | int k i => exact .int k i
 | bool b => exact .bool b
 | str s => exact .str s
 | prim v => exact .prim v
 | rs e id off len h => exact .rs e id off len h
 | ptr id off h => exact .ptr id off h
 | pv r cs off h => exact .pv r cs off h
 | map id h => exact .map id h
 | yl id h => exact .yl id h
 | fn f xs ys h h' => exact .fn f xs ys h h'
 | iface t x h => exact .iface t x h
 | agg xs h => exact .agg xs h
 | tup xs h => exact .tup xs h
theorem RL.un2 {n : Nat} {x : IVal} (h : RL n x) : RL n (un2 x) := by
 cases x with
 | agg xs =>
   cases h with
   | agg _ h =>
   refine .agg _ (fun y hy => ?_);simp at hy;obtain ⟨y', hy', rfl⟩ := hy;exact (h y' hy').un1
 | _ => exact h.un1
theorem kc {α : Type} {l : List α} {x : α} (h : x ∈ l) : ∃ i : Nat, l[i]? = some x := List.mem_iff_getElem?.1 h
theorem ku {α β : Type} {l : List α} {m : List β} (h : l.length = m.length) {i : Nat} {x : α} (hx : l[i]? = some x) : ∃ y, m[i]? = some y := by
 have : i < m.length := by rw [<- h]; exact (List.getElem?_eq_some_iff.1 hx).1
 exact ⟨m[i], by simp [this]⟩
theorem kH {α β : Type} {l : List α} {m : Array β} (h : l.length = m.size) {i : Nat} {x : α} (hx : l[i]? = some x) : ∃ y, m[i]? = some y := by
 have : i < m.size := by rw [<- h]; exact (List.getElem?_eq_some_iff.1 hx).1
 exact ⟨m[i], by simp [this]⟩
theorem yj {α β : Type} {l : List α} {m : Array β} (h : l.length <= m.size) {i : Nat} {x : α} (hx : l[i]? = some x) : ∃ y, m[i]? = some y := by
 have : i < m.size := Nat.lt_of_lt_of_le (List.getElem?_eq_some_iff.1 hx).1 h;exact ⟨m[i], by simp [this]⟩
theorem jk {α : Type} {l : List α} {i : Nat} {x : α} (h : l[i]? = some x) : i < l.length := (List.getElem?_eq_some_iff.1 h).1
theorem V.rl {g : Gh} {x : IVal} {v : Value} (h : V g x v) : RL g.ι.length x := by
 induction h with
 | int k n => exact .int k n
 | bool b => exact .bool b
 | str s => exact .str _
 | prim v h => exact .prim v
 | nil o => exact .sl o true [] (by simp)
 | sl own r xs vs a cap esz hs hc hl hv hf hr hz hm ho hn ih =>
   refine .sl own r xs (fun x hx => ?_);obtain ⟨i, hi⟩ := kc hx;obtain ⟨v, hv⟩ := ku hl hi;exact ih i x v hi hv
 | rs e id off len cap b hb hc hz => exact .rs e id off len (jk hb)
 | ptr id off b hb => exact .ptr id off (jk hb)
 | pv r cs off vs a hs ho hl hv hf hr hm ih =>
   refine .pv r cs off (fun x hx => ?_);obtain ⟨i, hi⟩ := kc hx;obtain ⟨v, hv⟩ := ku hl hi;exact ih i x v hi hv
 | map id b hb => exact .map id (jk hb)
 | yl id b hb => exact .yl id (jk hb)
 | fn f xs ys vs us hl hv hf hl' hv' hf' ih ih' =>
   refine .fn f xs ys (fun x hx => ?_) (fun x hx => ?_)
   . obtain ⟨i, hi⟩ := kc hx;obtain ⟨v, hv⟩ := kH hl hi;exact ih i x v hi hv
   . obtain ⟨i, hi⟩ := kc hx;obtain ⟨v, hv⟩ := kH hl' hi;exact ih' i x v hi hv
 | iface t x v hv hf ih => exact .iface t x ih
 | agg xs vs hl hv hi ih =>
   refine .agg xs (fun x hx => ?_);obtain ⟨i, hi⟩ := kc hx;obtain ⟨v, hv⟩ := kH hl hi;exact ih i x v hi hv
 | tup xs vs hl hv hi ih =>
   refine .tup xs (fun x hx => ?_);obtain ⟨i, hi⟩ := kc hx;obtain ⟨v, hv⟩ := kH hl hi;exact ih i x v hi hv
def Gh.cut (g : Gh) (n : Nat) : Gh := { g with ι := g.ι.take n }
theorem V.cut {g : Gh} {x : IVal} {v : Value} (n : Nat) (h : V g x v) : RL n x -> V (g.cut n) x v := by
 induction h with
 | int k i => exact fun _ => .int k i
 | bool b => exact fun _ => .bool b
 | str s => exact fun _ => .str _
 | prim v h => exact fun _ => .prim v h
 | nil o => exact fun _ => .nil o
 | sl own r xs vs a cap esz hs hc hl hv hf hr hz hm ho hn ih =>
   intro hr'
   cases hr' with
   | sl _ _ _ h => exact .sl own r xs vs a cap esz hs hc hl (fun i x v hx hw => ih i x v hx hw (h x (zM hx))) hf hr hz hm ho hn
 | rs e id off len cap b hb hc hz =>
   intro hr'
   cases hr' with
   | rs _ _ _ _ h => exact .rs e id off len cap b (by simp [Gh.cut, h, hb]) hc hz
 | ptr id off b hb =>
   intro hr'
   cases hr' with
   | ptr _ _ h => exact .ptr id off b (by simp [Gh.cut, h, hb])
 | pv r cs off vs a hs ho hl hv hf hr hm ih =>
   intro hr'
   cases hr' with
   | pv _ _ _ h => exact .pv r cs off vs a hs ho hl (fun i x v hx hw => ih i x v hx hw (h x (zM hx))) hf hr hm
 | map id b hb =>
   intro hr'
   cases hr' with
   | map _ h => exact .map id b (by simp [Gh.cut, h, hb])
 | yl id b hb =>
   intro hr'
   cases hr' with
   | yl _ h => exact .yl id b (by simp [Gh.cut, h, hb])
 | fn f xs ys vs us hl hv hf hl' hv' hf' ih ih' =>
   intro hr'
   cases hr' with
   | fn _ _ _ h h' => exact .fn f xs ys vs us hl (fun i x v hx hw => ih i x v hx hw (h x (zM hx))) hf hl' (fun i x v hx hw => ih' i x v hx hw (h' x (zM hx))) hf'
 | iface t x v hv hf ih =>
   intro hr'
   cases hr' with
   | iface _ _ h => exact .iface t x v (ih h) hf
 | agg xs vs hl hv hi ih =>
   intro hr'
   cases hr' with
   | agg _ h => exact .agg xs vs hl (fun i x v hx hw => ih i x v hx hw (h x (zM hx))) hi
 | tup xs vs hl hv hi ih =>
   intro hr'
   cases hr' with
   | tup _ h => exact .tup xs vs hl (fun i x v hx hw => ih i x v hx hw (h x (zM hx))) hi
theorem Kr {x : IVal} (h : nr0 x = true) : nr1 x = true := by cases x <;> simp_all [nr0, nr1]
theorem qY {x : IVal} (h : nr1 x = true) : nr2 x = true := by
 cases x with
 | agg xs => simp [nr1, nr0] at h
 | _ => exact h
theorem qa {x : IVal} (h : nr2 x = true) : nr3 x = true := by
 cases x with
 | tup xs => simp [nr2, nr1, nr0] at h
 | _ => exact h
theorem V.norl {g : Gh} {x : IVal} {v : Value} (n : Nat) (h : V g x v) : nr3 x = true -> RL n x := by
 induction h with
 | int k i => exact fun _ => .int k i
 | bool b => exact fun _ => .bool b
 | str s => exact fun _ => .str _
 | prim v h => exact fun _ => .prim v
 | nil o => exact fun _ => .sl o true [] (by simp)
 | sl own r xs vs a cap esz hs hc hl hv hf hr hz hm ho hn ih =>
   intro h;simp only [nr3, nr2, nr1, nr0, Bool.or_eq_true, tT, List.isEmpty_iff] at h
   rcases h with h | h
   . subst h;refine .sl own false xs (fun x hx => ?_);obtain ⟨i, hi⟩ := kc hx;obtain ⟨v, hv⟩ := ku hl hi;exact ih i x v hi hv (qa (hr rfl x hx))
   . subst h;exact .sl own r [] (by simp)
 | rs e id off len cap b hb hc hz => intro h; simp [nr3, nr2, nr1, nr0] at h
 | ptr id off b hb => intro h; simp [nr3, nr2, nr1, nr0] at h
 | pv r cs off vs a hs ho hl hv hf hr hm ih =>
   intro h;simp [nr3, nr2, nr1, nr0] at h;subst h;refine .pv false cs off (fun x hx => ?_);obtain ⟨i, hi⟩ := kc hx;obtain ⟨v, hv⟩ := ku hl hi;exact ih i x v hi hv (qa (qY (hr rfl x hx)))
 | map id b hb => intro h; simp [nr3, nr2, nr1, nr0] at h
 | yl id b hb => intro h; simp [nr3, nr2, nr1, nr0] at h
 | fn f xs ys vs us hl hv hf hl' hv' hf' ih ih' =>
   intro h;cases xs <;> cases ys <;> simp [nr3, nr2, nr1, nr0] at h;exact .fn f [] [] (by simp) (by simp)
 | iface t x v hv hf ih =>
   intro h;refine .iface t x (ih ?_)
   cases x with
   | agg cs =>
     simp only [nr3, nr2, nr1, rD] at h ⊢;exact fun y hy => Kr (h y hy)
   | tup cs => simp [nr3, nr2, nr1, nr0] at h
   | _ => simp only [nr3, nr2, nr1] at h; exact qa (qY (Kr h))
 | agg xs vs hl hv hi ih =>
   intro h;simp only [nr3, nr2, rD] at h;refine .agg xs (fun x hx => ?_);obtain ⟨i, hi⟩ := kc hx;obtain ⟨v, hv⟩ := kH hl hi;exact ih i x v hi hv (qa (qY (h x hx)))
 | tup xs vs hl hv hi ih =>
   intro h;simp only [nr3, rD] at h;refine .tup xs (fun x hx => ?_);obtain ⟨i, hi⟩ := kc hx;obtain ⟨v, hv⟩ := kH hl hi;exact ih i x v hi hv (qa (h x hx))
def jfm : Nat -> LoopState
 | 0 => .ready
 | 1 => .busy
 | 2 => .done
 | _ => .exhausted
def Zq : Option IExit -> Option Code
 | some (.exit id) => some (.exit id)
 | some (.goto l) => some (.goto l)
 | some .ret => some .ret
 | _ => none
def WT (ts : Ts) (tmps : Array Value) : Prop := ∀ k p, ts.t.get k = some p -> ts.slot p.1 = k /\ p.1 < tmps.size
structure LoopR (g : Gh) (L : ILoop) (r : Loop) : Prop where
 st : r.state = jfm L.st
 ps : r.params.toList = L.ps
 pend : r.pending = Zq L.pend
 wt : WT L.ts r.tmps
 ds : L.ts.ds = []
 vals : ∀ p ∈ L.ts.t.list, V g p.2 (r.tmps.getD p.1 undef) /\ un3 p.2 = p.2
 code : ∃ n, n <= r.tmps.size /\ (∀ p ∈ L.ps, p < n) /\ g.C n L.ts.nv L.ts.m r.assign L.a /\ g.C n L.ts.nv L.ts.m r.body L.b
def StampB (mes : Array MapEntry) (clock : Nat) : Prop := (∀ x ∈ mes.toList, x.born < clock) /\ (mes.toList.map (·.born)).Nodup
theorem StampB.empty (n : Nat) : StampB #[] n := ⟨fun x h => by simp at h, by simp⟩
theorem StampB.modify {mes : Array MapEntry} {clock : Nat} (h : StampB mes clock) (j : Nat) (k v : Value) : StampB (mes.modify j fun e => { e with key := k, val := v }) clock := by
 have e : (mes.modify j fun e => { e with key := k, val := v }).toList.map (·.born) = mes.toList.map (·.born) := by
   rw [Array.toList_modify];apply List.ext_getElem?;intro i;rw [rJ, rJ, List.getElem?_modify];split <;> (cases mes.toList[i]? <;> rfl)
 refine ⟨fun x hx => ?_, by rw [e]; exact h.2⟩;have : x.born ∈ (mes.modify j fun e => { e with key := k, val := v }).toList.map (·.born) := List.mem_map.2 ⟨x, hx, rfl⟩;rw [e] at this;obtain ⟨y, hy, e2⟩ := List.mem_map.1 this;rw [<- e2]; exact h.1 y hy
theorem StampB.push {mes : Array MapEntry} {clock : Nat} (h : StampB mes clock) (k v : Value) : StampB (mes.push { key := k, val := v, born := clock }) (clock + 1) := by
 refine ⟨fun x hx => ?_, ?_⟩
 . rw [Array.toList_push, List.mem_append, List.mem_singleton] at hx
   rcases hx with hx | rfl
   . exact Nat.lt_succ_of_lt (h.1 x hx)
   . exact Nat.lt_succ_self _
 . rw [Array.toList_push, List.map_append, List.nodup_append];refine ⟨h.2, by simp, fun a ha b hb => ?_⟩;obtain ⟨y, hy, rfl⟩ := List.mem_map.1 ha;simp only [rR, List.map_nil, List.mem_singleton] at hb;subst hb;exact Nat.ne_of_lt (h.1 y hy)
def NoFz (c : Array Value) (fz : Nat × Nat) : Prop := fz.2 = 0 \/ c.size <= fz.1
theorem NoFz.of_size {c c' : Array Value} {fz : Nat × Nat} (h : NoFz c fz) (he : c'.size = c.size) : NoFz c' fz := by
 unfold NoFz at h ⊢; rw [he]; exact h
def OBJ (g : Gh) (w : World) (b : Nat) : IObj -> Prop
 | .cells cs => ∃ c el fz, w.heap[b]? = some (.cells c el fz) /\ NoFz c fz /\ cs.length <= c.size /\ ∀ (i : Nat) x v, cs[i]? = some x -> c[i]? = some v -> V g x v /\ x.isCell = true
 | .map es => ∃ mes clock, w.heap[b]? = some (.map mes clock) /\ mes.size = es.length /\
     (∀ (i : Nat) e me, es[i]? = some e -> mes[i]? = some me -> (V g e.1 me.key /\ V g e.2 me.val) /\ vl e.1 /\ vl e.2) /\ StampB mes clock
 | .loop L => ∃ r : Loop, w.heap[b]? = some (.loop r) /\ LoopR g L r
 | .defr => w.heap[b]? = some (.deferred (some []))
 | .it s pos => ∃ bs : ByteArray, w.heap[b]? = some (.stringIter bs pos) /\ bs.data.toList = s
 | .ty T n k => ∃ b', g.ι[k]? = some (.bk b') /\ ∃ n', g.E b' = some (T, n') /\ (n ≠ 0 -> n' = n)
 | .dead => True
def ko (w : World) (b : Nat) : List Value :=
 match w.heap[b]? with
 | some (.cells c _ _) => c.toList
 | _ => []
def kR (w : World) (b : Nat) : IObj -> List Nat
 | .cells cs => b :: (List.zipWith qb cs (ko w b)).flatten
 | .map _ => [b]
 | .loop _ => [b]
 | .defr => [b]
 | .it _ _ => [b]
 | .ty _ _ _ => []
 | .dead => []
def RLO (n : Nat) : IObj -> Prop
 | .cells cs => ∀ x ∈ cs, RL n x
 | .map es => ∀ e ∈ es, RL n e.1 /\ RL n e.2
 | .loop L => ∀ p ∈ L.ts.t.list, RL n p.2
 | .defr => True
 | .it _ _ => True
 | .ty _ _ k => k < n
 | .dead => True
def jgj (g : Gh) (w : World) : Blk -> IObj -> Prop
 | .bk b, o => OBJ g w b o
 | .un zs, o => o = .cells zs /\ ∀ x ∈ zs, RL 0 x
def qk (w : World) : Blk -> IObj -> List Nat
 | .bk b, o => kR w b o
 | .un _, _ => []
def kY (w : World) (ι : List Blk) (σ : List IObj) : List Nat := (List.zipWith (qk w) ι σ).flatten
def ky (l : List (IVal × Value)) : List Nat := (l.map fun p => kl p.1 p.2).flatten
def jdI (g : Gh) (w : World) (b : Nat) : Prop := ∀ ext top, g.T b = some (ext, top) ->
 (∃ c el fz, w.heap[b]? = some (.cells c el fz) /\ top <= c.size /\ fz.2 <= ext) /\ ∀ o, ext <= o -> g.M b o = none
def ZS (g : Gh) (w : World) (b : Nat) : Prop := (g.Z b ≠ 0 -> ∃ c el fz, w.heap[b]? = some (.cells c el fz) /\ g.Z b <= c.size) /\ (∀ T n, g.E b = some (T, n) -> ∃ c fz, w.heap[b]? = some (.cells c T fz) /\ c.size = n)
theorem ZS.other {g : Gh} {w w' : World} {b : Nat} (h : ZS g w b) (hw : w'.heap[b]? = w.heap[b]?) : ZS g w' b := by
 unfold ZS at h ⊢; rw [hw]; exact h
theorem ZS.resize {g : Gh} {w w' : World} {b : Nat} (h : ZS g w b) (hw : ∀ c el fz, w.heap[b]? = some (.cells c el fz) -> ∃ c', w'.heap[b]? = some (.cells c' el fz) /\ c'.size = c.size) : ZS g w' b := by
 refine ⟨fun hz => ?_, fun T n ht => ?_⟩
 . obtain ⟨c, el, fz, q1, q2⟩ := h.1 hz;obtain ⟨c', q3, q4⟩ := hw c el fz q1;exact ⟨c', el, fz, q3, by omega⟩
 . obtain ⟨c, fz, q1, q2⟩ := h.2 T n ht;obtain ⟨c', q3, q4⟩ := hw c T fz q1;exact ⟨c', fz, q3, by omega⟩
def ZM (g g' : Gh) : Prop := ∀ b, g.Z b <= g'.Z b /\ ∀ t, g.E b = some t -> g'.E b = some t
theorem ZM.trans {g g' g'' : Gh} (h : ZM g g') (k : ZM g' g'') : ZM g g'' := fun b => ⟨Nat.le_trans (h b).1 (k b).1, fun t ht => (k b).2 t ((h b).2 t ht)⟩
theorem ZM.le {g g' : Gh} (h : ZM g g') : ∀ b, g.Z b <= g'.Z b := fun b => (h b).1
structure R (g : Gh) (O : List Nat) (l : List (IVal × Value)) (σ : List IObj) (w : World) : Prop where
 len : g.ι.length = σ.length
 vals : ∀ p ∈ l, V g p.1 p.2
 objo : ∀ (id : Nat) b o, g.ι[id]? = some b -> σ[id]? = some o -> jgj g w b o
 nodup : (ky l ++ kY w g.ι σ).Nodup
 sub : ∀ b ∈ ky l ++ kY w g.ι σ, b ∈ O
 lt : ∀ b ∈ O, b < w.heap.size
 claim : ∀ b o v, g.M b o = some v -> w.cell? ⟨b, o, none⟩ = some v
 apart : ∀ (id b : Nat) o, g.ι[id]? = some (.bk b) -> σ[id]? = some o -> b ∈ kR w b o -> ∀ k, g.M b k = none
 spare : ∀ b ∈ O, jdI g w b
 glob : ∀ k vs, Globs.vals k = some vs -> Qa g k 0 vs
 zs : ∀ b, ZS g w b
structure Grow (O : List Nat) (g : Gh) (w : World) (O' : List Nat) (g' : Gh) (w' : World) : Prop where
 size : w.heap.size <= w'.heap.size
 same : ∀ b, b < w.heap.size -> b ∉ O -> w'.heap[b]? = w.heap[b]? /\ g'.T b = g.T b /\ ∀ o, g'.M b o = g.M b o
 mono : ∀ b o v, g.M b o = some v -> g'.M b o = some v
 preo : ∀ (id : Nat) b, g.ι[id]? = some b -> g'.ι[id]? = some b
 fresh : ∀ b ∈ O', b ∈ O \/ w.heap.size <= b
 code : g'.C = g.C
 os : w'.os = w.os
 tape : w'.tape = w.tape
 output : w'.output = w.output
 zm : ZM g g'
theorem Grow.pre {O O' : List Nat} {g g' : Gh} {w w' : World} (h : Grow O g w O' g' w') : ∀ (id b : Nat), g.ι[id]? = some (.bk b) -> g'.ι[id]? = some (.bk b) := fun id b hb => h.preo id (.bk b) hb
theorem Grow.refl (O : List Nat) (g : Gh) (w : World) : Grow O g w O g w := ⟨rP _, fun _ _ _ => ⟨rfl, rfl, fun _ => rfl⟩, fun _ _ _ h => h, fun _ _ h => h, fun _ h => .inl h, rfl, rfl, rfl, rfl, fun _ => ⟨rP _, fun _ h => h⟩⟩
theorem Grow.trans {O O' O'' : List Nat} {g g' g'' : Gh} {w w' w'' : World} (h : Grow O g w O' g' w') (k : Grow O' g' w' O'' g'' w'') : Grow O g w O'' g'' w'' := by
 refine ⟨Nat.le_trans h.size k.size, fun b hb hO => ?_, fun b o v hm => k.mono b o v (h.mono b o v hm), fun id b hb => k.preo id b (h.preo id b hb), fun b hb => ?_, k.code.trans h.code, k.os.trans h.os, k.tape.trans h.tape, k.output.trans h.output, h.zm.trans k.zm⟩
 . have h1 := h.same b hb hO;have hO' : b ∉ O' := fun hm => by
     rcases h.fresh b hm with h2 | h2
     . exact hO h2
     . omega
   have h2 := k.same b (Nat.lt_of_lt_of_le hb h.size) hO';exact ⟨h2.1.trans h1.1, h2.2.1.trans h1.2.1, fun o => (h2.2.2 o).trans (h1.2.2 o)⟩
 . rcases k.fresh b hb with h1 | h1
   . exact h.fresh b h1
   . exact .inr (Nat.le_trans h.size h1)
def Keep (σ σ' : List IObj) (wr : List (Nat × Bool)) : Prop :=
 σ.length <= σ'.length /\ ∀ n, n <= σ.length -> (∀ p ∈ wr, p.2 = true -> n <= p.1) -> (∀ id o, id < n -> σ[id]? = some o -> RLO n o) -> ∀ id o, id < n -> σ'[id]? = some o -> RLO n o
theorem Keep.refl (σ : List IObj) : Keep σ σ [] := ⟨rP _, fun _ _ _ h => h⟩
theorem Keep.trans {σ σ' σ'' : List IObj} {wr wr' : List (Nat × Bool)} (h : Keep σ σ' wr) (k : Keep σ' σ'' wr') : Keep σ σ'' (wr' ++ wr) := by
 refine ⟨Nat.le_trans h.1 k.1, fun n hn hw ho => ?_⟩;exact k.2 n (Nat.le_trans hn h.1) (fun p hp => hw p (by simp [hp])) (h.2 n hn (fun p hp => hw p (by simp [hp])) ho)
theorem Zn {l l' : List (IVal × Value)} (h : l.Perm l') : (ky l).Perm (ky l') := (h.map _).flatten
theorem R.objs {g : Gh} {O : List Nat} {l : List (IVal × Value)} {σ : List IObj} {w : World} (h : R g O l σ w) : ∀ (id b : Nat) o, g.ι[id]? = some (.bk b) -> σ[id]? = some o -> OBJ g w b o := fun id b o h1 h2 => h.objo id (.bk b) o h1 h2
theorem R.perm {g : Gh} {O : List Nat} {l l' : List (IVal × Value)} {σ : List IObj} {w : World} (h : R g O l σ w) (hp : l.Perm l') : R g O l' σ w := by
 have hp' := (Zn hp).append_right (kY w g.ι σ);exact ⟨h.len, fun p hm => h.vals p (hp.mem_iff.2 hm), h.objo, hp'.nodup_iff.1 h.nodup, fun b hb => h.sub b (hp'.mem_iff.2 hb), h.lt, h.claim, h.apart, h.spare, h.glob, h.zs⟩
theorem R.drop {g : Gh} {O : List Nat} {p : IVal × Value} {l : List (IVal × Value)} {σ : List IObj} {w : World} (h : R g O (p :: l) σ w) : R g O l σ w := by
 have e : ky (p :: l) = kl p.1 p.2 ++ ky l := by simp [ky]
 have hn := h.nodup;have hs := h.sub;rw [e, zS] at hn hs;exact ⟨h.len, fun q hm => h.vals q (by simp [hm]), h.objo, (List.nodup_append.1 hn).2.1, fun b hb => hs b (rW _ hb), h.lt, h.claim, h.apart, h.spare, h.glob, h.zs⟩
theorem R.push {g : Gh} {O : List Nat} {x : IVal} {v : Value} {l : List (IVal × Value)} {σ : List IObj} {w : World} (h : R g O l σ w) (hv : V g x v) (ho : kl x v = []) : R g O ((x, v) :: l) σ w := by
 have e : ky ((x, v) :: l) = ky l := by simp [ky, ho]
 refine ⟨h.len, fun q hm => ?_, h.objo, by rw [e]; exact h.nodup, by rw [e]; exact h.sub, h.lt, h.claim, h.apart, h.spare, h.glob, h.zs⟩
 rcases List.mem_cons.1 hm with rfl | hm
 . exact hv
 . exact h.vals q hm
theorem R.dup {g : Gh} {O : List Nat} {x : IVal} {v : Value} {l : List (IVal × Value)} {σ : List IObj} {w : World} (h : R g O ((x, v) :: l) σ w) : R g O ((un3 x, v) :: (x, v) :: l) σ w :=
 h.push (h.vals (x, v) (by simp)).un3 (vr x v)
theorem R.move {g : Gh} {O : List Nat} {x : IVal} {v : Value} {l : List (IVal × Value)} {σ : List IObj} {w : World} (h : R g O ((x, v) :: l) σ w) : R g O ((x, v) :: (un3 x, v) :: l) σ w :=
 h.dup.perm (.swap _ _ _)
theorem R.swap {g : Gh} {O : List Nat} {x y : IVal} {v u : Value} {l : List (IVal × Value)} {σ : List IObj} {w : World} (h : R g O ((x, v) :: l) σ w) (hv : V g x v -> V g y u) (ho : (kl y u).Sublist (kl x v)) : R g O ((y, u) :: l) σ w := by
 have e : ky ((x, v) :: l) = kl x v ++ ky l := by simp [ky]
 have e' : ky ((y, u) :: l) = kl y u ++ ky l := by simp [ky]
 have hs : (ky ((y, u) :: l) ++ kY w g.ι σ).Sublist (ky ((x, v) :: l) ++ kY w g.ι σ) := by
   rw [e, e', zS, zS];exact ho.append_right _
 refine ⟨h.len, fun q hm => ?_, h.objo, h.nodup.sublist hs, fun b hb => h.sub b (hs.mem hb), h.lt, h.claim, h.apart, h.spare, h.glob, h.zs⟩
 rcases List.mem_cons.1 hm with rfl | hm
 . exact hv (h.vals (x, v) (by simp))
 . exact h.vals q (by simp [hm])
end Go.Idl
namespace Go.Idl
variable [Globs]
theorem zY {α : Type} {a b c : List α} (x : List α) (h : a.Perm (b ++ c)) : (x ++ a).Perm (b ++ (x ++ c)) := by
 refine (h.append_left x).trans ?_;rw [<- zS, <- zS b];exact (List.perm_append_comm (l₁ := x) (l₂ := b)).append_right c
theorem Tm.list_get : ∀ (t : Tm) (k : Nat), t.list.Perm ((t.get k).toList ++ (t.set none k).list) := by
 intro t
 induction t with
 | leaf => intro k; simp [Tm.list, Tm.get, Tm.set]
 | node l c r ihl ihr =>
   intro k;simp only [Tm.get, Tm.set]
   cases h0 : Nat.beq k 0 with
   | true => simp [Tm.list]
   | false =>
     cases h1 : Nat.beq (k % 2) 1 with
     | true =>
       simp only [cond_true, cond_false, Tm.list];refine zY _ ?_;exact ((ihl (k / 2)).append_right _).trans (by rw [zS])
     | false =>
       simp only [cond_false, Tm.list];refine zY _ ?_;exact zY _ (ihr (k / 2 - 1))
theorem Tm.list_set (x : Option (Nat × IVal)) : ∀ (t : Tm) (k : Nat), (t.set x k).list.Perm ((bif t.has k then x.toList else []) ++ (t.set none k).list) := by
 intro t
 induction t with
 | leaf => intro k; simp [Tm.list, Tm.has, Tm.set]
 | node l c r ihl ihr =>
   intro k;simp only [Tm.has, Tm.set]
   cases h0 : Nat.beq k 0 with
   | true => simp [Tm.list]
   | false =>
     cases h1 : Nat.beq (k % 2) 1 with
     | true =>
       simp only [cond_true, cond_false, Tm.list];refine zY _ ?_;exact ((ihl (k / 2)).append_right _).trans (by rw [zS])
     | false =>
       simp only [cond_false, Tm.list];refine zY _ ?_;exact zY _ (ihr (k / 2 - 1))
theorem Tm.get_set (x : Option (Nat × IVal)) : ∀ (t : Tm) (k : Nat), (t.set x k).get k = bif t.has k then x else none := by
 intro t
 induction t with
 | leaf => intro k; rfl
 | node l c r ihl ihr =>
   intro k;simp only [Tm.has, Tm.set]
   cases h0 : Nat.beq k 0 with
   | true => simp [Tm.get, h0]
   | false =>
     cases h1 : Nat.beq (k % 2) 1 with
     | true => simp [Tm.get, h0, h1, ihl]
     | false => simp [Tm.get, h0, h1, ihr]
theorem Tm.get_ne (x : Option (Nat × IVal)) : ∀ (t : Tm) (k j : Nat), k ≠ j -> (t.set x k).get j = t.get j := by
 intro t
 induction t with
 | leaf => intro k j _; rfl
 | node l c r ihl ihr =>
   intro k j hkj;simp only [Tm.set]
   cases h0 : Nat.beq k 0 with
   | true =>
     have hj : Nat.beq j 0 = false := by
       cases h : Nat.beq j 0 with
       | false => rfl
       | true => have := zN h0; have := zN h; omega
     simp [Tm.get, hj]
   | false =>
     have hk : k ≠ 0 := zE h0
     cases h1 : Nat.beq (k % 2) 1 with
     | true =>
       have hk1 := zN h1;simp only [cond_true, cond_false, Tm.get]
       cases hj0 : Nat.beq j 0 with
       | true => rfl
       | false =>
         cases hj1 : Nat.beq (j % 2) 1 with
         | false => rfl
         | true =>
           have := zN hj1;simp only [cond_true, cond_false];exact ihl _ _ (by omega)
     | false =>
       have hk1 := zE h1;simp only [cond_false, Tm.get]
       cases hj0 : Nat.beq j 0 with
       | true => rfl
       | false =>
         have hj := zE hj0
         cases hj1 : Nat.beq (j % 2) 1 with
         | true => rfl
         | false =>
           have := zE hj1;simp only [cond_false];exact ihr _ _ (by omega)
theorem Tm.set_comm (x y : Option (Nat × IVal)) : ∀ (t : Tm) (k j : Nat), k ≠ j -> (t.set x k).set y j = (t.set y j).set x k := by
 intro t
 induction t with
 | leaf => intro k j _; rfl
 | node l c r ihl ihr =>
   intro k j hkj
   cases h0 : Nat.beq k 0 with
   | true =>
     have hj : Nat.beq j 0 = false := by
       cases h : Nat.beq j 0 with
       | false => rfl
       | true => have := zN h0; have := zN h; omega
     cases hj1 : Nat.beq (j % 2) 1 <;> simp [Tm.set, h0, hj, hj1]
   | false =>
     have hk : k ≠ 0 := zE h0
     cases hj0 : Nat.beq j 0 with
     | true => cases h1 : Nat.beq (k % 2) 1 <;> simp [Tm.set, h0, hj0, h1]
     | false =>
       have hj := zE hj0;cases h1 : Nat.beq (k % 2) 1 <;> cases hj1 : Nat.beq (j % 2) 1 <;> simp only [Tm.set, h0, hj0, h1, hj1, cond_true, cond_false]
       . have := zE h1;have := zE hj1;rw [ihr _ _ (by omega)]
       . have := zN h1;have := zN hj1;rw [ihl _ _ (by omega)]
theorem Vh : ∀ {t : Tm} {k : Nat} {p : Nat × IVal}, t.get k = some p -> t.has k = true := by
 intro t
 induction t with
 | leaf => intro k p h; simp [Tm.get] at h
 | node l c r ihl ihr =>
   intro k p h;simp only [Tm.get, Tm.has] at h ⊢
   cases h0 : Nat.beq k 0 with
   | true => rfl
   | false =>
     rw [h0] at h;simp only [cond_false] at h ⊢
     cases h1 : Nat.beq (k % 2) 1 with
     | true => rw [h1] at h; exact ihl h
     | false => rw [h1] at h; exact ihr h
theorem jaC : ∀ {t : Tm} {p : Nat × IVal}, p ∈ t.list -> ∃ k, t.get k = some p := by
 intro t
 induction t with
 | leaf => intro p h; simp [Tm.list] at h
 | node l c r ihl ihr =>
   intro p h;simp only [Tm.list, List.mem_append] at h
   rcases h with h | h | h
   . exact ⟨0, by cases c <;> simp [Tm.get] at h ⊢; exact h.symm⟩
   . obtain ⟨k, hk⟩ := ihl h;refine ⟨2 * k + 1, ?_⟩;have h0 : Nat.beq (2 * k + 1) 0 = false := by cases hh : Nat.beq (2 * k + 1) 0 with | false => rfl | true => have := zN hh; omega
     have h1 : Nat.beq ((2 * k + 1) % 2) 1 = true := by have : (2 * k + 1) % 2 = 1 := by omega
                                                        rw [this]; rfl
     have h2 : (2 * k + 1) / 2 = k := by omega
     simp only [Tm.get, h0, h1, h2, cond_false, cond_true]; exact hk
   . obtain ⟨k, hk⟩ := ihr h;refine ⟨2 * k + 2, ?_⟩;have h0 : Nat.beq (2 * k + 2) 0 = false := by cases hh : Nat.beq (2 * k + 2) 0 with | false => rfl | true => have := zN hh; omega
     have h1 : Nat.beq ((2 * k + 2) % 2) 1 = false := by have : (2 * k + 2) % 2 = 0 := by omega
                                                         rw [this]; rfl
     have h2 : (2 * k + 2) / 2 - 1 = k := by omega
     simp only [Tm.get, h0, h1, h2, cond_false]; exact hk
def Ts.roots (ts : Ts) (tmps : Array Value) : List (IVal × Value) := ts.t.list.map fun p => (p.2, tmps.getD p.1 undef)
theorem Ts.get?_spec {ts : Ts} {j : Nat} {v : IVal} (h : ts.get? j = some v) : ts.t.get (ts.slot j) = some (j, v) := by
 unfold Ts.get? at h;split at h
 . rename_i i x hx
   cases hb : Nat.beq i j with
   | true => rw [hb] at h; simp at h; subst h; rw [hx, zN hb]
   | false => rw [hb] at h; simp at h
 . cases h
theorem Ts.roots_get {ts : Ts} {j : Nat} {v : IVal} (tmps : Array Value) (h : ts.get? j = some v) :
   ∃ rest, (ts.roots tmps).Perm ((v, tmps.getD j undef) :: rest) /\ ∀ v', ((ts.set j v').roots tmps).Perm ((v', tmps.getD j undef) :: rest) := by
 have h1 := Ts.get?_spec h;refine ⟨((ts.t.set none (ts.slot j)).list.map fun p => (p.2, tmps.getD p.1 undef)), ?_, fun v' => ?_⟩
 . have := (Tm.list_get ts.t (ts.slot j)).map fun p => (p.2, tmps.getD p.1 undef);rw [h1] at this;simpa [Ts.roots] using this
 . have := (Tm.list_set (some (j, v')) ts.t (ts.slot j)).map fun p => (p.2, tmps.getD p.1 undef);rw [Vh h1] at this;simpa [Ts.roots, Ts.set] using this
theorem Ts.get?_set {ts : Ts} {j : Nat} {v : IVal} (h : ts.get? j = some v) (y : IVal) : (ts.set j y).get? j = some y := by
 have h1 := Vh (Ts.get?_spec h);have h2 : (ts.set j y).slot j = ts.slot j := rfl;unfold Ts.get?;rw [h2];simp only [Ts.set, Tm.get_set, h1, cond_true, Nat.beq_refl]
theorem WT.set {ts : Ts} {tmps : Array Value} (h : WT ts tmps) {j : Nat} (hj : j < tmps.size) (v : IVal) : WT (ts.set j v) tmps := by
 intro k p hp
 by_cases hk : ts.slot j = k
 . subst hk;simp only [Ts.set, Tm.get_set] at hp
   cases hb : ts.t.has (ts.slot j) with
   | true => rw [hb] at hp; simp at hp; subst hp; exact ⟨rfl, hj⟩
   | false => rw [hb] at hp; simp at hp
 . simp only [Ts.set] at hp;rw [Tm.get_ne _ _ _ _ hk] at hp;exact h k p hp
theorem Ts.roots_put {ts : Ts} {tmps : Array Value} (h : WT ts tmps) {j : Nat} (hj : j < tmps.size) (v : IVal) (u : Value) :
   ∃ rest ev, (ts.roots tmps).Perm (ev ++ rest) /\ ((ts.set j v).roots (tmps.setIfInBounds j u)).Perm ((bif ts.t.has (ts.slot j) then [(v, u)] else []) ++ rest) := by
 refine ⟨((ts.t.set none (ts.slot j)).list.map fun p => (p.2, tmps.getD p.1 undef)), ((ts.t.get (ts.slot j)).toList.map fun p => (p.2, tmps.getD p.1 undef)), ?_, ?_⟩
 . have := (Tm.list_get ts.t (ts.slot j)).map fun p => (p.2, tmps.getD p.1 undef);simpa [Ts.roots] using this
 . have := (Tm.list_set (some (j, v)) ts.t (ts.slot j)).map fun p => (p.2, (tmps.setIfInBounds j u).getD p.1 undef);have e : ((ts.t.set none (ts.slot j)).list.map fun p => (p.2, (tmps.setIfInBounds j u).getD p.1 undef)) = ((ts.t.set none (ts.slot j)).list.map fun p => (p.2, tmps.getD p.1 undef)) := by
     refine List.map_congr_left fun p hp => ?_;obtain ⟨k, hk⟩ := jaC hp;have hne : p.1 ≠ j := by
       intro hpj
       by_cases hkk : ts.slot j = k
       . subst hkk; rw [Tm.get_set] at hk; cases hb : ts.t.has (ts.slot j) <;> rw [hb] at hk <;> simp at hk
       . rw [Tm.get_ne _ _ _ _ hkk] at hk;have := (h k p hk).1;rw [hpj] at this; exact hkk this
     simp only [Array.getD_eq_getD_getElem?];rw [Array.getElem?_setIfInBounds_ne (Ne.symm hne)]
   rw [List.map_append, e] at this;simp only [Ts.roots, Ts.set];refine this.trans ?_
   cases hb : ts.t.has (ts.slot j) with
   | true => simp [hj]
   | false => simp
end Go.Idl
namespace Go.Idl
variable [Globs]
variable {P : Program}
def je6 : IVal -> Value -> Bool
 | .int k n, .int k' n' => k == k' && n == n'
 | .bool b, .bool b' => b == b'
 | .str l, .string s => s.data.toList == l
 | .prim (.pointer none), .pointer none => true
 | .prim .nilIface, .nilIface => true
 | .prim .nilFunc, .nilFunc => true
 | .prim (.map none), .map none => true
 | .sl _ true [], .slice none 0 0 => true
 | _, _ => false
def Jh : List IVal -> List Value -> Bool
 | [], [] => true
 | x :: xs, v :: vs => je6 x v && Jh xs vs
 | _, _ => false
def cOK : IVal -> Value -> Bool
 | .agg xs, .agg vs => Jh xs vs.toList
 | .tup [], .tuple vs => vs.isEmpty
 | x, v => je6 x v
theorem jbs (g : Gh) {x : IVal} {v : Value} (h : je6 x v = true) : V g x v /\ kl x v = [] /\ x.isCell = true := by
 unfold je6 at h;split at h
 . simp at h; obtain ⟨rfl, rfl⟩ := h; exact ⟨.int _ _, rfl, rfl⟩
 . simp at h; subst h; exact ⟨.bool _, rfl, rfl⟩
 . simp at h; subst h; exact ⟨.str _, rfl, rfl⟩
 . exact ⟨.prim _ rfl, rfl, rfl⟩
 . exact ⟨.prim _ rfl, rfl, rfl⟩
 . exact ⟨.prim _ rfl, rfl, rfl⟩
 . exact ⟨.prim _ rfl, rfl, rfl⟩
 . exact ⟨.nil _, rfl, rfl⟩
 . cases h
theorem qS (g : Gh) : ∀ {xs : List IVal} {vs : List Value}, Jh xs vs = true -> xs.length = vs.length /\ ∀ (i : Nat) x v, xs[i]? = some x -> vs[i]? = some v -> V g x v /\ qb x v = [] /\ x.isCell = true := by
 intro xs
 induction xs with
 | nil => intro vs h; cases vs <;> simp [Jh] at h ⊢
 | cons x xs ih =>
   intro vs h
   cases vs with
   | nil => simp [Jh] at h
   | cons v vs =>
     simp [Jh] at h;obtain ⟨h1, h2⟩ := h;obtain ⟨hl, hi⟩ := ih h2;refine ⟨by simp [hl], fun i y u hy hu => ?_⟩
     cases i with
     | zero =>
       simp at hy hu;subst hy hu;obtain ⟨a, b, c⟩ := jbs g h1;exact ⟨a, by rw [<- kQ c]; exact b, c⟩
     | succ i => simp at hy hu; exact hi i y u hy hu
theorem Z3 (g : Gh) {x : IVal} {v : Value} (h : cOK x v = true) : V g x v /\ kl x v = [] := by
 unfold cOK at h;split at h
 . rename_i xs vs;obtain ⟨hl, hi⟩ := qS g h;refine ⟨.agg xs vs (by simpa using hl) (fun i x v hx hv => (hi i x v hx (by simpa using hv)).1) (fun x hx => ?_), ?_⟩
   . obtain ⟨i, hx'⟩ := kc hx;obtain ⟨v, hv⟩ := ku hl hx';exact (hi i x v hx' hv).2.2
   . simp only [kl, yg];apply flatten_nil;intro c hc;obtain ⟨i, x, y, h1, h2, rfl⟩ := kh hc;exact (hi i x y h1 h2).2.1
 . rename_i vs;simp at h;subst h;exact ⟨.tup [] #[] rfl (by simp) (by simp), rfl⟩
 . obtain ⟨a, b, _⟩ := jbs g h;exact ⟨a, b⟩
def jfx : IVal -> Value -> Bool
 | .int k n, .int k' n' => k == k' && n == n'
 | .bool b, .bool b' => b == b'
 | .str l, .string s => s.data.toList == l
 | .iface t (.agg [.prim (.pointer (some ⟨b, o, none⟩))]), .iface t' (.agg vs) => t == t' && (match vs.toList with | [.pointer (some ⟨b', o', none⟩)] => b == b' && o == o' | _ => false)
 | .iface t (.prim (.pointer (some ⟨b, o, none⟩))), .iface t' (.pointer (some ⟨b', o', none⟩)) => t == t' && (b == b' && o == o')
 | _, _ => false
def jdx : List IVal -> List Value -> Bool
 | [], [] => true
 | x :: xs, v :: vs => jfx x v && jdx xs vs
 | _, _ => false
theorem jdZ (g : Gh) {x : IVal} {v : Value} (h : jfx x v = true) : V g x v /\ un1 x = x /\ x.isCell = true /\ nr1 x = true := by
 unfold jfx at h;split at h
 . simp at h; obtain ⟨rfl, rfl⟩ := h; exact ⟨.int _ _, rfl, rfl, rfl⟩
 . simp at h; subst h; exact ⟨.bool _, rfl, rfl, rfl⟩
 . simp at h; subst h; exact ⟨.str _, rfl, rfl, rfl⟩
 . rename_i t b o t' vs;simp only [zA, beq_iff_eq] at h;obtain ⟨rfl, h⟩ := h;split at h
   . rename_i b' o' hv;simp only [zA, beq_iff_eq] at h;obtain ⟨rfl, rfl⟩ := h;have hvs : vs = #[.pointer (some ⟨b, o, none⟩)] := by cases vs; simp at hv; simp [hv]
     subst hvs;refine ⟨.iface _ _ _ (.agg _ _ rfl (fun i x v hx hv => ?_) (by simp [IVal.isCell])) ⟨rfl, rfl⟩, rfl, rfl, rfl⟩
     cases i with
     | zero => simp at hx hv; subst hx hv; exact .prim _ rfl
     | succ i => simp at hx
   . cases h
 . simp only [zA, beq_iff_eq] at h;obtain ⟨rfl, rfl, rfl⟩ := h;exact ⟨.iface _ _ _ (.prim _ rfl) ⟨rfl, rfl⟩, rfl, rfl, rfl⟩
 . cases h
theorem jd0 (g : Gh) : ∀ {xs : List IVal} {vs : List Value}, jdx xs vs = true -> xs.length = vs.length /\ (∀ (i : Nat) x v, xs[i]? = some x -> vs[i]? = some v -> V g x v) /\ ∀ x ∈ xs, un1 x = x /\ x.isCell = true /\ nr1 x = true := by
 intro xs
 induction xs with
 | nil => intro vs h; cases vs <;> simp [jdx] at h ⊢
 | cons x xs ih =>
   intro vs h
   cases vs with
   | nil => simp [jdx] at h
   | cons v vs =>
     simp [jdx] at h;obtain ⟨h1, h2⟩ := h;obtain ⟨a, b, c⟩ := jdZ g h1;obtain ⟨hl, hi, ha⟩ := ih h2;refine ⟨by simp [hl], fun i y u hy hu => ?_, fun y hy => ?_⟩
     . cases i with
       | zero => simp at hy hu; subst hy hu; exact a
       | succ i => simp at hy hu; exact hi i y u hy hu
     . rcases List.mem_cons.1 hy with rfl | hy
       . exact ⟨b, c⟩
       . exact ha y hy
def jL : Opd -> Operand -> Bool
 | .t i, .tmp j => i == j
 | .m i, .tmp j => i == j
 | .c x, .const v => cOK x v
 | .c (.fn (.func f) [] []), .func f' => f == f'
 | .c (.pv false cs 0), .global k => match Globs.vals k with
   | some vs => jdx cs vs
   | none => false
 | _, _ => false
abbrev ke := List (IVal × Value)
theorem jI {g : Gh} {O : List Nat} {x : Opd} {r : Operand} {ts ts' : Ts} {a : Act} {l : ke} {σ : List IObj} {w : World} {v : IVal} (hx : jL x r = true) (hg : x.get ts = some (v, ts')) (hl : WT ts a.tmps)
   (hR : R g O (l ++ ts.roots a.tmps) σ w) : R g O ((v, a.eval r) :: (l ++ ts'.roots a.tmps)) σ w /\ WT ts' a.tmps := by
 have hev : ∀ j, r = .tmp j -> a.tmps.getD j undef = a.eval r := by rintro j rfl; rfl
 have hin : ∀ {rest : ke} {p : IVal × Value} {q : ke}, q.Perm (p :: rest) -> (l ++ q).Perm (p :: (l ++ rest)) := fun h => (h.append_left l).trans tW
 cases x with
 | t i =>
   cases r with
   | tmp j =>
     simp [jL] at hx;subst hx;simp only [Opd.get] at hg
     cases hi : ts.get? i with
     | none => simp [hi] at hg
     | some x =>
       simp [hi] at hg;obtain ⟨rfl, rfl⟩ := hg;refine ⟨?_, hl⟩;obtain ⟨rest, h1, -⟩ := Ts.roots_get a.tmps hi;have hp := hin h1;exact ((hR.perm hp).dup).perm ((hp.symm).cons _)
   | _ => simp [jL] at hx
 | m i =>
   cases r with
   | tmp j =>
     simp [jL] at hx;subst hx;simp only [Opd.get] at hg
     cases hi : ts.get? i with
     | none => simp [hi] at hg
     | some x =>
       simp [hi] at hg;obtain ⟨rfl, rfl⟩ := hg;have h0 := hl _ _ (Ts.get?_spec hi);refine ⟨?_, hl.set h0.2 _⟩;obtain ⟨rest, h1, h2⟩ := Ts.roots_get a.tmps hi;exact ((hR.perm (hin h1)).move).perm ((hin (h2 (un3 x))).symm.cons _)
   | _ => simp [jL] at hx
 | c x =>
   simp only [Opd.get, zO, zP] at hg;obtain ⟨rfl, rfl⟩ := hg;refine ⟨?_, hl⟩;unfold jL at hx;split at hx
   . rename_i h; cases h
   . rename_i h; cases h
   . rename_i y u h;cases h;obtain ⟨h1, h2⟩ := Z3 g hx;exact hR.push h1 h2
   . rename_i f f' h;cases h;simp at hx;subst hx;exact hR.push (.fn (.func f) [] [] #[] #[] rfl (by simp) (by simp) rfl (by simp) (by simp)) rfl
   . rename_i cs k h;cases h;split at hx
     . rename_i vs hk;obtain ⟨h1, h2, h3⟩ := jd0 g hx;exact hR.push (.pv false cs 0 vs ⟨k, 0, none⟩ rfl (rP _) h1 h2 (fun x hx => ⟨(h3 x hx).1, (h3 x hx).2.1⟩) (fun _ x hx => (h3 x hx).2.2) (hR.glob k vs hk)) rfl
     . cases hx
   . cases hx
def ka : List Opd -> List Operand -> Bool
 | [], [] => true
 | x :: xs, r :: rs => jL x r && ka xs rs
 | _, _ => false
theorem qf : ∀ {xs : List Opd} {ts ts' : Ts} {vs : List IVal}, getAll xs ts = some (vs, ts') -> vs.length = xs.length := by
 intro xs
 induction xs with
 | nil => intro ts ts' vs h; simp [getAll] at h; simp [<- h.1]
 | cons x xs ih =>
   intro ts ts' vs h;simp only [getAll] at h;split at h
   . split at h
     . rename_i h1 h2;simp at h;obtain ⟨rfl, rfl⟩ := h;simp [ih h2]
     . cases h
   . cases h
theorem kD {g : Gh} {O : List Nat} {a : Act} {σ : List IObj} {w : World} : ∀ {xs : List Opd} {rs : List Operand} {ts ts' : Ts} {vs : List IVal} {l : ke}, ka xs rs = true -> getAll xs ts = some (vs, ts') -> WT ts a.tmps ->
   R g O (l ++ ts.roots a.tmps) σ w -> R g O (vs.zip (rs.map a.eval) ++ (l ++ ts'.roots a.tmps)) σ w /\ WT ts' a.tmps /\ vs.length = (rs.map a.eval).length := by
 intro xs
 induction xs with
 | nil =>
   intro rs ts ts' vs l ho hg hl hR;simp [getAll] at hg;obtain ⟨rfl, rfl⟩ := hg;cases rs <;> simp [ka] at ho;exact ⟨by simpa using hR, hl, rfl⟩
 | cons x xs ih =>
   intro rs ts ts' vs l ho hg hl hR
   cases rs with
   | nil => simp [ka] at ho
   | cons r rs =>
     simp [ka] at ho;simp only [getAll] at hg;split at hg
     . rename_i v ts1 h1;split at hg
       . rename_i us ts2 h2;simp at hg;obtain ⟨rfl, rfl⟩ := hg;obtain ⟨hR1, hl1⟩ := jI ho.1 h1 hl hR;obtain ⟨hR2, hl2, hl3⟩ := ih (l := (v, a.eval r) :: l) ho.2 h2 hl1 (by simpa using hR1);refine ⟨hR2.perm ?_, hl2, by simpa using hl3⟩;simp only [rR, tC, tI];exact tW
       . cases hg
     . cases hg
def jaL : Next -> Value -> Prop
 | .value u, v => u = v
 | .skip, v => v = undef
 | _, _ => False
def Post (g : Gh) (O : List Nat) (w : World) (s : St) (v : IVal) (v' : Value) (s' : St) (a : Act) (w' : World) : Prop :=
 ∃ g' O' wn, Grow O g w O' g' w' /\ R g' O' ((v, v') :: s'.ts.roots a.tmps) s'.σ w' /\ WT s'.ts a.tmps /\ s'.wr = wn ++ s.wr /\ Keep s.σ s'.σ wn
def SimV (P : Program) (o : Oper) (a : Act) (g : Gh) (O : List Nat) (w : World) (s : St) (res : Res) : Prop :=
 res.pan = false /\ ∃ v' w' nx, (execOp a.eval o).run P w = .ok nx w' /\ jaL nx v' /\ Post g O w s res.v v' res.s a w'
theorem Post.same {g : Gh} {O : List Nat} {w : World} {s : St} {v : IVal} {v' : Value} {ts : Ts} {a : Act} (hR : R g O ((v, v') :: ts.roots a.tmps) s.σ w) (hl : WT ts a.tmps) :
   Post g O w s v v' { s with ts := ts } a w :=
 ⟨g, O, [], .refl O g w, hR, hl, rfl, .refl _⟩
theorem SimV.same {P : Program} {o : Oper} {a : Act} {g : Gh} {O : List Nat} {w : World} {s : St} {v : IVal} {v' : Value} {ts : Ts} (hrun : (execOp a.eval o).run P w = .ok (.value v') w)
   (hR : R g O ((v, v') :: ts.roots a.tmps) s.σ w) (hl : WT ts a.tmps) : SimV P o a g O w s ⟨false, v, { s with ts := ts }⟩ :=
 ⟨rfl, v', w, _, hrun, rfl, Post.same hR hl⟩
end Go.Idl
namespace Go.Idl
variable [Globs]
variable {P : Program} {o : Oper} {a : Act} {g : Gh} {O : List Nat} {w : World} {s : St} {res : Res} {cf : kt}
theorem V.int_inv {k : IntKind} {n : Int} {v : Value} (h : V g (.int k n) v) : v = .int k n := by cases h; rfl
theorem V.bool_inv {b : Bool} {v : Value} (h : V g (.bool b) v) : v = .bool b := by cases h; rfl
theorem V.str_inv {l : List UInt8} {v : Value} (h : V g (.str l) v) : ∃ t : ByteArray, v = .string t /\ t.data.toList = l := by cases h with | str t => exact ⟨t, rfl, rfl⟩
theorem V.agg_inv {xs : List IVal} {v : Value} (h : V g (.agg xs) v) : ∃ vs : Array Value, v = .agg vs /\ xs.length = vs.size /\ (∀ (i : Nat) x u, xs[i]? = some x -> vs[i]? = some u -> V g x u) /\ ∀ x ∈ xs, x.isCell = true := by
 cases h with | agg _ vs hl hv hi => exact ⟨vs, rfl, hl, hv, hi⟩
theorem V.tup_inv {xs : List IVal} {v : Value} (h : V g (.tup xs) v) : ∃ vs : Array Value, v = .tuple vs /\ xs.length = vs.size /\ (∀ (i : Nat) x u, xs[i]? = some x -> vs[i]? = some u -> V g x u) /\ ∀ x ∈ xs, nt x = true := by
 cases h with | tup _ vs hl hv hi => exact ⟨vs, rfl, hl, hv, hi⟩
theorem V.ptr_inv {id off : Nat} {v : Value} (h : V g (.ptr id off) v) : ∃ b, v = .pointer (some ⟨b, off, none⟩) /\ g.ι[id]? = some (.bk b) := by
 cases h with | ptr _ _ b hb => exact ⟨b, rfl, hb⟩
theorem V.map_inv {id : Nat} {v : Value} (h : V g (.map id) v) : ∃ b, v = .map (some b) /\ g.ι[id]? = some (.bk b) := by
 cases h with | map _ b hb => exact ⟨b, rfl, hb⟩
theorem V.rs_inv {e id off len : Nat} {v : Value} (h : V g (.rs e id off len) v) : ∃ b cap, v = .slice (some ⟨b, off, none⟩) len cap /\ g.ι[id]? = some (.bk b) /\ len <= cap := by
 cases h with | rs _ _ _ _ cap b hb hc hz => exact ⟨b, cap, rfl, hb, hc⟩
theorem V.rs_inv' {e id off len : Nat} {v : Value} (h : V g (.rs e id off len) v) : ∃ b cap, v = .slice (some ⟨b, off, none⟩) len cap /\ g.ι[id]? = some (.bk b) /\ len <= cap /\ off + cap * e <= g.Z b := by
 cases h with | rs _ _ _ _ cap b hb hc hz => exact ⟨b, cap, rfl, hb, hc, hz⟩
theorem kA (b off n : Nat) : (⟨b, off, none⟩ : Addr).add n = ⟨b, off + n, none⟩ := by
 unfold Addr.add; split <;> simp_all
theorem R.head {l : ke} {σ : List IObj} {x : IVal} {v : Value} (h : R g O ((x, v) :: l) σ w) : V g x v := h.vals (x, v) (by simp)
theorem V.nilOwn {g : Gh} {x : IVal} {v : Value} (h : V g x v) (esz : Nat) : V g (nilOwn esz x) v /\ kl (Idl.nilOwn esz x) v = kl x v := by
 unfold Idl.nilOwn;split
 . cases h with
   | nil => exact ⟨.nil _, rfl⟩
   | sl _ _ _ _ _ _ _ _ _ _ _ _ _ _ _ _ hn => exact absurd (hn rfl) (by simp)
 . exact ⟨h, rfl⟩
theorem R.nilOwn {l : ke} {σ : List IObj} {x : IVal} {v : Value} (h : R g O ((x, v) :: l) σ w) (esz : Nat) : R g O ((Idl.nilOwn esz x, v) :: l) σ w :=
 h.swap (fun hv => (hv.nilOwn esz).1) (by rw [((h.vals (x, v) (by simp)).nilOwn esz).2]; exact List.Sublist.refl _)
theorem jbZ {x : Opd} {r : Operand} (hop : o.op = .move r \/ o.op = .assign r) (hx : jL x r = true) (hs : ja cf (.mv x) s = some res)
   (hl : WT s.ts a.tmps) (hR : R g O (s.ts.roots a.tmps) s.σ w) : SimV P o a g O w s res := by
 simp only [ja] at hs;split at hs
 . rename_i v ts h;simp only [rv, zO] at hs;subst hs;obtain ⟨h1, h2⟩ := jI (l := []) hx h hl hR;refine SimV.same (v' := a.eval r) ?_ h1 h2
   rcases hop with hop | hop <;> simp [execOp, hop]
 . cases hs
theorem jbe {x y z : Opd} {rc ra rb : Operand} (hop : o.op = .pick rc ra rb) (hx : jL x rc = true) (hy : jL y ra = true) (hz : jL z rb = true) (hs : ja cf (.pick x y z) s = some res)
   (hl : WT s.ts a.tmps) (hR : R g O (s.ts.roots a.tmps) s.σ w) : SimV P o a g O w s res := by
 simp only [ja] at hs;split at hs
 . rename_i ts h;split at hs
   . rename_i v ts' h';simp only [rv, zO] at hs;subst hs;obtain ⟨h1, h2⟩ := jI (l := []) hx h hl hR;have hc := h1.head.bool_inv;obtain ⟨h3, h4⟩ := jI (l := []) hy h' h2 h1.drop;exact SimV.same (v' := a.eval ra) (by simp [execOp, hop, hc, asBool]) h3 h4
   . cases hs
 . rename_i ts h;split at hs
   . rename_i v ts' h';simp only [rv, zO] at hs;subst hs;obtain ⟨h1, h2⟩ := jI (l := []) hx h hl hR;have hc := h1.head.bool_inv;obtain ⟨h3, h4⟩ := jI (l := []) hz h' h2 h1.drop;exact SimV.same (v' := a.eval rb) (by simp [execOp, hop, hc, asBool]) h3 h4
   . cases hs
 . cases hs
def Zr : IVal -> Option Value
 | .int k n => some (.int k n)
 | .bool b => some (.bool b)
 | .str l => some (.string ⟨l.toArray⟩)
 | _ => none
theorem jaP {x : IVal} {v : Value} (h : Zr x = some v) : V g x v /\ kl x v = [] := by
 unfold Zr at h;split at h
 . simp only [zO] at h; subst h; exact ⟨.int _ _, rfl⟩
 . simp only [zO] at h; subst h; exact ⟨.bool _, rfl⟩
 . rename_i l;simp only [zO] at h; subst h; exact ⟨V.str (g := g) ⟨l.toArray⟩, rfl⟩
 . cases h
theorem zz (t : ByteArray) : t.size = t.data.toList.length := by rw [Array.length_toList]; rfl
theorem vM (t : ByteArray) : t.toList = t.data.toList := ByteArray.toList_eq t
theorem jdg {op : BinOp} {T : TypeId} {x y z : IVal} {u v : Value} (hx : V g x u) (hy : V g y v) (hb : bin op x y = some z) :
   ∃ r, Zr z = some r /\ (binOp op T u v).run P w = .ok r w := by
 unfold bin at hb;split at hb
 . rename_i k i k' j;have e1 := hx.int_inv;have e2 := hy.int_inv;subst e1 e2;split at hb
   . simp only [QP] at hb;split at hb
     . cases hb
     . rename_i h0;simp at hb; subst hb;exact ⟨_, rfl, by simp [binOp, Op.shift, h0]⟩
   . simp only [QP] at hb;split at hb
     . cases hb
     . rename_i h0;simp at hb; subst hb;exact ⟨_, rfl, by simp [binOp, Op.shift, h0]⟩
   . split at hb
     . rename_i hk;subst hk;unfold j0 at hb;split at hb
       all_goals (try (simp at hb; subst hb; exact ⟨_, rfl, by simp [binOp, Op.intArith, Op.intCmp, Op.intBits]⟩))
       . split at hb
         . cases hb
         . rename_i h0; simp at hb; subst hb; exact ⟨_, rfl, by simp [binOp, Op.intDiv, h0]⟩
       . split at hb
         . cases hb
         . rename_i h0; simp at hb; subst hb; exact ⟨_, rfl, by simp [binOp, Op.intDiv, h0]⟩
       . simp_all
     . cases hb
 . rename_i p q;obtain ⟨t, rfl, ht⟩ := hx.str_inv;obtain ⟨t', rfl, ht'⟩ := hy.str_inv;subst ht ht';unfold j6 at hb;split at hb
   . split at hb
     . rename_i hlen;simp at hb; subst hb;refine ⟨_, rfl, ?_⟩;have h1 : ¬ (((t.size + t'.size : Nat) : Int) > IntKind.i64.max) := by
         rw [zz, zz]; simp [IntKind.max, IntKind.signed, IntKind.bits]; simp at hlen; omega
       have h2 : (⟨(t.data.toList ++ t'.data.toList).toArray⟩ : ByteArray) = t ++ t' := by
         apply ByteArray.ext; simp
       simp only [binOp, Op.stringOp, h1, if_false, Sem.run_pure, h2]
     . cases hb
   all_goals (try (simp at hb; subst hb; exact ⟨_, rfl, by simp [binOp, Op.stringOp, vM]⟩))
   cases hb
 . cases hb
theorem VH {op : BinOp} {T : TypeId} {rx ry : Operand} {x y z : IVal} {u v : Value} (hx : V g x u) (hy : V g y v) (hb : bin op x y = some z) : (eqGuard op T rx ry u v).run P w = .ok () w := by
 unfold bin at hb;split at hb
 . rename_i k i k' j;rw [hx.int_inv, hy.int_inv];unfold eqGuard; split <;> simp
 . obtain ⟨t, rfl, ht⟩ := hx.str_inv;obtain ⟨t', rfl, ht'⟩ := hy.str_inv;unfold eqGuard; split <;> simp
 . cases hb
theorem jdk {op : BinOp} {x y : Opd} {rx ry : Operand} {T T' : TypeId} (hop : o.op = .binOp op T rx ry T') (hx : jL x rx = true) (hy : jL y ry = true)
   (hs : ja cf (.bin op x y) s = some res)
   (hl : WT s.ts a.tmps) (hR : R g O (s.ts.roots a.tmps) s.σ w) : SimV P o a g O w s res := by
 simp only [ja] at hs;split at hs
 . rename_i u ts h;split at hs
   . rename_i v ts' h';split at hs
     . rename_i z hz;simp only [rv, zO] at hs;subst hs;obtain ⟨h1, h2⟩ := jI (l := []) hx h hl hR;obtain ⟨h3, h4⟩ := jI (l := [(u, a.eval rx)]) hy h' h2 h1;obtain ⟨r, hr, hrun⟩ := jdg (P := P) (w := w) (T := T) h1.head h3.head hz;obtain ⟨k1, k2⟩ := jaP (g := g) hr;refine SimV.same (v' := r) ?_ (h3.drop.drop.push k1 k2) h4;simp [execOp, hop, VH (P := P) (w := w) (T := T) (rx := rx) (ry := ry) h1.head h3.head hz, hrun]
     . cases hs
   . cases hs
 . cases hs
theorem jdm {neg : Bool} {x y : Opd} {rx ry : Operand} {T T' : TypeId} (hop : o.op = .binOp (if neg then .neq else .eql) T rx ry T') (hx : jL x rx = true) (hy : jL y ry = true) (hT : P.underlying T = some .bool) (hs : ja cf (.eqb neg x y) s = some res)
   (hl : WT s.ts a.tmps) (hR : R g O (s.ts.roots a.tmps) s.σ w) : SimV P o a g O w s res := by
 simp only [ja] at hs;split at hs
 . rename_i u ts h;split at hs
   . rename_i v ts' h';simp only [rv, zO] at hs;subst hs;obtain ⟨h1, h2⟩ := jI (l := []) hx h hl hR;obtain ⟨h3, h4⟩ := jI (l := [(.bool u, a.eval rx)]) hy h' h2 h1;have e1 := h3.drop.head.bool_inv;have e2 := h3.head.bool_inv;refine SimV.same (v' := .bool ((u == v) != neg)) ?_ (h3.drop.drop.push (.bool _) rfl) h4;have hg : ∀ op, (eqGuard op T rx ry (.bool u) (.bool v)).run P w = .ok () w := by intro op; unfold eqGuard; split <;> simp
     cases neg
     . simp only [r8, if_false] at hop;have := run_eql_bool w T u v hT;simp [execOp, hop, e1, e2, hg, this]
     . simp only [if_true] at hop;have := run_neq_bool w T u v hT;simp [execOp, hop, e1, e2, hg, this]
   . cases hs
 . cases hs
end Go.Idl
namespace Go.Idl
variable [Globs]
variable {P : Program} {o : Oper} {a : Act} {g : Gh} {O : List Nat} {w : World} {s : St} {res : Res} {cf : kt}
theorem jeW {op : UnOp} {x : Opd} {r : Operand} {T : TypeId} (hop : o.op = .unOp op T r) (hx : jL x r = true) (hs : ja cf (.un op x) s = some res)
   (hl : WT s.ts a.tmps) (hR : R g O (s.ts.roots a.tmps) s.σ w) : SimV P o a g O w s res := by
 simp only [ja] at hs;split at hs
 . rename_i v ts h;split at hs
   . rename_i z hz;simp only [rv, zO] at hs;subst hs;obtain ⟨h1, h2⟩ := jI (l := []) hx h hl hR;have hv := h1.head;unfold unI at hz;split at hz
     . simp only [zO] at hz; subst hz;refine SimV.same (v' := _) ?_ (h1.drop.push (.int _ _) rfl) h2;simp [execOp, hop, hv.int_inv, Op.unary, Op.intArith]
     . simp only [j0, zO] at hz; subst hz;refine SimV.same (v' := _) ?_ (h1.drop.push (.int _ _) rfl) h2;simp [execOp, hop, hv.int_inv, Op.unary, Op.intBits]
     . simp only [zO] at hz; subst hz;refine SimV.same (v' := _) ?_ (h1.drop.push (.bool _) rfl) h2;simp [execOp, hop, hv.bool_inv, Op.unary]
     . cases hz
   . cases hs
 . cases hs
theorem jM {T : TypeId} {d : TypeDesc} (h : P.underlying T = some d) : (underlying T).run P w = .ok d w := by simp [underlying, h]
theorem VQ {k : IntKind} {x : Opd} {r : Operand} {S T : TypeId} {ds : TypeDesc} (hop : o.op = .convert S T r) (hx : jL x r = true) (hS : P.underlying S = some ds) (hT : P.underlying T = some (.int k)) (hs : ja cf (.conv (.int k) x) s = some res)
   (hl : WT s.ts a.tmps) (hR : R g O (s.ts.roots a.tmps) s.σ w) : SimV P o a g O w s res := by
 simp only [ja] at hs;split at hs
 . rename_i v ts h;split at hs <;> try (first | (cases hs; done) | (rename_i h0; cases h0; done))
   all_goals rename_i h0
   . cases h0;simp only [rv, zO] at hs;subst hs;obtain ⟨h1, h2⟩ := jI (l := []) hx h hl hR;refine SimV.same (v' := _) ?_ (h1.drop.push (.int _ _) rfl) h2;simp [execOp, hop, h1.head.int_inv, convert, jM hS, jM hT, Conv.intToInt]
 . cases hs
theorem QS {x : Opd} {r : Operand} {S T : TypeId} (hop : o.op = .convert S T r) (hx : jL x r = true) (hS : P.underlying S = some .string) (hT : P.underlying T = some .string) (hs : ja cf (.conv .same x) s = some res)
   (hl : WT s.ts a.tmps) (hR : R g O (s.ts.roots a.tmps) s.σ w) : SimV P o a g O w s res := by
 simp only [ja] at hs;split at hs
 . rename_i v ts h;split at hs <;> try (first | (cases hs; done) | (rename_i h0; cases h0; done))
   . simp only [rv, zO] at hs;subst hs;obtain ⟨h1, h2⟩ := jI (l := []) hx h hl hR;obtain ⟨t, ht, _⟩ := h1.head.str_inv;refine SimV.same (v' := a.eval r) ?_ h1 h2;simp [execOp, hop, ht, convert, jM hS, jM hT]
 . cases hs
theorem QV {x : Opd} {r : Operand} (hop : o.op = .nilCheck r) (hx : jL x r = true) (hs : ja cf (.nilCheck x) s = some res)
   (hl : WT s.ts a.tmps) (hR : R g O (s.ts.roots a.tmps) s.σ w) : SimV P o a g O w s res := by
 simp only [ja] at hs;split at hs
 . rename_i id off ts h;simp only [rv, zO] at hs;subst hs;obtain ⟨h1, h2⟩ := jI (l := []) hx h hl hR;obtain ⟨b, hb, _⟩ := h1.head.ptr_inv;exact SimV.same (v' := a.eval r) (by simp [execOp, hop, hb]) h1 h2
 . rename_i rf cs off ts h;simp only [rv, zO] at hs;subst hs;obtain ⟨h1, h2⟩ := jI (l := []) hx h hl hR;have hb : ∃ b, a.eval r = .pointer (some b) := by
     have hv := h1.head;generalize a.eval r = u at hv;cases hv; exact ⟨_, rfl⟩
   obtain ⟨b, hb⟩ := hb;exact SimV.same (v' := a.eval r) (by simp [execOp, hop, hb]) h1 h2
 . rename_i f us vs ts h;simp only [rv, zO] at hs;subst hs;obtain ⟨h1, h2⟩ := jI (l := []) hx h hl hR;have hb : ∃ p q, a.eval r = .func (.func f) p q := by
     have hv := h1.head;generalize a.eval r = u at hv;cases hv; exact ⟨_, _, rfl⟩
   obtain ⟨p, q, hb⟩ := hb;exact SimV.same (v' := a.eval r) (by simp [execOp, hop, hb]) h1 h2
 . cases hs
theorem V.iface_inv {t : TypeId} {x : IVal} {v : Value} (h : V g (.iface t x) v) : ∃ u, v = .iface t u /\ V g x u /\ vl x := by cases h with | iface _ _ u hv hf => exact ⟨u, rfl, hv, hf⟩
theorem qd {x : IVal} (h : nt x = true) : vl (un2 x) := ⟨VW x, by rw [V9]; exact h⟩
theorem VT {x : Opd} {r : Operand} {T : TypeId} {d : TypeDesc} (hop : o.op = .makeInterface T r) (hx : jL x r = true) (hT : P.underlying T = some d) (hd : ∀ ms, d ≠ .interface ms)
   (hs : ja cf (.mkIface T x) s = some res) (hl : WT s.ts a.tmps) (hR : R g O (s.ts.roots a.tmps) s.σ w) : SimV P o a g O w s res := by
 simp only [ja] at hs;split at hs
 . rename_i v ts h;split at hs
   . rename_i hnt;simp only [rv, zO] at hs;subst hs;obtain ⟨h1, h2⟩ := jI (l := []) hx h hl hR;refine SimV.same (v' := .iface T (a.eval r)) ?_ (h1.drop.push (.iface T _ _ h1.head.un2 (qd hnt)) rfl) h2;simp only [execOp, hop, Instr.makeInterface, Sem.run_bind, jM hT, Result.andThen_ok];simp
   . cases hs
 . cases hs
theorem zr {xs : List IVal} {vs : List Value} (hv : ∀ p ∈ xs.zip vs, V g p.1 p.2) {i : Nat} {x : IVal} {v : Value} (hx : xs[i]? = some x) (hu : vs[i]? = some v) : V g x v := by
 have : (xs.zip vs)[i]? = some (x, v) := by simp [List.getElem?_zip_eq_some, hx, hu]
 exact hv _ (zM this)
theorem R.drops {l l' : ke} {σ : List IObj} (h : R g O (l ++ l') σ w) : R g O l' σ w := by
 induction l with
 | nil => exact h
 | cons p l ih => exact ih h.drop
theorem jbc {f : Fn} {xs ys : List Opd} {rs qs : Array Operand} (hop : o.op = .makeFunc f rs qs) (hx : ka xs rs.toList = true) (hy : ka ys qs.toList = true)
   (hs : ja cf (.mkFn f xs ys) s = some res) (hl : WT s.ts a.tmps) (hR : R g O (s.ts.roots a.tmps) s.σ w) : SimV P o a g O w s res := by
 simp only [ja] at hs;split at hs
 . rename_i vs ts h;split at hs
   . rename_i us ts' h';split at hs
     . rename_i hnt;simp only [zA, rD] at hnt;simp only [rv, zO] at hs;subst hs;obtain ⟨h1, h2, h3⟩ := kD (l := []) hx h hl hR;obtain ⟨h4, h5, h6⟩ := kD (l := vs.zip (rs.toList.map a.eval)) hy h' h2 (by simpa using h1);refine SimV.same (v' := .func f (rs.map a.eval) (qs.map a.eval)) (by simp [execOp, hop, Instr.makeFunc]) ?_ h5;refine R.push (R.drops (R.drops h4)) ?_ (by simp [kl, yg, qb]);refine .fn f _ _ _ _ (by simpa using h3) (fun i x v hx hv => ?_) (fun x hx => ?_) (by simpa using h6) (fun i x v hx hv => ?_) (fun x hx => ?_)
       . simp only [rJ, rT] at hx;obtain ⟨x', hx', rfl⟩ := hx;refine (zr (vs := rs.toList.map a.eval) (fun p hp => h4.vals p ?_) hx' ?_).un2
         . simp [hp]
         . simpa using hv
       . simp only [tO] at hx;obtain ⟨x', hx', rfl⟩ := hx;exact qd (hnt.1 x' hx')
       . simp only [rJ, rT] at hx;obtain ⟨x', hx', rfl⟩ := hx;refine (zr (vs := qs.toList.map a.eval) (fun p hp => h4.vals p ?_) hx' ?_).un2
         . simp [hp]
         . simpa using hv
       . simp only [tO] at hx;obtain ⟨x', hx', rfl⟩ := hx;exact qd (hnt.2 x' hx')
     . cases hs
   . cases hs
 . cases hs
end Go.Idl
namespace Go.Idl
variable [Globs]
variable {P : Program} {o : Oper} {a : Act} {g : Gh} {O : List Nat} {w : World} {s : St} {res : Res} {cf : kt}
theorem kw {T : TypeId} {i : TypeInfo} (h : P.info? T = some i) : (sizeOf T).run P w = .ok i.size w := by simp [sizeOf, typeInfo, h]
theorem V.pv_inv {rf : Bool} {cs : List IVal} {off : Nat} {v : Value} (h : V g (.pv rf cs off) v) : ∃ (vs : List Value) (b e : Nat), v = .pointer (some ⟨b, e + off, none⟩) /\ cs.length = vs.length /\
   (∀ (i : Nat) x u, cs[i]? = some x -> vs[i]? = some u -> V g x u) /\ (∀ x ∈ cs, Idl.un1 x = x /\ x.isCell = true) /\ (rf = false -> ∀ x ∈ cs, nr1 x = true) /\ Qa g b e vs := by
 cases h with
 | pv _ _ _ vs a hs ho hl hv hf hr hm =>
   refine ⟨vs, a.block, a.off - off, ?_, hl, hv, hf, hr, hm⟩
   cases a with
   | mk b p sp => simp at hs ho ⊢; exact ⟨by omega, hs⟩
theorem V.pv_mk {rf : Bool} {cs : List IVal} (off : Nat) {vs : List Value} {b e : Nat} (hl : cs.length = vs.length)
   (hv : ∀ (i : Nat) x u, cs[i]? = some x -> vs[i]? = some u -> V g x u) (hf : ∀ x ∈ cs, Idl.un1 x = x /\ x.isCell = true) (hr : rf = false -> ∀ x ∈ cs, nr1 x = true) (hm : Qa g b e vs) :
   V g (.pv rf cs off) (.pointer (some ⟨b, e + off, none⟩)) :=
 .pv rf cs off vs ⟨b, e + off, none⟩ rfl (by simp) hl hv hf hr (by simpa using hm)
theorem yS {b off : Nat} {f : Field} {i : TypeInfo} (h : P.info? f.type = some i) (h0 : i.size ≠ 0) : (fieldPlace ⟨b, off, none⟩ f).run P w = .ok ⟨b, off + f.offset, none⟩ w := by
 simp [fieldPlace, kw h, h0, kA]
theorem K4 {x : Opd} {r : Operand} {T : TypeId} {fs : Array Field} {k : Nat} {f : Field} {i : TypeInfo} (hop : o.op = .fieldAddr T r k) (hx : jL x r = true) (hT : P.underlying T = some (.struct fs)) (hf : fs[k]? = some f)
   (hi : P.info? f.type = some i) (h0 : i.size ≠ 0) (hs : ja cf (.fieldAddr f.offset x) s = some res) (hl : WT s.ts a.tmps) (hR : R g O (s.ts.roots a.tmps) s.σ w) : SimV P o a g O w s res := by
 simp only [ja] at hs;split at hs
 . rename_i id off ts h;simp only [rv, zO] at hs;subst hs;obtain ⟨h1, h2⟩ := jI (l := []) hx h hl hR;obtain ⟨b, hb, hι⟩ := h1.head.ptr_inv;refine SimV.same (v' := .pointer (some ⟨b, off + f.offset, none⟩)) ?_ (h1.drop.push (.ptr id _ b hι) rfl) h2;simp [execOp, hop, hb, Instr.fieldAt, jM hT, hf, Instr.sureAddr, yS hi h0]
 . rename_i rf cs off ts h;simp only [rv, zO] at hs;subst hs;obtain ⟨h1, h2⟩ := jI (l := []) hx h hl hR;obtain ⟨vs, b, e, hb, hl', hv, hf', hr, hm⟩ := h1.head.pv_inv;refine SimV.same (v' := .pointer (some ⟨b, e + (off + f.offset), none⟩)) ?_ (h1.drop.push (V.pv_mk _ hl' hv hf' hr hm) rfl) h2;simp [execOp, hop, hb, Instr.fieldAt, jM hT, hf, Instr.sureAddr, yS hi h0, Nat.add_assoc]
 . cases hs
def tyN (P : Program) (T : TypeId) (n : Option Nat) : Bool :=
 match P.underlying T, P.info? T, n with
 | some (.struct _), some i, some n => i.size == n
 | some (.array _ _), some i, some n => i.size == n
 | some (.struct _), _, none => false
 | some (.array _ _), _, none => false
 | some _, some i, none => i.size == 1
 | _, _, _ => false
theorem JT {T : TypeId} {n : Option Nat} (h : tyN P T n = true) : (isAgg T).run P w = .ok n.isSome w /\ ∃ i, P.info? T = some i /\ i.size = n.getD 1 := by
 unfold tyN at h;split at h
 . rename_i h1 h2; exact ⟨by simp [isAgg, jM h1], _, h2, by simpa using h⟩
 . rename_i h1 h2; exact ⟨by simp [isAgg, jM h1], _, h2, by simpa using h⟩
 . cases h
 . cases h
 . rename_i h3 h4 h1 h2;refine ⟨?_, _, h2, by simpa using h⟩;simp only [isAgg, Sem.run_bind, jM h1, Result.andThen_ok];simp
 . cases h
theorem JY {α : Type} {l l' : List (List α)} (h : l.Sublist l') : l.flatten.Sublist l'.flatten := by
 induction h with
 | slnil => exact .slnil
 | cons a _ ih => exact ih.trans (by simp)
 | cons_cons a _ ih => simp only [List.flatten_cons]; exact List.Sublist.append (.refl _) ih
theorem jay {f : IVal -> IVal} {xs : List IVal} (h : xs.map f = xs) : ∀ c ∈ xs, f c = c := by
 induction xs with
 | nil => simp
 | cons x xs ih =>
   simp at h;intro c hc;simp at hc
   rcases hc with rfl | hc
   . exact h.1
   . exact ih (by simpa using h.2) c hc
theorem zx {T : TypeId} {n : Option Nat} {cs : List IVal} {vs : Array Value} {off : Nat} {z : IVal} (hT : tyN P T n = true) (hl : cs.length = vs.size) (hv : ∀ (i : Nat) x u, cs[i]? = some x -> vs[i]? = some u -> V g x u)
   (hi : ∀ x ∈ cs, x.isCell = true) (hz : jA n cs off = some z) : ∃ u, (part T vs off).run P w = .ok u w /\ V g z u /\ (kl z u).Sublist (List.zipWith qb cs vs.toList).flatten := by
 obtain ⟨h1, i, h2, h3⟩ := JT (w := w) hT
 cases n with
 | some n =>
   simp only [jA] at hz;split at hz
   . rename_i hlen;simp only [zO] at hz;subst hz;refine ⟨.agg (vs.extract off (off + n)), ?_, ?_, ?_⟩
     . simp [part, h1, kw h2, h3]
     . refine .agg _ _ (by simp; omega) (fun j x u hx hu => ?_) (fun x hx => hi x (tF (r9 hx)));simp only [tD, tA] at hx;split at hx
       . rename_i hj;have : vs[off + j]? = some u := by
           rw [Array.getElem?_extract] at hu;split at hu
           . exact hu
           . cases hu
         exact hv _ _ _ hx this
       . cases hx
     . simp only [kl, yg];have e : (vs.extract off (off + n)).toList = (vs.toList.drop off).take n := by
         simp [List.take_drop]
       rw [e, <- List.take_zipWith, <- List.drop_zipWith];exact JY ((List.take_sublist _ _).trans (List.drop_sublist _ _))
   . cases hz
 | none =>
   simp only [jA] at hz;obtain ⟨u, hu⟩ := kH hl hz;refine ⟨u, ?_, hv _ _ _ hz hu, ?_⟩
   . simp [part, h1, hu]
   . rw [kQ (hi z (zM hz))];have : (List.zipWith qb cs vs.toList)[off]? = some (qb z u) := by
       have hu' : vs.toList[off]? = some u := by simpa using hu
       simp [tL, hz, hu']
     exact List.sublist_flatten_of_mem (zM this)
theorem ZE {x : Opd} {r : Operand} {T : TypeId} {fs : Array Field} {k : Nat} {f : Field} {n : Option Nat} (hop : o.op = .field T r k) (hx : jL x r = true) (hT : P.underlying T = some (.struct fs)) (hf : fs[k]? = some f)
   (hi : tyN P f.type n = true) (hs : ja cf (.field f.offset n x) s = some res) (hl : WT s.ts a.tmps) (hR : R g O (s.ts.roots a.tmps) s.σ w) : SimV P o a g O w s res := by
 simp only [ja] at hs;split at hs
 . rename_i cs ts h;split at hs
   . rename_i z hz;simp only [rv, zO] at hs;subst hs;obtain ⟨h1, h2⟩ := jI (l := []) hx h hl hR;obtain ⟨vs, hb, hl', hv, hc⟩ := h1.head.agg_inv;obtain ⟨u, hu, hV, ho⟩ := zx (P := P) (w := w) hi hl' hv hc hz;refine SimV.same (v' := u) ?_ (h1.swap (fun _ => hV) ?_) h2
     . simp [execOp, hop, hb, Instr.field, jM hT, hf, asAgg, hu]
     . rw [hb]; exact ho
   . cases hs
 . cases hs
theorem Ql {vs : List Value} {esz : Nat} (hz : ∀ v ∈ vs, v.cells.size = esz) {n k : Nat} {v c : Value} (hv : vs[n]? = some v) (hc : v.cells[k]? = some c) : (jJ vs)[n * esz + k]? = some c := by
 induction vs generalizing n with
 | nil => simp at hv
 | cons u vs ih =>
   have hu := hz u (by simp)
   cases n with
   | zero =>
     simp at hv; subst hv;have hk : k < u.cells.toList.length := by simpa using (Array.getElem?_eq_some_iff.1 hc).1
     simp only [jJ, rO, Nat.zero_mul, tS];rw [zL hk];simpa using hc
   | succ n =>
     simp at hv;have := ih (fun v h => hz v (by simp [h])) hv;simp only [jJ, rO] at this ⊢;have e : (n + 1) * esz + k = u.cells.toList.length + (n * esz + k) := by simp [hu, tH]; omega
     rw [e, zR (by omega)];simpa using this
theorem yD {x : IVal} {v : Value} (h : V g x v) (hf : vl x) : ∀ c ∈ x.cells, un1 c = c /\ c.isCell = true := by
 intro c hc
 cases x with
 | agg xs =>
   obtain ⟨_, _, _, _, hi⟩ := h.agg_inv;have := hf.1;simp only [un2, IVal.agg.injEq] at this;refine ⟨?_, hi c hc⟩;exact jay this c hc
 | tup xs => simp [vl, nt] at hf
 | _ => simp [IVal.cells] at hc; subst hc; exact ⟨hf.1, rfl⟩
theorem jaI {x : IVal} (hn : nr2 x = true) : ∀ c ∈ x.cells, nr1 c = true := by
 intro c hc
 cases x with
 | agg xs => simp only [nr2, rD] at hn; exact hn c hc
 | _ => simp [IVal.cells] at hc; subst hc; exact hn
theorem toNat_lt {n : Int} {k : Nat} (h0 : 0 <= n) (h : n < k) : n.toNat < k := by omega
theorem VS {x y : Opd} {rx ry : Operand} {T E : TypeId} {i : TypeInfo} (hop : o.op = .indexAddr T rx ry) (hx : jL x rx = true) (hy : jL y ry = true) (hT : P.underlying T = some (.slice E)) (hE : P.info? E = some i)
   (hs : ja cf (.idxAddr i.size x y) s = some res) (hl : WT s.ts a.tmps) (hR : R g O (s.ts.roots a.tmps) s.σ w) : SimV P o a g O w s res := by
 simp only [ja] at hs;split at hs
 . rename_i own rf xs ts h;split at hs
   . rename_i k n ts' h';split at hs
     . rename_i h0;split at hs
       . rename_i v hv;split at hs
         . rename_i hsz;simp only [rv, zO] at hs;subst hs;obtain ⟨h1, h2⟩ := jI (l := []) hx h hl hR;obtain ⟨h3, h4⟩ := jI (l := [(.sl own rf xs, a.eval rx)]) hy h' h2 h1;have hn := h3.head.int_inv;have hV := h3.drop.head;generalize hu : a.eval rx = u at hV
           cases hV with
           | nil => simp at hv
           | sl _ _ _ vs ad cap esz hs' hc hl' hv' hf hr hz hm ho =>
             obtain ⟨vv, hvv⟩ := ku hl' hv;have hVv := hv' _ _ _ hv hvv;have hsz' : esz = i.size := by rw [<- hz vv (zM hvv), <- hsz]; exact (hVv.cells.1).symm
             have hlt := jk hv;refine SimV.same (v' := .pointer (some ⟨ad.block, (ad.off + n.toNat * i.size) + 0, none⟩)) ?_ (h3.drop.drop.push (V.pv_mk (vs := vv.cells.toList) 0 ?_ ?_ ?_ ?_ ?_) rfl) h4
             . have had : ad = ⟨ad.block, ad.off, none⟩ := by have := hs' (by omega); cases ad; simp at this; simp [this]
               have hlt' : n < (xs.length : Int) := by omega
               rw [had] at hu;simp only [execOp, hop, hu, hn, Instr.indexAt, asIntOf, Sem.run_bind, Sem.run_pure, Result.andThen_ok, jM hT];simp [kw hE, h0, hlt', kA]
             . rw [hVv.cells.1]; simp
             . intro j c d hc' hd; exact hVv.cells.2 j c d hc' (by simpa using hd)
             . exact yD hVv (hf v (zM hv))
             . intro hrf; exact jaI (hr hrf v (zM hv))
             . intro j c hj;have := hm (n.toNat * esz + j) c (Ql hz hvv (by simpa using hj));rw [<- hsz', Nat.add_assoc]; exact this
         . cases hs
       . cases hs
     . cases hs
   . cases hs
 . rename_i e id off len ts h;split at hs
   . rename_i k n ts' h';split at hs
     . rename_i hn0;simp only [rv, zO] at hs;subst hs;obtain ⟨h1, h2⟩ := jI (l := []) hx h hl hR;obtain ⟨h3, h4⟩ := jI (l := [(.rs e id off len, a.eval rx)]) hy h' h2 h1;have hn := h3.head.int_inv;obtain ⟨b, cap, hb, hι, hc⟩ := h3.drop.head.rs_inv;obtain ⟨ha, hbd, he⟩ := hn0;subst he;refine SimV.same (v' := .pointer (some ⟨b, off + n.toNat * i.size, none⟩)) ?_ (h3.drop.drop.push (.ptr id _ b hι) rfl) h4;simp only [execOp, hop, hb, hn, Instr.indexAt, asIntOf, Sem.run_bind, Sem.run_pure, Result.andThen_ok, jM hT];simp [kw hE, ha, hbd, kA]
     . cases hs
   . cases hs
 . cases hs
end Go.Idl
namespace Go.Idl
variable [Globs]
variable {P : Program} {o : Oper} {a : Act} {g : Gh} {O : List Nat} {w : World} {s : St} {res : Res} {cf : kt}
theorem QT {x y : Opd} {rx ry : Operand} {T E : TypeId} {i : TypeInfo} {len : Nat} (hop : o.op = .indexAddr T rx ry) (hx : jL x rx = true) (hy : jL y ry = true) (hT : P.underlying T = some (.array len E)) (hE : P.info? E = some i)
   (hs : ja cf (.idxAddrA len i.size x y) s = some res) (hl : WT s.ts a.tmps) (hR : R g O (s.ts.roots a.tmps) s.σ w) : SimV P o a g O w s res := by
 simp only [ja] at hs;split at hs
 . rename_i id off ts h;split at hs
   . rename_i k n ts' h';split at hs
     . rename_i hn0;simp only [rv, zO] at hs;subst hs;obtain ⟨h1, h2⟩ := jI (l := []) hx h hl hR;obtain ⟨h3, h4⟩ := jI (l := [(.ptr id off, a.eval rx)]) hy h' h2 h1;have hn := h3.head.int_inv;obtain ⟨b, hb, hι⟩ := h3.drop.head.ptr_inv;refine SimV.same (v' := .pointer (some ⟨b, off + n.toNat * i.size, none⟩)) ?_ (h3.drop.drop.push (.ptr id _ b hι) rfl) h4;simp only [execOp, hop, hb, hn, Instr.indexAt, asIntOf, Sem.run_bind, Sem.run_pure, Result.andThen_ok, jM hT];simp [kw hE, Instr.sureAddr, hn0, kA]
     . cases hs
   . cases hs
 . rename_i rf cs off ts h;split at hs
   . rename_i k n ts' h';split at hs
     . rename_i hn0;simp only [rv, zO] at hs;subst hs;obtain ⟨h1, h2⟩ := jI (l := []) hx h hl hR;obtain ⟨h3, h4⟩ := jI (l := [(.pv rf cs off, a.eval rx)]) hy h' h2 h1;have hn := h3.head.int_inv;obtain ⟨vs, b, e, hb, hl', hv, hf', hr, hm⟩ := h3.drop.head.pv_inv;refine SimV.same (v' := .pointer (some ⟨b, e + (off + n.toNat * i.size), none⟩)) ?_ (h3.drop.drop.push (V.pv_mk _ hl' hv hf' hr hm) rfl) h4;simp only [execOp, hop, hb, hn, Instr.indexAt, asIntOf, Sem.run_bind, Sem.run_pure, Result.andThen_ok, jM hT];simp [kw hE, Instr.sureAddr, hn0, kA, Nat.add_assoc]
     . cases hs
   . cases hs
 . cases hs
theorem jdp {t : ByteArray} {n : Nat} {c : UInt8} (h : t.data.toList[n]? = some c) : t[n]? = some c := by
 have hn : n < t.data.size := by simpa using jk h
 have hn' : n < t.size := hn;rw [getElem?_pos t n hn'];simp at h;have := (Array.getElem?_eq_some_iff.1 h).2;rw [<- this];rfl
theorem ja7 {x y : Opd} {rx ry : Operand} {T : TypeId} (hop : o.op = .index T rx ry) (hx : jL x rx = true) (hy : jL y ry = true) (hT : P.underlying T = some .string)
   (hs : ja cf (.idxS x y) s = some res) (hl : WT s.ts a.tmps) (hR : R g O (s.ts.roots a.tmps) s.σ w) : SimV P o a g O w s res := by
 simp only [ja] at hs;split at hs
 . rename_i b ts h;split at hs
   . rename_i k n ts' h';split at hs
     . rename_i hn0;split at hs
       . rename_i c hc;simp only [rv, zO] at hs;subst hs;obtain ⟨h1, h2⟩ := jI (l := []) hx h hl hR;obtain ⟨h3, h4⟩ := jI (l := [(.str b, a.eval rx)]) hy h' h2 h1;have hn := h3.head.int_inv;obtain ⟨t, ht, rfl⟩ := h3.drop.head.str_inv;refine SimV.same (v' := .int .u8 c.toNat) ?_ (h3.drop.drop.push (.int _ _) rfl) h4;simp [execOp, hop, ht, hn, Instr.index, asIntOf, jM hT, hn0, jdp hc]
       . cases hs
     . cases hs
   . cases hs
 . cases hs
theorem ja6 {x y : Opd} {rx ry : Operand} {T E : TypeId} {i : TypeInfo} {len : Nat} {n : Option Nat} (hop : o.op = .index T rx ry) (hx : jL x rx = true) (hy : jL y ry = true) (hT : P.underlying T = some (.array len E)) (hE : P.info? E = some i) (hn : tyN P E n = true)
   (hs : ja cf (.idxA len i.size n x y) s = some res) (hl : WT s.ts a.tmps) (hR : R g O (s.ts.roots a.tmps) s.σ w) : SimV P o a g O w s res := by
 simp only [ja] at hs;split at hs
 . rename_i cs ts h;split at hs
   . rename_i k j ts' h';split at hs
     . rename_i hn0;split at hs
       . rename_i z hz;simp only [rv, zO] at hs;subst hs;obtain ⟨h1, h2⟩ := jI (l := []) hx h hl hR;obtain ⟨h3, h4⟩ := jI (l := [(.agg cs, a.eval rx)]) hy h' h2 h1;have hj := h3.head.int_inv;obtain ⟨vs, hb, hl', hv, hc⟩ := h3.drop.head.agg_inv;obtain ⟨u, hu, hV, ho⟩ := zx (P := P) (w := w) hn hl' hv hc hz;refine SimV.same (v' := u) ?_ (h3.drop.swap (fun _ => hV) (by rw [hb]; exact ho)) h4;simp [execOp, hop, hb, hj, Instr.index, asIntOf, jM hT, hn0, kw hE, hu]
       . cases hs
     . cases hs
   . cases hs
 . cases hs
def yp : Option Opd -> Option Operand -> Bool
 | none, none => true
 | some x, some r => jL x r
 | _, _ => false
theorem qA {x : Option Opd} {r : Option Operand} {ts : Ts} {l : ke} {σ : List IObj} {d n : Nat} (hx : yp x r = true) (hg : jq x ts d = some n) (hl : WT ts a.tmps)
   (hR : R g O (l ++ ts.roots a.tmps) σ w) : (r = none /\ n = d) \/ ∃ r', r = some r' /\ ∃ k, a.eval r' = .int k n := by
 cases x with
 | none => cases r <;> simp [yp] at hx; simp [jq] at hg; exact .inl ⟨rfl, hg.symm⟩
 | some x =>
   cases r with
   | none => simp [yp] at hx
   | some r =>
     refine .inr ⟨r, rfl, ?_⟩;simp only [jq] at hg;split at hg
     . rename_i k m ts' h;obtain ⟨h1, _⟩ := jI (l := l) hx h hl hR;refine ⟨k, ?_⟩;rw [h1.head.int_inv];unfold nat at hg;split at hg
       . simp at hg; congr 1; omega
       . cases hg
     . cases hg
theorem Zw {k : IntKind} {n y : Nat} {c : BoundsCode} (h : n <= y) : (Instr.sliceBound (.int k n) y c).run P w = .ok n w := by
 simp [Instr.sliceBound, asIntOf, h]
theorem yG {isS : Bool} {len cap l h m : Nat} {lo hi mx : Option Value} (hlo : lo = none /\ l = 0 \/ ∃ k, lo = some (.int k l)) (hhi : hi = none /\ h = len /\ mx = none \/ ∃ k, hi = some (.int k h)) (hmx : mx = none /\ m = cap \/ ∃ k, mx = some (.int k m))
   (h1 : l <= h) (h2 : h <= m) (h3 : m <= cap) : (Instr.sliceBounds isS len cap lo hi mx).run P w = .ok (l, h, m) w := by
 rcases hlo with ⟨rfl, rfl⟩ | ⟨k1, rfl⟩ <;> rcases hhi with ⟨rfl, rfl, rfl⟩ | ⟨k2, rfl⟩ <;> rcases hmx with ⟨hm, rfl⟩ | ⟨k3, hm⟩ <;> (try (cases hm; done)) <;> (try subst hm) <;> simp [Instr.sliceBounds, Zw, h1, h2, h3]
theorem X1 {x : Opd} {rx : Operand} {lo hi : Option Opd} {rlo rhi : Option Operand} {T : TypeId} (hop : o.op = .slice T rx rlo rhi none) (hx : jL x rx = true) (hlo : yp lo rlo = true) (hhi : yp hi rhi = true) (hT : P.underlying T = some .string)
   (hs : ja cf (.sliceS x lo hi) s = some res) (hl : WT s.ts a.tmps) (hR : R g O (s.ts.roots a.tmps) s.σ w) : SimV P o a g O w s res := by
 simp only [ja] at hs;split at hs
 . rename_i b ts h;split at hs
   . rename_i l hh e1 e2;split at hs
     . rename_i hb;simp only [rv, zO] at hs;subst hs;obtain ⟨h1, h2⟩ := jI (l := []) hx h hl hR;obtain ⟨t, ht, rfl⟩ := h1.head.str_inv;have k1 := qA (l := [(.str t.data.toList, a.eval rx)]) hlo e1 h2 h1;have k2 := qA (l := [(.str t.data.toList, a.eval rx)]) hhi e2 h2 h1;have hbs : (Instr.sliceBounds false t.size t.size (rlo.map a.eval) (rhi.map a.eval) none).run P w = .ok (l, hh, t.size) w := by
         refine yG ?_ ?_ (.inl ⟨rfl, rfl⟩) hb.1 (by rw [zz]; exact hb.2) (rP _)
         . rcases k1 with ⟨rfl, rfl⟩ | ⟨r', rfl, k, hk⟩
           . exact .inl ⟨rfl, rfl⟩
           . exact .inr ⟨k, by simp [hk]⟩
         . rcases k2 with ⟨rfl, rfl⟩ | ⟨r', rfl, k, hk⟩
           . exact .inl ⟨rfl, (zz t).symm, rfl⟩
           . exact .inr ⟨k, by simp [hk]⟩
       refine SimV.same (v' := .string (t.extract l hh)) ?_ (h1.drop.push ?_ rfl) h2
       . simp [execOp, hop, ht, Instr.sliceAt, Instr.slice, jM hT, hbs]
       . have e : (t.extract l hh).data.toList = (t.data.toList.take hh).drop l := by
           simp [ByteArray.data_extract, List.drop_take]
         rw [<- e]; exact .str _
     . cases hs
   . cases hs
 . cases hs
theorem jba {x : Opd} {r : Operand} {c : Call} {T : TypeId} (hop : o.op = .call c) (hc : c.callee = .builtin .len) (ha : c.args = #[r]) (hta : c.argTypes[0]? = some T) (hx : jL x r = true) (hT : P.underlying T = some .string)
   (hs : ja cf (.lenS x) s = some res) (hl : WT s.ts a.tmps) (hR : R g O (s.ts.roots a.tmps) s.σ w) : SimV P o a g O w s res := by
 simp only [ja] at hs;split at hs
 . rename_i b ts h;simp only [rv, zO] at hs;subst hs;obtain ⟨h1, h2⟩ := jI (l := []) hx h hl hR;obtain ⟨t, ht, rfl⟩ := h1.head.str_inv;refine SimV.same (v' := .int .i64 t.size) ?_ (h1.drop.push (by rw [zz]; exact .int _ _) rfl) h2;simp [execOp, hop, resolve, hc, ha, invoke, builtin, ht, Builtin.len_, hta, jM hT, goInt]
 . cases hs
theorem ja8 {x : Opd} {r : Operand} {c : Call} {T E : TypeId} (hop : o.op = .call c) (hc : c.callee = .builtin .len) (ha : c.args = #[r]) (hta : c.argTypes[0]? = some T) (hx : jL x r = true) (hT : P.underlying T = some (.slice E))
   (hs : ja cf (.lenL x) s = some res) (hl : WT s.ts a.tmps) (hR : R g O (s.ts.roots a.tmps) s.σ w) : SimV P o a g O w s res := by
 simp only [ja] at hs;split at hs
 . rename_i own rf xs ts h;simp only [rv, zO] at hs;subst hs;obtain ⟨h1, h2⟩ := jI (l := []) hx h hl hR;have hb : ∃ ad cap, a.eval r = .slice ad xs.length cap := by
     have hV := h1.head;generalize a.eval r = u at hV
     cases hV with
     | nil => exact ⟨none, 0, rfl⟩
     | sl => exact ⟨_, _, rfl⟩
   obtain ⟨ad, cap, hb⟩ := hb;refine SimV.same (v' := .int .i64 xs.length) ?_ (h1.drop.push (.int _ _) rfl) h2;simp [execOp, hop, resolve, hc, ha, invoke, builtin, hb, Builtin.len_, hta, jM hT, goInt]
 . rename_i e id off n ts h;simp only [rv, zO] at hs;subst hs;obtain ⟨h1, h2⟩ := jI (l := []) hx h hl hR;obtain ⟨b, cap, hb, _, _⟩ := h1.head.rs_inv;refine SimV.same (v' := .int .i64 n) ?_ (h1.drop.push (.int _ _) rfl) h2;simp [execOp, hop, resolve, hc, ha, invoke, builtin, hb, Builtin.len_, hta, jM hT, goInt]
 . cases hs
theorem R.split {x y z : IVal} {v u t : Value} {l : ke} {σ : List IObj} (h : R g O ((x, v) :: l) σ w) (h1 : V g y u) (h2 : V g z t) (ho : (kl y u ++ kl z t).Perm (kl x v)) : R g O ((y, u) :: (z, t) :: l) σ w := by
 have e : ky ((x, v) :: l) = kl x v ++ ky l := by simp [ky]
 have e' : ky ((y, u) :: (z, t) :: l) = (kl y u ++ kl z t) ++ ky l := by simp [ky]
 have hp : (ky ((y, u) :: (z, t) :: l) ++ kY w g.ι σ).Perm (ky ((x, v) :: l) ++ kY w g.ι σ) := by
   rw [e, e']; exact (ho.append_right _).append_right _
 refine ⟨h.len, fun q hm => ?_, h.objo, hp.symm.nodup_iff.1 h.nodup, fun b hb => h.sub b (hp.mem_iff.1 hb), h.lt, h.claim, h.apart, h.spare, h.glob, h.zs⟩
 rcases List.mem_cons.1 hm with rfl | hm
 . exact h1
 . rcases List.mem_cons.1 hm with rfl | hm
   . exact h2
   . exact h.vals q (by simp [hm])
theorem Jd {α : Type} {L : List (List α)} {i : Nat} {c : List α} (h : L[i]? = some c) : (c ++ (L.set i []).flatten).Perm L.flatten := by
 induction L generalizing i with
 | nil => simp at h
 | cons d L ih =>
   cases i with
   | zero => simp at h; subst h; simp
   | succ i =>
     simp at h;simp only [List.set_cons_succ, List.flatten_cons];have h1 : (c ++ (d ++ (L.set i []).flatten)).Perm (d ++ (c ++ (L.set i []).flatten)) := by
       rw [<- zS, <- zS];exact List.perm_append_comm.append_right _
     exact h1.trans ((ih h).append_left d)
theorem VX {f : IVal -> Value -> List Nat} {xs : List IVal} {vs : List Value} {i : Nat} {y : IVal} {v : Value} (hv : vs[i]? = some v) : List.zipWith f (xs.set i y) vs = (List.zipWith f xs vs).set i (f y v) := by
 induction xs generalizing i vs with
 | nil => simp
 | cons x xs ih =>
   cases vs with
   | nil => simp at hv
   | cons u vs =>
     cases i with
     | zero => simp at hv; subst hv; simp
     | succ i => simp at hv; simp [ih hv]
theorem R.setT {ts : Ts} {tmps : Array Value} {l : ke} {σ : List IObj} {j : Nat} {y old : IVal} (hold : ts.get? j = some old) (h : R g O ((y, tmps.getD j undef) :: (l ++ ts.roots tmps)) σ w) : R g O (l ++ (ts.set j y).roots tmps) σ w := by
 obtain ⟨rest, h1, h2⟩ := Ts.roots_get tmps hold;have h3 := (h.perm ((((h1.append_left l).trans tW).cons _).trans (.swap _ _ _))).drop;exact h3.perm (((h2 y).append_left l).trans tW).symm
theorem VR {x : Opd} {r : Operand} {i : Nat} (hop : o.op = .extract r i) (hx : jL x r = true) (hs : ja cf (.extract x i) s = some res)
   (hl : WT s.ts a.tmps) (hR : R g O (s.ts.roots a.tmps) s.σ w) : SimV P o a g O w s res := by
 simp only [ja] at hs;split at hs
 . rename_i vs ts h;split at hs
   . rename_i v hv;obtain ⟨h1, h2⟩ := jI (l := []) hx h hl hR;obtain ⟨us, hu, hl', hv', hi⟩ := h1.head.tup_inv;obtain ⟨u, huu⟩ := kH hl' hv;have hu' : us.toList[i]? = some u := by simpa using huu
     have hnt := hi v (zM hv);have hrun : (execOp a.eval o).run P w = .ok (.value u) w := by simp [execOp, hop, hu, Instr.extract, huu]
     have hsub : (kl v u).Sublist (kl (.tup vs) (a.eval r)) := by
       rw [hu, yq hnt];simp only [kl];refine List.sublist_flatten_of_mem (zM (i := i) ?_);simp [tL, hv, hu']
     have hmove : SimV P o a g O w s ⟨false, v, { s with ts := ts }⟩ := SimV.same hrun (h1.swap (fun _ => hv' _ _ _ hv huu) hsub) h2;split at hs
     . rename_i j;simp only [rv, zO] at hs;subst hs
       -- the tuple keeps what is left of it
       have hV : V g (.tup (vs.set i (un2 v))) (.tuple us) := by
         refine .tup _ us (by simpa using hl') (fun k y z hy hz => ?_) (fun y hy => ?_)
         . by_cases hk : i = k
           . subst hk;have : i < vs.length := jk hv;rw [rH this] at hy;simp at hy; subst hy;exact (hv' _ _ _ hv hz).un2
           . rw [rA hk] at hy;exact hv' _ _ _ hy hz
         . rcases List.mem_or_eq_of_mem_set hy with hy | rfl
           . exact hi y hy
           . rw [V9]; exact hnt
       have hout : SimV P o a g O w s ⟨false, v, { s with ts := ts.set j (.tup (vs.set i (un2 v))) }⟩ := by
         refine SimV.same hrun ?_ (h2.set (by
           have h' : (Opd.m j).get s.ts = some (.tup vs, ts) := h;simp only [Opd.get] at h';split at h'
           . rename_i h0; exact (hl _ _ (Ts.get?_spec h0)).2
           . cases h') _)
         have hjr : r = .tmp j := by
           have : jL (.m j) r = true := hx;cases r <;> simp [jL] at this;rw [this]
         have hold : ∃ old, ts.get? j = some old := by
           have h' : (Opd.m j).get s.ts = some (.tup vs, ts) := h;simp only [Opd.get] at h';split at h'
           . rename_i h0;simp at h';exact ⟨_, by rw [<- h'.2]; exact Ts.get?_set h0 _⟩
           . cases h'
         obtain ⟨old, hold⟩ := hold;have hs2 : R g O ((v, u) :: (.tup (vs.set i (un2 v)), a.eval r) :: ts.roots a.tmps) s.σ w := by
           refine h1.split (hv' _ _ _ hv huu) (by rw [hu]; exact hV) ?_;rw [hu, yq hnt];simp only [kl];rw [VX hu', zu];exact Jd (by simp [tL, hv, hu'])
         refine R.setT (l := [(v, u)]) hold ?_;have he : a.tmps.getD j undef = a.eval r := by rw [hjr]; rfl
         rw [he]; exact hs2.perm (.swap _ _ _)
       exact hout
     . simp only [rv, zO] at hs;subst hs;exact hmove
   . cases hs
 . cases hs
end Go.Idl
namespace Go.Idl
variable [Globs]
variable {P : Program} {o : Oper} {a : Act} {g : Gh} {O : List Nat} {w : World} {s : St} {res : Res} {cf : kt}
def vE : Nat -> Value
 | 0 => .pointer none
 | 1 => .nilIface
 | 2 => .nilFunc
 | _ => .map none
def Zg (k : Nat) (d : TypeDesc) : Bool :=
 match k, d with
 | 0, .pointer _ => true
 | 1, .interface _ => true
 | 2, .func _ _ _ => true
 | 3, .map _ _ => true
 | _, _ => false
theorem K1 {k : Nat} {T : TypeId} {d : TypeDesc} {x : IVal} {u : Value} {b : Bool} (hT : P.underlying T = some d) (hk : Zg k d = true) (hn : isNil k x = some b) (hV : V g x u) :
   (Op.equal T u (vE k)).run P w = .ok b w /\ (Op.equal T (vE k) u).run P w = .ok b w := by
 have key : ∀ n, (Op.equalIn (n + 1) T u (vE k)).run P w = .ok b w /\ (Op.equalIn (n + 1) T (vE k) u).run P w = .ok b w := by
   intro n;unfold isNil at hn;split at hn <;> (try (cases hn; done)) <;> simp only [zO] at hn <;> subst hn <;> unfold Zg at hk <;> split at hk <;> (try (cases hk; done)) <;> (try (rename_i h0; cases h0; done)) <;> cases hV <;>
     simp [Op.equalIn, vE, jM hT]
 exact key 9999
theorem VG {k : Nat} {T : TypeId} {d : TypeDesc} {x : IVal} {u : Value} {b : Bool} {rx : Operand} (neg : Bool) (hT : P.underlying T = some d) (hk : Zg k d = true) (hn : isNil k x = some b) (hV : V g x u) :
   ((do eqGuard (if neg then .neq else .eql) T rx (.const (vE k)) u (vE k); binOp (if neg then .neq else .eql) T u (vE k)) : Sem Value).run P w = .ok (.bool (b != neg)) w /\
   ((do eqGuard (if neg then .neq else .eql) T (.const (vE k)) rx (vE k) u; binOp (if neg then .neq else .eql) T (vE k) u) : Sem Value).run P w = .ok (.bool (b != neg)) w := by
 obtain ⟨e1, e2⟩ := K1 (w := w) hT hk hn hV;unfold isNil at hn;cases neg
 all_goals
   split at hn <;> (try (cases hn; done)) <;> simp only [zO] at hn <;> subst hn <;> cases hV <;> simp only [vE] at e1 e2 <;>
     simp [eqGuard, binOp, vE, e1, e2]
theorem QU {k : Nat} {neg : Bool} {x : Opd} {rx ra rb : Operand} {T T' : TypeId} {d : TypeDesc} (hop : o.op = .binOp (if neg then .neq else .eql) T ra rb T') (hr : (ra = rx /\ rb = .const (vE k)) \/ (ra = .const (vE k) /\ rb = rx)) (hx : jL x rx = true)
   (hT : P.underlying T = some d) (hk : Zg k d = true) (hs : ja cf (.isnil neg k x) s = some res)
   (hl : WT s.ts a.tmps) (hR : R g O (s.ts.roots a.tmps) s.σ w) : SimV P o a g O w s res := by
 simp only [ja] at hs;split at hs
 . rename_i v ts h;split at hs
   . rename_i b hb;simp only [rv, zO] at hs;subst hs;obtain ⟨h1, h2⟩ := jI (l := []) hx h hl hR;obtain ⟨e1, e2⟩ := VG (w := w) (rx := rx) neg hT hk hb h1.head;refine SimV.same (v' := .bool (b != neg)) ?_ (h1.drop.push (.bool _) rfl) h2
     rcases hr with ⟨rfl, rfl⟩ | ⟨rfl, rfl⟩
     . simp only [execOp, hop];rw [show a.eval (.const (vE k)) = vE k from rfl, Sem.run_bind, e1]; simp
     . simp only [execOp, hop];rw [show a.eval (.const (vE k)) = vE k from rfl, Sem.run_bind, e2]; simp
   . cases hs
 . cases hs
theorem XZ {mx : Bool} {x y : Opd} {rx ry : Operand} {c : Call} (hop : o.op = .call c) (hc : c.callee = .builtin (if mx then .max else .min)) (ha : c.args = #[rx, ry]) (hx : jL x rx = true) (hy : jL y ry = true)
   (hs : ja cf (.minmax mx [x, y]) s = some res) (hl : WT s.ts a.tmps) (hR : R g O (s.ts.roots a.tmps) s.σ w) : SimV P o a g O w s res := by
 simp only [ja] at hs;split at hs
 . rename_i k i k' j ts h;split at hs
   . rename_i hk;simp only [rv, zO] at hs;subst hs hk;obtain ⟨h1, h2, h3⟩ := kD (l := []) (rs := [rx, ry]) (by simp [ka, hx, hy]) h hl hR;simp only [rR, List.map_nil, tC, tI, tJ, tM] at h1;have e1 := h1.head.int_inv;have e2 := h1.drop.head.int_inv;cases mx
     . refine SimV.same (v' := .int k (if j < i then j else i)) ?_ (h1.drop.drop.push (.int _ _) rfl) h2;simp [execOp, hop, resolve, hc, ha, invoke, builtin, e1, e2, run_min_int2]
     . refine SimV.same (v' := .int k (if i < j then j else i)) ?_ (h1.drop.drop.push (.int _ _) rfl) h2;simp [execOp, hop, resolve, hc, ha, invoke, builtin, e1, e2, run_max_int2]
   . cases hs
 . cases hs
theorem JB {vs : List Value} {esz : Nat} (hz : ∀ v ∈ vs, v.cells.size = esz) {l h : Nat} (hl : l <= vs.length) {k : Nat} {c : Value} (hk : (jJ ((vs.take h).drop l))[k]? = some c) : (jJ vs)[l * esz + k]? = some c := by
 have h1 : ∀ (n : Nat) (us : List Value), (∀ v ∈ us, v.cells.size = esz) -> n <= us.length -> jJ us = jJ (us.take n) ++ jJ (us.drop n) /\ (jJ (us.take n)).length = n * esz := by
   intro n us hu hn;refine ⟨by simp only [jJ]; rw [<- List.flatMap_append, List.take_append_drop], ?_⟩
   induction us generalizing n with
   | nil => simp at hn; subst hn; simp [jJ]
   | cons u us ih =>
     cases n with
     | zero => simp [jJ]
     | succ n =>
       have := ih n (fun v hv => hu v (by simp [hv])) (by simpa using hn);simp only [jJ, r5, rO, rF] at this ⊢;rw [this];have := hu u (by simp);simp [this, tH]; omega
 obtain ⟨e1, e2⟩ := h1 l vs hz hl;rw [e1, zR (by omega), e2, Nat.add_sub_cancel_left]
 by_cases hlh : l <= h
 . have e3 : (vs.take h).drop l = (vs.drop l).take (h - l) := by rw [List.drop_take]
   rw [e3] at hk;have e4 : jJ (vs.drop l) = jJ ((vs.drop l).take (h - l)) ++ jJ ((vs.drop l).drop (h - l)) := by
     simp only [jJ]; rw [<- List.flatMap_append, List.take_append_drop]
   rw [e4, zL (jk hk)];exact hk
 . have : (vs.take h).drop l = [] := by simp; omega
   rw [this] at hk;simp [jJ] at hk
end Go.Idl
namespace Go.Idl
variable [Globs]
variable {P : Program} {o : Oper} {a : Act} {g : Gh} {O : List Nat} {w : World} {s : St} {res : Res} {cf : kt}
theorem vf {T E : TypeId} {i : TypeInfo} {ad : Option Addr} {len cap l h m : Nat} {lo hi mx : Option Value} (hT : P.underlying T = some (.slice E)) (hE : P.info? E = some i)
   (hb : (Instr.sliceBounds true len cap lo hi mx).run P w = .ok (l, h, m) w) :
   (Instr.sliceAt T (.slice ad len cap) lo hi mx).run P w = .ok (.slice (if m = l then ad else ad.map (·.add (l * i.size))) (h - l) (m - l)) w := by
 simp [Instr.sliceAt, Instr.slice, jM hT, hb, kw hE]
theorem V.sl_same {own n : Nat} {rf : Bool} {xs : List IVal} {u : Value} (hV : V g (.sl own rf xs) u) (h : YL n xs = true) : ∀ x ∈ xs, x.cells.length = n := by
 cases hV with
 | nil => intro x hx; cases hx
 | sl _ _ _ vs ad _ esz' hs hc hl hv hf hr hz' hcl ho hn =>
   have key : ∀ x ∈ xs, x.cells.length = esz' := by
     intro x hx;obtain ⟨j, hj⟩ := kc hx;obtain ⟨v, hv'⟩ := ku hl hj;rw [(hv _ _ _ hj hv').cells.1, hz' v (zM hv')]
   cases xs with
   | nil => intro x hx; cases hx
   | cons y ys =>
     have h1 : y.cells.length = n := by simpa [YL] using h
     have h2 := key y (by simp);intro x hx;rw [key x hx, <- h2, h1]
theorem V.slice_of {own own' : Nat} {rf : Bool} {xs : List IVal} {ad : Option Addr} {len cap l h m esz : Nat} (hV : V g (.sl own rf xs) (.slice ad len cap)) (hlh : l <= h) (hh : h <= xs.length) (hm : h <= m) (hmc : m <= cap)
   (hz : ∀ x ∈ xs, x.cells.length = esz) (hown : own' = 0 \/ (own' = esz /\ (m = h \/ (own = esz /\ h = xs.length /\ m = cap /\ (l < h \/ h = 0))))) :
   V g (.sl own' (X4 rf l h xs.length) ((xs.take h).drop l)) (.slice (if m = l then ad else ad.map (·.add (l * esz))) (h - l) (m - l)) /\
   (kl (.sl own' (X4 rf l h xs.length) ((xs.take h).drop l)) (.slice (if m = l then ad else ad.map (·.add (l * esz))) (h - l) (m - l))).Sublist (kl (.sl own rf xs) (.slice ad len cap)) := by
 cases hV with
 | nil =>
   simp at hh hmc;subst hh hmc;have : l = 0 := by omega
   subst this;simp [X4];exact ⟨.nil _, by simp [kl, yg, qb]⟩
 | sl _ _ _ vs ad _ esz' hs hc hl hv hf hr hz' hcl ho hn =>
   have hlen : ((xs.take h).drop l).length = h - l := by simp; omega
   have hsubnil : (xs.take h).drop l = [] -> X4 rf l h xs.length = false := by
     intro h0;have h1 : h - l = 0 := by rw [<- hlen, h0]; rfl
     have h2 : ¬ l < h := by omega
     by_cases h3 : xs = []
     . simp [X4, hn h3]
     . have h4 : xs.length ≠ 0 := fun e => h3 (List.length_eq_zero_iff.1 e);simp [X4, h2, h3]
   have hsubr : X4 rf l h xs.length = false -> ∀ x ∈ (xs.take h).drop l, nr2 x = true := by
     intro h0 x hx;have h1 : 0 < ((xs.take h).drop l).length := List.length_pos_of_mem hx;rw [hlen] at h1;have h2 : l < h := by omega
     have h3 : rf = false := by simpa [X4, h2] using h0
     exact hr h3 x (r9 (tF hx))
   have hsz : xs ≠ [] -> esz' = esz := by
     intro hne;obtain ⟨x, hx⟩ := List.exists_mem_of_ne_nil xs hne;obtain ⟨j, hj⟩ := kc hx;obtain ⟨v, hv'⟩ := ku hl hj;rw [<- hz x hx, (hv _ _ _ hj hv').cells.1, hz' v (zM hv')]
   have hzv : ∀ v ∈ vs, v.cells.size = esz := by
     intro v hv';have : xs ≠ [] := by
       intro h0;rw [h0] at hl;have : vs = [] := List.length_eq_zero_iff.1 hl.symm;rw [this] at hv'; cases hv'
     rw [<- hsz this]; exact hz' v hv'
   have key : ∀ ad' : Addr, (0 < m - l -> ad'.spot = none) -> ad'.block = ad.block -> ad'.off = ad.off + l * esz -> V g (.sl own' (X4 rf l h xs.length) ((xs.take h).drop l)) (.slice (some ad') (h - l) (m - l)) := by
     intro ad' hsp hbl hof;have := V.sl (g := g) own' (X4 rf l h xs.length) ((xs.take h).drop l) ((vs.take h).drop l) ad' (m - l) esz hsp (by rw [hlen]; omega) (by simp; omega) (fun j x v hx hv' => ?_) (fun x hx => hf x (r9 (tF hx)))
       hsubr (fun v hv' => hzv v (r9 (tF hv'))) (fun k c hk => ?_) (fun h0 => ⟨?_, fun hnil => ?_, fun hlt => ?_⟩) hsubnil
     . rw [hlen] at this; exact this
     . simp only [tA, tD] at hx hv';split at hx
       . rename_i hj;rw [if_pos hj] at hv';exact hv _ _ _ hx hv'
       . cases hx
     . rw [hbl, hof, Nat.add_assoc];exact hcl _ _ (JB hzv (by omega) hk)
     . rcases hown with h1 | h1
       . exact absurd h1 h0
       . exact h1.1
     . have hl0 : h - l = 0 := by rw [<- hlen, hnil]; rfl
       rcases hown with h1 | ⟨h1, h2 | ⟨h2, h3, h4, h5⟩⟩
       . exact absurd h1 h0
       . omega
       . have hne : own ≠ 0 := by rw [h2, <- h1]; exact h0
         have := (ho hne).2.1 (List.length_eq_zero_iff.1 (by omega));omega
     . rw [hlen] at hlt ⊢
       rcases hown with h1 | ⟨h1, h2 | ⟨h2, h3, h4, h5⟩⟩
       . exact absurd h1 h0
       . omega
       . have hne : own ≠ 0 := by rw [h2, <- h1]; exact h0
         have := (ho hne).2.2 (by omega);have he := (ho hne).1;rw [hbl, this, hof, <- he, h2]
         congr 1
         have e1 : l * esz + (h - l) * esz = xs.length * esz := by rw [<- tH]; congr 1; omega
         have e2 : l * esz + (m - l) * esz = cap * esz := by rw [<- tH]; congr 1; omega
         simp only [zP];omega
   have hsub : ∀ ad' : Addr, ad'.block = ad.block -> (kl (.sl own' (X4 rf l h xs.length) ((xs.take h).drop l)) (.slice (some ad') (h - l) (m - l))).Sublist (kl (.sl own rf xs) (.slice (some ad) xs.length cap)) := by
     intro ad' hbl;simp only [kl, yg, qb, hlen]
     rcases hown with h1 | ⟨h1, h2 | ⟨h2, h3, h4, h5⟩⟩
     . simp [h1]
     . rw [if_pos (.inr (by omega))]; simp
     . split
       . simp
       . rename_i hn;rw [if_neg (by rw [h2, <- h1]; omega), hbl];exact .refl _
   split
   . rename_i hml;have e1 : (xs.take h).drop l = [] := List.length_eq_zero_iff.1 (by rw [hlen]; omega);have e2 : h - l = ([] : List IVal).length := by simp; omega
     have hs' := hsub ad rfl;have e3 := hsubnil e1;rw [e1, e3] at hs' ⊢;refine ⟨?_, hs'⟩;rw [e2, show m - l = 0 by omega];exact .sl own' false [] [] ad 0 esz (fun h => absurd h (Nat.lt_irrefl 0)) (by simp) rfl (by simp) (by simp) (by simp) (by simp) (by intro k c hk; simp [jJ] at hk) (fun h0 => ⟨by rcases hown with h1 | h1; exact absurd h1 h0; exact h1.1, by simp, by simp⟩) (by simp)
   . simp only [tU];have had : ad = ⟨ad.block, ad.off, none⟩ := by have := hs (by omega); cases ad; simp at this; simp [this]
     have hadd : ad.add (l * esz) = ⟨ad.block, ad.off + l * esz, none⟩ := by rw [had]; exact kA _ _ _
     rw [hadd];exact ⟨key _ (fun _ => rfl) rfl rfl, hsub _ rfl⟩
theorem X0 {x : Opd} {rx : Operand} {lo hi mx : Option Opd} {rlo rhi rmx : Option Operand} {T E : TypeId} {i : TypeInfo} (hop : o.op = .slice T rx rlo rhi rmx) (hx : jL x rx = true) (hlo : yp lo rlo = true) (hhi : yp hi rhi = true) (hmx : yp mx rmx = true)
   (hmh : mx = none \/ hi ≠ none) (hT : P.underlying T = some (.slice E)) (hE : P.info? E = some i)
   (hs : ja cf (.sliceL i.size x lo hi mx) s = some res) (hl : WT s.ts a.tmps) (hR : R g O (s.ts.roots a.tmps) s.σ w) : SimV P o a g O w s res := by
 simp only [ja] at hs;split at hs
 . rename_i own rf xs ts h;split at hs
   . rename_i l hh m e1 e2 e3;split at hs
     . rename_i hb;obtain ⟨h1, h2⟩ := jI (l := []) hx h hl hR;have hV := h1.head;have hbv : ∃ ad len cap, a.eval rx = .slice ad len cap /\ len = xs.length /\ len <= cap := by
         generalize a.eval rx = u at hV
         cases hV with
         | nil => exact ⟨none, 0, 0, rfl, rfl, rP _⟩
         | sl _ _ _ _ ad cap _ _ hc => exact ⟨_, _, _, rfl, rfl, hc⟩
       obtain ⟨ad, len, cap, hu, hlen, hcap⟩ := hbv;have k1 := qA (l := [(.sl own rf xs, a.eval rx)]) hlo e1 h2 h1;have k2 := qA (l := [(.sl own rf xs, a.eval rx)]) hhi e2 h2 h1;have k3 := qA (l := [(.sl own rf xs, a.eval rx)]) hmx e3 h2 h1;have hlo' : rlo.map a.eval = none /\ l = 0 \/ ∃ k, rlo.map a.eval = some (.int k l) := by
         rcases k1 with ⟨rfl, rfl⟩ | ⟨r', rfl, k, hk⟩
         . exact .inl ⟨rfl, rfl⟩
         . exact .inr ⟨k, by simp [hk]⟩
       have hz : ∀ x ∈ xs, x.cells.length = i.size := by
         exact hV.sl_same hb.2.2
       rw [hu] at hV;split at hs
       . simp only [rv, zO] at hs;subst hs;have hrm : rmx = none := by cases rmx <;> simp [yp] at hmx ⊢
         subst hrm;have hhi' : rhi.map a.eval = none /\ hh = len /\ (none : Option Value) = none \/ ∃ k, rhi.map a.eval = some (.int k hh) := by
           rcases k2 with ⟨rfl, rfl⟩ | ⟨r', rfl, k, hk⟩
           . exact .inl ⟨rfl, hlen.symm, rfl⟩
           . exact .inr ⟨k, by simp [hk]⟩
         have hbs := yG (P := P) (w := w) (isS := true) (cap := cap) hlo' hhi' (.inl ⟨rfl, rfl⟩) hb.1 (by omega) (rP _);have hrun := vf (ad := ad) hT hE hbs;obtain ⟨q1, q2⟩ := hV.slice_of (own' := Vi own i.size l hh xs.length) (m := cap) hb.1 hb.2.1 (by omega) (rP _) hz (by unfold Vi; split; rename_i hq; exact .inr ⟨hq.2.1, .inr ⟨hq.2.1, hq.1, rfl, hq.2.2⟩⟩; exact .inl rfl);refine SimV.same ?_ (h1.swap (fun _ => q1) (by rw [hu]; exact q2)) h2;simp only [execOp, hop, hu];simp only [Option.map_none] at hrun ⊢;simp [hrun]
       . rename_i mm;split at hs
         . rename_i hhm;subst hhm;simp only [rv, zO] at hs;subst hs;have hhi' : rhi.map a.eval = none /\ hh = len /\ rmx.map a.eval = none \/ ∃ k, rhi.map a.eval = some (.int k hh) := by
             rcases k2 with ⟨rfl, rfl⟩ | ⟨r', rfl, k, hk⟩
             . exfalso
               rcases hmh with h0 | h0
               . cases h0
               . cases hi <;> simp [yp] at hhi h0
             . exact .inr ⟨k, by simp [hk]⟩
           have hmx' : rmx.map a.eval = none /\ hh = cap \/ ∃ k, rmx.map a.eval = some (.int k hh) := by
             rcases k3 with ⟨rfl, _⟩ | ⟨r', rfl, k, hk⟩
             . simp [yp] at hmx
             . exact .inr ⟨k, by simp [hk]⟩
           have hbs := yG (P := P) (w := w) (isS := true) (cap := cap) hlo' hhi' hmx' hb.1 (rP _) (by omega);have hrun := vf (ad := ad) hT hE hbs;obtain ⟨q1, q2⟩ := hV.slice_of (own' := i.size) (m := hh) hb.1 hb.2.1 (rP _) (by omega) hz (.inr ⟨rfl, .inl rfl⟩);refine SimV.same ?_ (h1.swap (fun _ => q1) (by rw [hu]; exact q2)) h2;simp only [execOp, hop, hu];simp [hrun]
         . cases hs
     . cases hs
   . cases hs
 . rename_i e id off len ts h;split at hs
   . rename_i l hh e1 e2;split at hs
     . rename_i hb;obtain ⟨h1, h2⟩ := jI (l := []) hx h hl hR;obtain ⟨b, cap, hu, hι, hcap, hz0⟩ := h1.head.rs_inv';have k1 := qA (l := [(.rs e id off len, a.eval rx)]) hlo e1 h2 h1;have k2 := qA (l := [(.rs e id off len, a.eval rx)]) hhi e2 h2 h1;have hrm : rmx = none := by cases rmx <;> simp [yp] at hmx ⊢
       subst hrm;have hlo' : rlo.map a.eval = none /\ l = 0 \/ ∃ k, rlo.map a.eval = some (.int k l) := by
         rcases k1 with ⟨rfl, rfl⟩ | ⟨r', rfl, k, hk⟩
         . exact .inl ⟨rfl, rfl⟩
         . exact .inr ⟨k, by simp [hk]⟩
       have hhi' : rhi.map a.eval = none /\ hh = len /\ (none : Option Value) = none \/ ∃ k, rhi.map a.eval = some (.int k hh) := by
         rcases k2 with ⟨rfl, rfl⟩ | ⟨r', rfl, k, hk⟩
         . exact .inl ⟨rfl, rfl, rfl⟩
         . exact .inr ⟨k, by simp [hk]⟩
       have hbs := yG (P := P) (w := w) (isS := true) (cap := cap) hlo' hhi' (.inl ⟨rfl, rfl⟩) hb.1 (by omega) (rP _);have hrun := vf (ad := some ⟨b, off, none⟩) hT hE hbs;have hexec : (execOp a.eval o).run P w = .ok (.value (.slice (if cap = l then some ⟨b, off, none⟩ else (some (⟨b, off, none⟩ : Addr)).map (·.add (l * i.size))) (hh - l) (cap - l))) w := by
         simp only [execOp, hop, hu];simp only [Option.map_none] at hrun ⊢;simp only [Sem.run_bind, hrun, Result.andThen_ok, Sem.run_pure]
       split at hs
       . rename_i hz;simp only [rv, zO] at hs;subst hs;obtain ⟨rfl, rfl⟩ : off = 0 /\ hh = 0 := by omega
         obtain rfl : l = 0 := by omega
         refine SimV.same hexec (h1.drop.push ?_ (by simp [kl, yg, qb])) h2;have e0 : (if cap = 0 then some (⟨b, 0, none⟩ : Addr) else (some (⟨b, 0, none⟩ : Addr)).map (·.add (0 * i.size))) = some ⟨b, 0, none⟩ := by
           split
           . rfl
           . rw [tU, kA, Nat.zero_mul]
         rw [e0, hb.2.2];rw [hb.2.2] at hz0;exact .rs i.size id 0 0 (cap - 0) b hι (Nat.zero_le _) (by simpa using hz0)
       split at hs
       . rename_i hlh;simp only [rv, zO] at hs;subst hs;refine SimV.same hexec (h1.drop.push ?_ (vr (.sl 0 false []) _)) h2;have e0 : hh - l = ([] : List IVal).length := by simp; omega
         rw [e0];split
         . exact .sl 0 false [] [] _ _ 0 (fun _ => rfl) (by simp) rfl (by simp) (by simp) (by simp) (by simp) (by intro k c hk; simp [jJ] at hk) (fun h0 => absurd rfl h0) (by simp)
         . rw [tU, kA];exact .sl 0 false [] [] _ _ 0 (fun _ => rfl) (by simp) rfl (by simp) (by simp) (by simp) (by simp) (by intro k c hk; simp [jJ] at hk) (fun h0 => absurd rfl h0) (by simp)
       . rename_i hlh;simp only [rv, zO] at hs;subst hs;refine SimV.same hexec (h1.drop.push ?_ (by simp [kl, yg, qb])) h2;rw [if_neg (by omega), tU, kA, hb.2.2];refine .rs i.size id _ _ _ b hι (by omega) ?_;have := Nat.le_trans hz0 (rP _);rw [hb.2.2] at this;have e1 : l * i.size + (cap - l) * i.size = cap * i.size := by rw [<- tH]; congr 1; omega
         omega
     . cases hs
   . cases hs
 . cases hs
end Go.Idl
namespace Go.Idl
variable [Globs]
variable {P : Program} {g : Gh} {O : List Nat} {w : World}
theorem vo {w w' : World} {b o : Nat} (h : w'.heap[b]? = w.heap[b]?) : w'.cell? ⟨b, o, none⟩ = w.cell? ⟨b, o, none⟩ := by simp [World.cell?, h]
theorem qL {w w' : World} {b : Nat} (h : w'.heap[b]? = w.heap[b]?) (x : IObj) : kR w' b x = kR w b x := by
 cases x <;> simp [kR, ko, h]
theorem OBJ.mono {g g' : Gh} {w w' : World} {b : Nat} {x : IObj} (h : OBJ g w b x) (hw : w'.heap[b]? = w.heap[b]?) (hι : ∀ (id b : Nat), g.ι[id]? = some (.bk b) -> g'.ι[id]? = some (.bk b))
   (hM : ∀ b o c, g.M b o = some c -> g'.M b o = some c) (hC : g'.C = g.C) (hT : ∀ b' ∈ kR w b x, g'.T b' = g.T b') (hZ : ZM g g' := by intro _; exact ⟨rP _, fun _ h => h⟩) : OBJ g' w' b x := by
 cases x with
 | cells cs =>
   obtain ⟨c, el, fz, h1, h0, h2, h3⟩ := h;refine ⟨c, el, fz, by rw [hw]; exact h1, h0, h2, fun i x v hx hv => ⟨(h3 i x v hx hv).1.mono hι hM (fun b' hb' => hT b' ?_) hZ.le, (h3 i x v hx hv).2⟩⟩;rw [kQ (h3 i x v hx hv).2] at hb';simp only [kR, ko, h1];refine rK _ (qc (f := qb) hx ?_ hb');simpa using hv
 | map es =>
   obtain ⟨mes, clock, h1, h2, h3, h9⟩ := h;refine ⟨mes, clock, by rw [hw]; exact h1, h2, fun i e me he hm => ?_, h9⟩;obtain ⟨⟨h4, h5⟩, h6, h7⟩ := h3 i e me he hm;exact ⟨⟨h4.mono hι hM (by rw [kx h6]; simp) hZ.le, h5.mono hι hM (by rw [kx h7]; simp) hZ.le⟩, h6, h7⟩
 | loop L =>
   obtain ⟨r, h1, h2⟩ := h;refine ⟨r, by rw [hw]; exact h1, h2.st, h2.ps, h2.pend, h2.wt, h2.ds, fun p hp => ⟨(h2.vals p hp).1.mono hι hM (fun b' hb' => ?_) hZ.le, (h2.vals p hp).2⟩, by rw [hC]; exact h2.code⟩;rw [<- (h2.vals p hp).2, vr] at hb'; cases hb'
 | defr => exact (hw.trans h)
 | it s pos => obtain ⟨bs, h1, h2⟩ := h; exact ⟨bs, hw.trans h1, h2⟩
 | ty T n k => obtain ⟨b', h1, n', h2, h3⟩ := h; exact ⟨b', hι _ _ h1, n', (hZ b').2 _ h2, h3⟩
 | dead => trivial
theorem kB {w : World} {ι : List Blk} {σ : List IObj} {id b : Nat} {x : IObj} (h1 : ι[id]? = some (.bk b)) (h2 : σ[id]? = some x) {k : Nat} (hk : k ∈ kR w b x) : k ∈ kY w ι σ := by
 simp only [kY, List.mem_flatten];refine ⟨kR w b x, zM (i := id) ?_, hk⟩;simp [tL, h1, h2, qk]
theorem vZ {w w' : World} {ι : List Blk} {σ : List IObj} (h : ∀ (id b : Nat) x, ι[id]? = some (.bk b) -> σ[id]? = some x -> kR w' b x = kR w b x) : ∀ (id : Nat) b x, ι[id]? = some b -> σ[id]? = some x -> qk w' b x = qk w b x := by
 intro id b x h1 h2
 cases b with
 | un zs => rfl
 | bk b => exact h id b x h1 h2
theorem qX {α β γ : Type} {f f' : α -> β -> γ} {xs : List α} {ys : List β} (h : ∀ (i : Nat) x y, xs[i]? = some x -> ys[i]? = some y -> f x y = f' x y) : List.zipWith f xs ys = List.zipWith f' xs ys := by
 induction xs generalizing ys with
 | nil => simp
 | cons x xs ih =>
   cases ys with
   | nil => simp
   | cons y ys =>
     simp only [List.zipWith_cons_cons];rw [h 0 x y rfl rfl, ih fun i x y hx hy => h (i + 1) x y (by simpa using hx) (by simpa using hy)]
@[simp] def IObj.live : IObj -> Bool
 | .dead => false
 | .ty _ _ _ => false
 | _ => true
theorem kv {w : World} {b : Nat} {x : IObj} (h : ¬ x.live = false) : b ∈ kR w b x := by
 cases x <;> simp_all [kR, IObj.live]
theorem kW {w : World} {b : Nat} {x : IObj} (h : x.live = false) : kR w b x = [] := by
 cases x <;> simp_all [kR, IObj.live]
theorem OBJ.of_dead {g g' : Gh} {w w' : World} {b b' : Nat} {x : IObj} (h : OBJ g w b x) (hd : x.live = false) (hι : ∀ (id b : Nat), g.ι[id]? = some (.bk b) -> g'.ι[id]? = some (.bk b)) (hZ : ZM g g' := by intro _; exact ⟨rP _, fun _ h => h⟩) : OBJ g' w' b' x := by
 cases x with
 | ty T n k => obtain ⟨c, h1, n', h2, h3⟩ := h; exact ⟨c, hι _ _ h1, n', (hZ c).2 _ h2, h3⟩
 | dead => trivial
 | _ => cases hd
theorem R.world {l : ke} {σ : List IObj} {w' : World} (h : R g O l σ w) (hs : w.heap.size <= w'.heap.size) (hw : ∀ b, b < w.heap.size -> w'.heap[b]? = w.heap[b]?) : R g O l σ w' := by
 have hlt : ∀ (id b : Nat) x, g.ι[id]? = some (.bk b) -> σ[id]? = some x -> x.live = false \/ b < w.heap.size := by
   intro id b x h1 h2
   by_cases hd : x.live = false
   . exact .inl hd
   . exact .inr (h.lt b (h.sub b (rW _ (kB h1 h2 (kv hd)))))
 have hO : ∀ (id b : Nat) x, g.ι[id]? = some (.bk b) -> σ[id]? = some x -> kR w' b x = kR w b x := by
   intro id b x h1 h2
   rcases hlt id b x h1 h2 with hd | hb
   . rw [kW hd, kW hd]
   . exact qL (hw b hb) x
 have hS : kY w' g.ι σ = kY w g.ι σ := by simp only [kY]; rw [qX (vZ hO)]
 refine ⟨h.len, h.vals, fun id b x h1 h2 => ?_, by rw [hS]; exact h.nodup, by rw [hS]; exact h.sub, fun b hb => Nat.lt_of_lt_of_le (h.lt b hb) hs, fun b o v hm => ?_, fun id b x h1 h2 hm => ?_, fun b hb ext top ht => ?_, h.glob, fun b => ?_⟩
 . cases b with
   | un zs => exact h.objo id (.un zs) x h1 h2
   | bk b =>
     rcases hlt id b x h1 h2 with hd | hb
     . exact (h.objs id b x h1 h2).of_dead hd (fun _ _ h => h)
     . exact (h.objs id b x h1 h2).mono (hw b hb) (fun _ _ h => h) (fun _ _ _ h => h) rfl (fun _ _ => rfl)
 . have hc := h.claim b o v hm;have := World.block_lt_of_cell? w _ hc;rw [vo (hw b this)]; exact hc
 . rw [hO id b x h1 h2] at hm; exact h.apart id b x h1 h2 hm
 . rw [hw b (h.lt b hb)]; exact h.spare b hb ext top ht
 . refine ⟨fun hz => ?_, fun T n ht => ?_⟩
   . obtain ⟨c, el, fz, h1, h2⟩ := (h.zs b).1 hz;refine ⟨c, el, fz, ?_, h2⟩;rw [hw b (Array.getElem?_eq_some_iff.1 h1).1]; exact h1
   . obtain ⟨c, fz, h1, h2⟩ := (h.zs b).2 T n ht;refine ⟨c, fz, ?_, h2⟩;rw [hw b (Array.getElem?_eq_some_iff.1 h1).1]; exact h1
theorem R.ghost {l : ke} {σ : List IObj} {g' : Gh} {k : Nat} (h : R g O l σ w) (hk : k ∉ O) (hι : g'.ι = g.ι) (hC : g'.C = g.C) (hM : ∀ b o, b ≠ k -> g'.M b o = g.M b o) (hM' : ∀ o c, g.M k o = some c -> g'.M k o = some c) (hT : ∀ b, b ≠ k -> g'.T b = g.T b)
   (hc : ∀ o v, g'.M k o = some v -> w.cell? ⟨k, o, none⟩ = some v) (hZ : g'.Z = g.Z := by rfl) (hE : g'.E = g.E := by rfl) : R g' O l σ w := by
 have hMm : ∀ b o c, g.M b o = some c -> g'.M b o = some c := by
   intro b o c hb
   by_cases e : b = k
   . subst e; exact hM' o c hb
   . rw [hM b o e]; exact hb
 have hιm : ∀ (id b : Nat), g.ι[id]? = some (.bk b) -> g'.ι[id]? = some (.bk b) := fun id b hb => by rw [hι]; exact hb
 have hne : ∀ b ∈ O, b ≠ k := fun b hb e => hk (e ▸ hb);have hZm : ZM g g' := fun b => by rw [hZ, hE]; exact ⟨rP _, fun _ h => h⟩
 refine ⟨by rw [hι]; exact h.len, fun p hp => (h.vals p hp).mono hιm hMm (fun b hb => hT b (hne b ?_)) hZm.le, fun id b x h1 h2 => ?_, by rw [hι]; exact h.nodup, by rw [hι]; exact h.sub, h.lt, fun b o v hm => ?_, fun id b x h1 h2 hm => ?_, fun b hb ext top ht => ?_, fun k' vs hk' i c hi => hMm _ _ _ (h.glob k' vs hk' i c hi), fun b => by unfold ZS; rw [hZ, hE]; exact h.zs b⟩
 . refine h.sub b (rZ _ ?_);simp only [ky, List.mem_flatten, tO];exact ⟨_, ⟨p, hp, rfl⟩, hb⟩
 . rw [hι] at h1
   cases b with
   | un zs => exact h.objo id (.un zs) x h1 h2
   | bk b =>
   exact (h.objs id b x h1 h2).mono rfl hιm hMm hC (fun b' hb' => hT b' (hne b' (h.sub b' (rW _ (kB h1 h2 hb'))))) hZm
 . by_cases e : b = k
   . subst e; exact hc o v hm
   . rw [hM b o e] at hm; exact h.claim b o v hm
 . rw [hι] at h1;have hb := hne b (h.sub b (rW _ (kB h1 h2 hm)));intro k';rw [hM b k' hb]; exact h.apart id b x h1 h2 hm k'
 . rw [hT b (hne b hb)] at ht;obtain ⟨q1, q2⟩ := h.spare b hb ext top ht;exact ⟨q1, fun o ho => by rw [hM b o (hne b hb)]; exact q2 o ho⟩
theorem R.pushOwn {x : IVal} {v : Value} {l : ke} {σ : List IObj} {k : Nat} (h : R g O l σ w) (hk : k ∉ O) (hv : V g x v) (ho : kl x v = [] \/ kl x v = [k]) (hlt : k < w.heap.size) (hsp : jdI g w k)
   : R g (k :: O) ((x, v) :: l) σ w := by
 have e : ky ((x, v) :: l) = kl x v ++ ky l := by simp [ky]
 refine ⟨h.len, fun q hm => ?_, h.objo, ?_, fun b hb => ?_, fun b hb => ?_, h.claim, h.apart, fun b hb => ?_, h.glob, h.zs⟩
 . rcases List.mem_cons.1 hm with rfl | hm
   . exact hv
   . exact h.vals q hm
 . rw [e]
   rcases ho with ho | ho
   . rw [ho]; exact h.nodup
   . rw [ho, zS, List.singleton_append, List.nodup_cons];exact ⟨fun hm => hk (h.sub k hm), h.nodup⟩
 . rw [e, zS, List.mem_append] at hb
   rcases hb with hb | hb
   . rcases ho with ho | ho
     . rw [ho] at hb; cases hb
     . rw [ho] at hb; simp at hb; subst hb; simp
   . exact rK _ (h.sub b hb)
 . rcases List.mem_cons.1 hb with rfl | hb
   . exact hlt
   . exact h.lt b hb
 . rcases List.mem_cons.1 hb with rfl | hb
   . exact hsp
   . exact h.spare b hb
theorem QC {w : World} {ι : List Blk} {σ : List IObj} (hl : ι.length = σ.length) (b : Nat) (x : IObj) : kY w (ι ++ [.bk b]) (σ ++ [x]) = kY w ι σ ++ kR w b x := by
 simp only [kY];rw [List.zipWith_append hl];simp [qk]
def Gh.add (g : Gh) (b : Nat) : Gh := { g with ι := g.ι ++ [.bk b] }
theorem vS {α : Type} {l : List α} {a x : α} {i : Nat} (h : (l ++ [a])[i]? = some x) : l[i]? = some x \/ (i = l.length /\ x = a) := by
 by_cases hi : i < l.length
 . rw [zL hi] at h; exact .inl h
 . have := jk h;simp at this;have e : i = l.length := by omega
   subst e;simp at h;exact .inr ⟨rfl, h.symm⟩
theorem R.addObj {x : IVal} {v : Value} {l : ke} {σ : List IObj} {k : Nat} {ob : IObj} (h : R g O ((x, v) :: l) σ w) (hk : k ∉ O) (hlt : k < w.heap.size) (hM : ∀ o, g.M k o = none) (hT : g.T k = none)
   (hob : OBJ (g.add k) w k ob) (ho : ∃ r, kR w k ob = k :: r /\ r.Sublist (kl x v)) : R (g.add k) (k :: O) l (σ ++ [ob]) w := by
 obtain ⟨r, hr1, hr2⟩ := ho;have hιm : ∀ (id b : Nat), g.ι[id]? = some (.bk b) -> (g.add k).ι[id]? = some (.bk b) := fun id b hb => by
   simp only [Gh.add]; rw [zL (jk hb)]; exact hb
 have e : ky ((x, v) :: l) = kl x v ++ ky l := by simp [ky]
 have hp : (ky l ++ kY w (g.add k).ι (σ ++ [ob])).Perm (k :: (r ++ (ky l ++ kY w g.ι σ))) := by
   simp only [Gh.add];rw [QC h.len, hr1];have h1 : (ky l ++ (kY w g.ι σ ++ k :: r)).Perm ((k :: r) ++ (ky l ++ kY w g.ι σ)) := by
     rw [<- zS]; exact List.perm_append_comm
   simpa using h1
 have hsub : (r ++ (ky l ++ kY w g.ι σ)).Sublist (ky ((x, v) :: l) ++ kY w g.ι σ) := by
   rw [e, zS]; exact hr2.append_right _
 refine ⟨by simp [Gh.add, h.len], fun p hp' => (h.vals p (by simp [hp'])).mono hιm (fun _ _ _ h => h) (fun _ _ => rfl), fun id b y h1 h2 => ?_, ?_, fun b hb => ?_, fun b hb => ?_, h.claim, fun id b y h1 h2 hm => ?_, fun b hb => ?_, h.glob, h.zs⟩
 . rcases vS h1 with h1' | ⟨h1', rfl⟩
   . have hid : id < σ.length := by rw [<- h.len]; exact jk h1'
     rw [zL hid] at h2
     cases b with
     | un zs => exact h.objo id (.un zs) y h1' h2
     | bk b => exact (h.objs id b y h1' h2).mono rfl hιm (fun _ _ _ h => h) rfl (fun _ _ => rfl)
   . rw [h1', h.len] at h2;simp at h2;subst h2;exact hob
 . rw [hp.nodup_iff, List.nodup_cons];exact ⟨fun hm => hk (h.sub k (hsub.mem hm)), h.nodup.sublist hsub⟩
 . rcases List.mem_cons.1 (hp.mem_iff.1 hb) with rfl | hb
   . simp
   . exact rK _ (h.sub b (hsub.mem hb))
 . rcases List.mem_cons.1 hb with rfl | hb
   . exact hlt
   . exact h.lt b hb
 . rcases vS h1 with h1' | ⟨h1', hbk⟩
   . have hid : id < σ.length := by rw [<- h.len]; exact jk h1'
     rw [zL hid] at h2;exact h.apart id b y h1' h2 hm
   . cases hbk; exact hM
 . rcases List.mem_cons.1 hb with rfl | hb
   . intro ext top ht; simp [Gh.add, hT] at ht
   . exact h.spare b hb
def Gh.addTy (g : Gh) (b T n : Nat) : Gh := { g with ι := g.ι ++ [.bk b], E := fun k => if k = b then some (T, n) else g.E k }
theorem R.zmTy {l : ke} {σ : List IObj} {b T n : Nat} {c : Array Value} {fz : Nat × Nat} (h : R g O l σ w) (hb : w.heap[b]? = some (.cells c T fz)) (hn : c.size = n) : ZM g (g.addTy b T n) := by
 refine fun k => ⟨rP _, fun t ht => ?_⟩;simp only [Gh.addTy]
 by_cases e : k = b
 . subst e;obtain ⟨c', fz', q1, q2⟩ := (h.zs k).2 t.1 t.2 ht;rw [hb] at q1; cases q1;rw [if_pos rfl, <- hn, q2]
 . rw [if_neg e]; exact ht
theorem R.addTy {l : ke} {σ : List IObj} {id b T n : Nat} (m : Nat) {c : Array Value} {fz : Nat × Nat} (h : R g O l σ w) (hι : g.ι[id]? = some (.bk b)) (hb : w.heap[b]? = some (.cells c T fz)) (hn : c.size = n) (hm : m ≠ 0 -> n = m) :
   R (g.addTy b T n) O l (σ ++ [.ty T m id]) w := by
 have hZM := h.zmTy hb hn;have hιm : ∀ (id b' : Nat), g.ι[id]? = some (.bk b') -> (g.addTy b T n).ι[id]? = some (.bk b') := fun id b' hb => by
   simp only [Gh.addTy]; rw [zL (jk hb)]; exact hb
 have hS : kY w (g.addTy b T n).ι (σ ++ [.ty T m id]) = kY w g.ι σ := by
   simp only [Gh.addTy]; rw [QC h.len]; simp [kR]
 refine ⟨by simp [Gh.addTy, h.len], fun p hp => (h.vals p hp).mono hιm (fun _ _ _ h => h) (fun _ _ => rfl) hZM.le, fun i k y h1 h2 => ?_, by rw [hS]; exact h.nodup, by rw [hS]; exact h.sub, h.lt, h.claim, fun i k y h1 h2 hm => ?_, h.spare, h.glob, fun k => ⟨(h.zs k).1, fun T' n' ht => ?_⟩⟩
 . rcases vS h1 with h1' | ⟨h1', rfl⟩
   . have hid : i < σ.length := by rw [<- h.len]; exact jk h1'
     rw [zL hid] at h2
     cases k with
     | un zs => exact h.objo i (.un zs) y h1' h2
     | bk k => exact (h.objs i k y h1' h2).mono rfl hιm (fun _ _ _ h => h) rfl (fun _ _ => rfl) hZM
   . rw [h1', h.len] at h2;simp at h2;subst h2;exact ⟨b, hιm _ _ hι, n, by simp [Gh.addTy], hm⟩
 . rcases vS h1 with h1' | ⟨h1', hbk⟩
   . have hid : i < σ.length := by rw [<- h.len]; exact jk h1'
     rw [zL hid] at h2;exact h.apart i k y h1' h2 hm
   . rw [h1', h.len] at h2;simp at h2;subst h2;cases hm
 . simp only [Gh.addTy] at ht
   by_cases e : k = b
   . subst e;rw [if_pos rfl] at ht; cases ht;exact ⟨c, fz, hb, hn⟩
   . rw [if_neg e] at ht; exact (h.zs k).2 T' n' ht
theorem Grow.addTy {l : ke} {σ : List IObj} {b T n : Nat} {c : Array Value} {fz : Nat × Nat} (h : R g O l σ w) (hb : w.heap[b]? = some (.cells c T fz)) (hn : c.size = n) : Grow O g w O (g.addTy b T n) w :=
 ⟨rP _, fun _ _ _ => ⟨rfl, rfl, fun _ => rfl⟩, fun _ _ _ h => h, fun i k hk => by simp only [Gh.addTy]; rw [zL (jk hk)]; exact hk, fun _ h => .inl h, rfl, rfl, rfl, rfl, h.zmTy hb hn⟩
def Gh.setZ (g : Gh) (b z : Nat) : Gh := { g with Z := fun k => if k = b then max (g.Z b) z else g.Z k }
theorem VL (g : Gh) (b z : Nat) : ZM g (g.setZ b z) := by
 intro k;refine ⟨?_, fun _ h => h⟩;simp only [Gh.setZ];split
 . rename_i e; subst e; exact Nat.le_max_left _ _
 . exact rP _
theorem yu (g : Gh) (b z : Nat) : z <= (g.setZ b z).Z b := by
 simp only [Gh.setZ, if_true]; exact Nat.le_max_right _ _
theorem R.setZ {l : ke} {σ : List IObj} {b z : Nat} {c : Array Value} {el : TypeId} {fz : Nat × Nat} (h : R g O l σ w) (hb : w.heap[b]? = some (.cells c el fz)) (hz : z <= c.size) : R (g.setZ b z) O l σ w := by
 refine ⟨h.len, fun p hp => (h.vals p hp).mono (fun _ _ h => h) (fun _ _ _ h => h) (fun _ _ => rfl) (VL g b z).le, fun id k x h1 h2 => (match k, h1 with
   | .un zs, h1 => h.objo id (.un zs) x h1 h2
   | .bk k, h1 => (h.objs id k x h1 h2).mono rfl (fun _ _ h => h) (fun _ _ _ h => h) rfl (fun _ _ => rfl) (VL g b z)), h.nodup, h.sub, h.lt, h.claim, h.apart, h.spare, h.glob, fun k => ⟨fun hk => ?_, fun T n ht => (h.zs k).2 T n ht⟩⟩
 simp only [Gh.setZ] at hk ⊢
 by_cases e : k = b
 . subst e;refine ⟨c, el, fz, hb, ?_⟩;rw [if_pos rfl];refine Nat.max_le.2 ⟨?_, hz⟩
   by_cases h0 : g.Z k = 0
   . omega
   . obtain ⟨c', el', fz', h1, h2⟩ := (h.zs k).1 h0;rw [hb] at h1; cases h1; exact h2
 . rw [if_neg e] at hk ⊢; exact (h.zs k).1 hk
theorem Grow.setZ (O : List Nat) (g : Gh) (w : World) (b z : Nat) : Grow O g w O (g.setZ b z) w :=
 ⟨rP _, fun _ _ _ => ⟨rfl, rfl, fun _ => rfl⟩, fun _ _ _ h => h, fun _ _ h => h, fun _ h => .inl h, rfl, rfl, rfl, rfl, VL g b z⟩
end Go.Idl
namespace Go.Idl
variable [Globs]
variable {P : Program} {g : Gh} {O : List Nat} {w : World}
theorem yB (w : World) (ob : Obj) : ∀ b, b < w.heap.size -> (w.alloc ob).heap[b]? = w.heap[b]? := fun b hb => by
 simp only [World.alloc]; rw [Array.getElem?_push_lt hb]; simp [hb]
theorem jW (w : World) (ob : Obj) : (w.alloc ob).heap[w.heap.size]? = some ob := by show (w.heap.push ob)[w.heap.size]? = some ob; simp
theorem R.allocW {l : ke} {σ : List IObj} (h : R g O l σ w) (ob : Obj) : R g O l σ (w.alloc ob) := h.world (by simp) (yB w ob)
theorem R.noClaim {l : ke} {σ : List IObj} (h : R g O l σ w) (o : Nat) : g.M w.heap.size o = none := by
 cases hm : g.M w.heap.size o with
 | none => rfl
 | some v =>
   have := World.block_lt_of_cell? w _ (h.claim _ _ _ hm);simp at this
theorem R.notO {l : ke} {σ : List IObj} (h : R g O l σ w) : w.heap.size ∉ O := fun hm => by have := h.lt _ hm; omega
def Gh.fresh (g : Gh) (k : Nat) : Gh := { g with ι := g.ι ++ [.bk k], T := fun b => if b = k then none else g.T b }
theorem kK {l : ke} {σ : List IObj} (_h : R g O l σ w) (ob : Obj) : Grow O g w (w.heap.size :: O) (g.fresh w.heap.size) (w.alloc ob) := by
 refine ⟨by simp, fun b hb _ => ⟨yB w ob b hb, by simp [Gh.fresh]; omega, fun _ => rfl⟩, fun _ _ _ h => h, fun id b hb => ?_, fun b hb => ?_, rfl, rfl, rfl, rfl, fun _ => ⟨rP _, fun _ h => h⟩⟩
 . simp only [Gh.fresh]; rw [zL (jk hb)]; exact hb
 . rcases List.mem_cons.1 hb with rfl | hb
   . exact .inr (rP _)
   . exact .inl hb
theorem R.new {x : IVal} {v : Value} {l : ke} {σ : List IObj} {obr : Obj} {ob : IObj} (h : R g O ((x, v) :: l) σ w)
   (hob : V (g.fresh w.heap.size) x v -> OBJ (g.fresh w.heap.size) (w.alloc obr) w.heap.size ob) (ho : ∃ r, kR (w.alloc obr) w.heap.size ob = w.heap.size :: r /\ r.Sublist (kl x v)) :
   R (g.fresh w.heap.size) (w.heap.size :: O) l (σ ++ [ob]) (w.alloc obr) := by
 have h1 := h.allocW obr;have hk := h.notO;have h2 : R { g with T := fun b => if b = w.heap.size then none else g.T b } O ((x, v) :: l) σ (w.alloc obr) := by
   refine h1.ghost hk rfl rfl (fun _ _ _ => rfl) (fun _ _ h => h) (fun b hb => by simp [hb]) (fun o v hm => ?_);rw [h.noClaim o] at hm; cases hm
 refine h2.addObj hk (by simp) h.noClaim (by simp) (hob ?_) ho;refine (h2.vals (x, v) (by simp)).mono (fun id b hb => ?_) (fun _ _ _ h => h) (fun _ _ => rfl);simp only [Gh.fresh]; rw [zL (jk hb)]; exact hb
def Gh.claim (g : Gh) (k : Nat) (cs : List Value) (t : Option (Nat × Nat)) : Gh :=
 { g with M := fun b o => if b = k then cs[o]? else g.M b o, T := fun b => if b = k then t else g.T b }
theorem zK {l : ke} {σ : List IObj} (h : R g O l σ w) (ob : Obj) (cs : List Value) (t : Option (Nat × Nat)) (O' : List Nat) (hO' : ∀ b ∈ O', b = w.heap.size \/ b ∈ O) : Grow O g w O' (g.claim w.heap.size cs t) (w.alloc ob) := by
 refine ⟨by simp, fun b hb _ => ⟨yB w ob b hb, by simp [Gh.claim]; omega, fun o => by simp [Gh.claim]; omega⟩, fun b o v hm => ?_, fun id b hb => hb, fun b hb => ?_, rfl, rfl, rfl, rfl, fun _ => ⟨rP _, fun _ h => h⟩⟩
 . have : b ≠ w.heap.size := fun e => by subst e; rw [h.noClaim o] at hm; cases hm
   simp [Gh.claim, this, hm]
 . rcases hO' b hb with rfl | hb
   . exact .inr (rP _)
   . exact .inl hb
theorem R.claimW {l : ke} {σ : List IObj} (h : R g O l σ w) {c : Array Value} {el : TypeId} {fz : Nat × Nat} (cs : List Value) (hc : ∀ (k : Nat) v, cs[k]? = some v -> c[k]? = some v) (t : Option (Nat × Nat)) :
   R (g.claim w.heap.size cs t) O l σ (w.alloc (.cells c el fz)) := by
 refine (h.allocW _).ghost h.notO rfl rfl (fun b o hb => by simp [Gh.claim, hb]) (fun o c hm => ?_) (fun b hb => by simp [Gh.claim, hb]) (fun o v hm => ?_)
 . rw [h.noClaim o] at hm; cases hm
 . simp only [Gh.claim, if_true] at hm;simp only [World.cell?];rw [jW];simpa using hc o v hm
theorem V.claim {x : IVal} {v : Value} {l : ke} {σ : List IObj} (h : R g O l σ w) (hv : V g x v) (ho : kl x v = []) (cs : List Value) (t : Option (Nat × Nat)) : V (g.claim w.heap.size cs t) x v := by
 refine hv.mono (fun _ _ h => h) (fun b o c hm => ?_) (by rw [ho]; simp);have : b ≠ w.heap.size := fun e => by subst e; rw [h.noClaim o] at hm; cases hm
 simp [Gh.claim, this, hm]
theorem R.newSlice {l : ke} {σ : List IObj} (h : R g O l σ w) {xs : List IVal} {vs : List Value} {esz cap own : Nat} {rf : Bool} {c : Array Value} {el : TypeId} {fz : Nat × Nat} (hl : xs.length = vs.length)
   (hv : ∀ (i : Nat) x v, xs[i]? = some x -> vs[i]? = some v -> V g x v) (hf : ∀ x ∈ xs, vl x) (hr : rf = false -> ∀ x ∈ xs, nr2 x = true) (hz : ∀ v ∈ vs, v.cells.size = esz)
   (hc : ∀ (k : Nat) v, (jJ vs)[k]? = some v -> c[k]? = some v) (hcap : xs.length <= cap) (hsz : cap * esz <= c.size) (ho : own = 0 \/ own = esz) (hfz : own ≠ 0 -> fz.2 <= xs.length * esz) (hfl : (jJ vs).length = xs.length * esz) (hce : own ≠ 0 -> xs = [] -> cap = 0 := by simp) (hnil : xs = [] -> rf = false := by simp) :
   ∃ g' O', R g' O' ((.sl own rf xs, .slice (some ⟨w.heap.size, 0, none⟩) xs.length cap) :: l) σ (w.alloc (.cells c el fz)) /\ Grow O g w O' g' (w.alloc (.cells c el fz)) /\ g'.ι = g.ι := by
 have hV : V (g.claim w.heap.size (jJ vs) (some (xs.length * esz, cap * esz))) (.sl own rf xs) (.slice (some ⟨w.heap.size, 0, none⟩) xs.length cap) := by
   refine .sl own rf xs vs _ cap esz (fun _ => rfl) hcap hl (fun i x v hx hw => V.claim h (hv i x v hx hw) (kx (hf x (zM hx)) v) _ _) hf hr hz (fun k c hk => ?_) (fun h0 => ⟨?_, hce h0, fun _ => ?_⟩) hnil
   . simp [Gh.claim, hk]
   . rcases ho with ho | ho
     . exact absurd ho h0
     . exact ho
   . simp [Gh.claim]
 have hR := h.claimW (c := c) (el := el) (fz := fz) (jJ vs) hc (some (xs.length * esz, cap * esz))
 by_cases h0 : own = 0
 . refine ⟨_, O, hR.push hV ?_, zK h _ _ _ O (fun b hb => .inr hb), rfl⟩;subst h0; exact vr (.sl 0 rf xs) _
 . refine ⟨_, w.heap.size :: O, hR.pushOwn h.notO hV ?_ (by simp) ?_, zK h _ _ _ _ (fun b hb => List.mem_cons.1 hb), rfl⟩
   . simp only [kl, yg, qb];split
     . exact .inl rfl
     . exact .inr rfl
   . intro ext top ht;simp only [Gh.claim, if_true, zO, zP] at ht;obtain ⟨rfl, rfl⟩ := ht;refine ⟨⟨c, el, fz, jW w _, hsz, hfz h0⟩, fun o ho' => ?_⟩;simp only [Gh.claim, if_true];rw [List.getElem?_eq_none_iff]; omega
theorem R.newPv {l : ke} {σ : List IObj} (h : R g O l σ w) {cs : List IVal} {vs : Array Value} {rf : Bool} {el : TypeId} (hl : cs.length = vs.size)
   (hv : ∀ (i : Nat) x v, cs[i]? = some x -> vs[i]? = some v -> V g x v) (hf : ∀ x ∈ cs, un1 x = x /\ x.isCell = true) (hr : rf = false -> ∀ x ∈ cs, nr1 x = true) :
   ∃ g', R g' O ((.pv rf cs 0, .pointer (some ⟨w.heap.size, 0, none⟩)) :: l) σ (w.alloc (.cells vs el)) /\ Grow O g w O g' (w.alloc (.cells vs el)) /\ g'.ι = g.ι := by
 refine ⟨g.claim w.heap.size vs.toList none, ?_, zK h _ _ _ O (fun b hb => .inr hb), rfl⟩;refine (h.claimW vs.toList (fun k v hk => by simpa using hk) none).push ?_ rfl;refine V.pv_mk (vs := vs.toList) (b := w.heap.size) (e := 0) 0 (by simpa using hl) (fun i x v hx hw => ?_) hf hr (fun k c hk => by simpa [Gh.claim] using hk);have hx' := hf x (zM hx);exact V.claim h (hv i x v hx (by simpa using hw)) (by rw [kQ hx'.2, kP hx'.1]) _ _
def SubP (a b : List Nat) : Prop := ∃ r, a.Perm r /\ r.Sublist b
theorem SubP.nodup {a b : List Nat} (h : SubP a b) (hb : b.Nodup) : a.Nodup := by
 obtain ⟨r, h1, h2⟩ := h;exact h1.nodup_iff.2 (hb.sublist h2)
theorem SubP.mem {a b : List Nat} (h : SubP a b) {x : Nat} (hx : x ∈ a) : x ∈ b := by
 obtain ⟨r, h1, h2⟩ := h;exact h2.mem (h1.mem_iff.1 hx)
theorem SubP.refl (a : List Nat) : SubP a a := ⟨a, .refl _, .refl _⟩
theorem SubP.of_sub {a b : List Nat} (h : a.Sublist b) : SubP a b := ⟨a, .refl _, h⟩
theorem SubP.append_left {a b : List Nat} (c : List Nat) (h : SubP a b) : SubP (c ++ a) (c ++ b) := by
 obtain ⟨r, h1, h2⟩ := h;exact ⟨c ++ r, h1.append_left c, List.Sublist.append (.refl _) h2⟩
theorem SubP.append_right {a b : List Nat} (c : List Nat) (h : SubP a b) : SubP (a ++ c) (b ++ c) := by
 obtain ⟨r, h1, h2⟩ := h;exact ⟨r ++ c, h1.append_right c, List.Sublist.append h2 (.refl _)⟩
theorem SubP.perm_left {a a' b : List Nat} (hp : a'.Perm a) (h : SubP a b) : SubP a' b := by
 obtain ⟨r, h1, h2⟩ := h;exact ⟨r, hp.trans h1, h2⟩
theorem SubP.perm_right {a b b' : List Nat} (hp : b.Perm b') (h : SubP a b) : SubP a b' := by
 obtain ⟨r, h1, h2⟩ := h;obtain ⟨r', h3, h4⟩ : ∃ r', r.Perm r' /\ r'.Sublist b' := by
   clear h1
   induction hp generalizing r with
   | nil => exact ⟨r, .refl _, h2⟩
   | cons x hp ih =>
     cases h2 with
     | cons _ h2 => obtain ⟨r', a, b⟩ := ih r h2; exact ⟨r', a, .cons _ b⟩
     | cons_cons _ h2 => obtain ⟨r', a, b⟩ := ih _ h2; exact ⟨_, a.cons _, .cons_cons _ b⟩
   | swap x y l =>
     cases h2 with
     | cons _ h2 =>
       cases h2 with
       | cons _ h2 => exact ⟨r, .refl _, .cons _ (.cons _ h2)⟩
       | cons_cons _ h2 => exact ⟨_, .refl _, .cons_cons _ (.cons _ h2)⟩
     | cons_cons _ h2 =>
       cases h2 with
       | cons _ h2 => exact ⟨_, .refl _, .cons _ (.cons_cons _ h2)⟩
       | cons_cons _ h2 => exact ⟨_, .swap _ _ _, .cons_cons _ (.cons_cons _ h2)⟩
   | trans _ _ ih1 ih2 =>
     obtain ⟨r', a, b⟩ := ih1 r h2;obtain ⟨r'', c, d⟩ := ih2 r' b;exact ⟨r'', a.trans c, d⟩
 exact ⟨r', h1.trans h3, h4⟩
theorem SubP.trans {a b c : List Nat} (h : SubP a b) (k : SubP b c) : SubP a c := by
 obtain ⟨r, h1, h2⟩ := h;obtain ⟨s, k1, k2⟩ := k;obtain ⟨t, t1, t2⟩ := SubP.perm_right k1 ⟨r, h1, h2⟩;exact ⟨t, t1, t2.trans k2⟩
end Go.Idl
