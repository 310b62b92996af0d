/- The ideal machine and its evaluators, part 5; no conditions. -/
import Derived.ProofKit
import Derived.Deep.Slices
import Derived.Test.YtgkedaeojkbaiaaGreatDoorIdlD
set_option linter.unusedSectionVars false
set_option linter.unusedVariables false
set_option linter.unusedSimpArgs false
namespace Go.Idl
variable [Globs]
def jcf : Value -> Option IVal
 | .int k n => some (.int k n)
 | .bool b => some (.bool b)
 | .string s => some (.str s.data.toList)
 | .pointer none => some (.prim (.pointer none))
 | .nilIface => some (.prim .nilIface)
 | .nilFunc => some (.prim .nilFunc)
 | .map none => some (.prim (.map none))
 | .slice none 0 0 => some (.sl 0 true [])
 | _ => none
def jdr (P : Program) (T : TypeId) : Nat :=
 match P.underlying T with
 | some (.slice E) => match P.info? E with
   | some i => i.size
   | none => 0
 | _ => 0
def Vx (P : Program) : Nat -> TypeId -> Option (List IVal)
 | 0, _ => none
 | n + 1, T =>
   match P.underlying T with
   | some (.int k) => some [.int k 0]
   | some .bool => some [.bool false]
   | some .string => some [.str []]
   | some (.pointer _) => some [.prim (.pointer none)]
   | some .unsafePointer => some [.prim (.pointer none)]
   | some (.slice _) => some [.sl (jdr P T) true []]
   | some (.map _ _) => some [.prim (.map none)]
   | some (.func _ _ _) => some [.prim .nilFunc]
   | some (.interface _) => some [.prim .nilIface]
   | some (.array len E) => match Vx P n E with
     | some zs => some (K5 len zs)
     | none => none
   | some (.struct fs) => fs.toList.foldr (fun f acc => match Vx P n f.type, acc with
     | some zs, some r => some (zs ++ r)
     | _, _ => none) (some [])
   | _ => none
def je9 (P : Program) (T : TypeId) : Bool :=
 match P.underlying T with
 | some (.struct _) => true
 | some (.array _ _) => true
 | _ => false
def jhY (P : Program) (T : Option TypeId) (v : Value) : Option IVal :=
 match v with
 | .slice none 0 0 => some (.sl (match T with | some T => jdr P T | none => 0) true [])
 | .agg cs => (match T with
   | some T => match Vx P 16 T with
     | some zs => if K2 zs cs.toList then some zs else cs.toList.mapM jcf
     | none => cs.toList.mapM jcf
   | none => cs.toList.mapM jcf).map .agg
 | .tuple cs => if cs.isEmpty then some (.tup []) else none
 | v => jcf v
structure Cx where
 P : Program
 cand : List TypeId
 mv : Nat -> Bool
 pure : Bool
 take : Bool
 ref : Bool
 draw : Bool
def jjC : Value -> Option IVal
 | .iface t (.agg vs) => match vs.toList with
   | [.pointer (some a)] => some (.iface t (.agg [.prim (.pointer (some a))]))
   | _ => none
 | .iface t (.pointer (some a)) => some (.iface t (.prim (.pointer (some a))))
 | v => jcf v
def Cx.opd (c : Cx) (T : Option TypeId) : Operand -> Option Opd
 | .tmp j => some (if c.mv j then .m j else .t j)
 | .const v => (jhY c.P T v).map .c
 | .func f => some (.c (.fn (.func f) [] []))
 | .global k => match Globs.vals k with
   | some vs => (vs.mapM jjC).map fun cs => .c (.pv false cs 0)
   | none => none
def j8 : Opd -> Opd
 | .m i => .t i
 | x => x
def Cx.opds (c : Cx) (l : List (Operand × Option TypeId)) : Option (List Opd) := l.mapM fun p => c.opd p.2 p.1
def jiL (P : Program) (T : TypeId) : Option Nat := if je9 P T then (P.info? T).map (·.size) else none
def jfa : Operand -> Option Nat
 | .const (.pointer none) => some 0
 | .const .nilIface => some 1
 | .const .nilFunc => some 2
 | .const (.map none) => some 3
 | _ => none
def jgi (P : Program) (T : TypeId) : Option (Nat × TypeId) :=
 match P.underlying T with
 | some (.map K E) => match P.underlying K with
   | some (.int _) => some (0, E)
   | some .string => some (1, E)
   | some .bool => some (2, E)
   | _ => none
 | _ => none
def jku (P : Program) (T : TypeId) : Option IVal :=
 match Vx P 16 T with
 | some zs => if je9 P T then some (.agg zs) else zs[0]?
 | none => none
def jkT (P : Program) : TypeId := match P.cutTypes.find? (·.1 == "internal/reflectlite.rtype") with
 | some (_, t) => t
 | none => 0
def jkO (P : Program) (t : TypeId) : Bool := !P.packed t && (!P.holdsPacked P.depth t && !P.methodsOfAPack P.depth t)
def jfg (P : Program) (cand : List TypeId) (f : TypeId -> TypeId -> Option Bool) : List ((TypeId × TypeId) × Bool) :=
 cand.flatMap fun t => cand.filterMap fun u => match f u t with
   | some b => some ((t, u), b)
   | none => none
def jeW (P : Program) (cand : List TypeId) (name : String) : Option ExtK :=
 let G := P.globals.size
 let rt := jkT P
 let cand := cand.filter (jkO P)
 if name == "internal/reflectlite.TypeOf" then some (.typeOf rt G)
 else if name == "(internal/reflectlite.Value).Type" then some (.vType rt G)
 else if name == "(internal/reflectlite.Value).IsNil" then some (.vIsNil G (cand.filter fun t => tyN P t none))
 else if name == "(internal/reflectlite.Value).Elem" then some (.vElem G (cand.filterMap fun t => match Z2 P t with
   | some e => (match Qc P e with | some k => if tyN P t none then some (t, e, k) else none | none => none)
   | none => none))
 else if name == "(internal/reflectlite.rtype).Elem" then some (.rElem rt G (cand.filterMap fun t => (Z2 P t).map fun e => (t, e)))
 else if name == "(internal/reflectlite.rtype).Comparable" then some (.rCmp G (cand.filterMap fun t => (P.info? t).map fun i => (t, i.comparable)))
 else if name == "(internal/reflectlite.rtype).Implements" then some (.rImpl G (jfg P cand fun u t => if Qc P u == some 20 then Z7 P u t else none))
 else if name == "(internal/reflectlite.rtype).AssignableTo" then some (.rAsg G (jfg P cand fun u t => match daP P u t, Z7 P u t with
   | some a, some b => some (a || b)
   | _, _ => none))
 else if name == "(*internal/abi.Type).Kind" then some (.aKind G (cand.filterMap fun t => (Qc P t).map fun k => (t, k)))
 else if name == "internal/bytealg.CountString" then some .cntS
 else if name == "internal/bytealg.IndexByteString" then some .idxBS
 else if name == "internal/race.Disable" then some (.mk0 true)
 else if name == "internal/race.Enable" then some (.mk0 false)
 else if name == "internal/race.Acquire" then some (.mk1 true)
 else if name == "internal/race.ReleaseMerge" then some (.mk1 false)
 else none
def jiJ (name : String) : Option MemK :=
 [IntKind.i32, .i64, .u32, .u64].findSome? fun k => [MemK.aload k, .astore k, .acas k, .aadd k, .mclone].find? fun m => kq m == some name
def jg0 (P : Program) (t : TypeId) (name : String) : Option RecvK := match P.info? t with
 | some i => match i.methods.find? (fun m => m.name == name) with
   | some m => match m.path.toList with
     | [] => some .same
     | [s] => match P.underlying s.struct with
       | some (.struct fs) => match fs[s.index]? with
         | some fd => some (.fld fd.offset (jiL P fd.type))
         | none => none
       | _ => none
     | _ => none
   | none => none
 | none => none
def Cx.extCall (c : Cx) (f : FuncId) (k : Call) : Option IOp :=
 let tys := k.argTypes.toList.map some
 match P_name c.P f, c.opds (k.args.toList.zip (tys ++ List.replicate k.args.size none)) with
 | some name, some xs =>
   if name == "internal/reflectlite.ValueOf" then (match xs with
     | [x] => some (.vOf c.P.globals.size (c.cand.filterMap fun t => (Qc c.P t).map fun n => (t, n)) x)
     | _ => none)
   else if name == "(internal/reflectlite.Value).Set" then (match xs with
     | [x, y] => some (.vSet c.P.globals.size (c.cand.filter fun t => !c.P.packed t && tyN c.P t none) x y)
     | _ => none)
   else match jiJ name with
     | some m => some (.mem m xs)
     | none => (jeW c.P c.cand name).map fun e => .pur (.ext e) xs
 | _, _ => none
where P_name (P : Program) (f : FuncId) : Option String := match P.funcs[f]? with
 | some fn => if fn.body.isNone then some fn.name else none
 | none => none
def Cx.invCall (c : Cx) (r : Operand) (name : String) (k : Call) : Option IOp :=
 let tys := k.argTypes.toList.map some
 let P := c.P
 let all := c.cand.filterMap fun t => match mfn P t name, jg0 P t name with
   | some f, some rk => if KI P t name f rk then (P.funcs[f]?).map fun fn => (t, f, rk, fn.body.isNone, fn.name) else none
   | _, _ => none
 match c.opd none r, c.opds (k.args.toList.zip (tys ++ List.replicate k.args.size none)) with
 | some x, some xs =>
   let fns := all.filter fun p => !p.2.2.2.1
   if fns.isEmpty then
     some (.pur (.invX (all.filterMap fun p => (jeW P c.cand p.2.2.2.2).map fun e => (p.1, e, p.2.2.1))) (x :: xs))
   else some (.inv (fns.map fun p => (p.1, p.2.1, p.2.2.1)) x xs)
 | _, _ => none
def Cx.call (c : Cx) (o : Oper) (k : Call) : Option IOp :=
 let tys := k.argTypes.toList.map some
 match k.callee with
 | .invoke r name => c.invCall r name k
 | .value (.func f) => match c.extCall f k with
   | some io => some io
   | none => match c.opds (k.args.toList.zip (tys ++ List.replicate k.args.size none)) with
     | some xs => some (if c.pure then .callp f xs else .call f xs)
     | none => none
 | .value r => match c.opd none r, c.opds (k.args.toList.zip (tys ++ List.replicate k.args.size none)) with
   | some x, some xs => some (.callv x xs)
   | _, _ => none
 | .builtin .len => match k.args.toList, k.argTypes[0]? with
   | [r], some T => match (c.opd (some T) r).map j8, c.P.underlying T with
     | some x, some .string => some (.lenS x)
     | some x, some (.slice _) => some (.lenL x)
     | some x, some (.map _ _) => some (.lenM x)
     | _, _ => none
   | _, _ => none
 | .builtin .cap => match k.args.toList, k.argTypes[0]? with
   | [r], some T => match (c.opd (some T) r).map j8, c.P.underlying T with
     | some x, some (.slice _) => some (.pur .cap0 [x])
     | _, _ => none
   | _, _ => none
 | .builtin .clear => match k.args.toList, k.argTypes[0]? with
   | [r], some T => match (c.opd (some T) r).map j8, kz c.P T with
     | some x, some (E, _) => (Vx c.P 16 E).map fun zs => .clear zs x
     | _, _ => none
   | _, _ => none
 | .builtin .max => match c.opds (k.args.toList.zip (tys ++ List.replicate k.args.size none)) with
   | some xs => some (.minmax true xs)
   | none => none
 | .builtin .min => match c.opds (k.args.toList.zip (tys ++ List.replicate k.args.size none)) with
   | some xs => some (.minmax false xs)
   | none => none
 | .builtin .append => match k.args.toList, k.argTypes.toList with
   | [rx, ry], [T, U] => match c.opd (some T) rx, c.opd (some U) ry, kz c.P T with
     | some x, some y, some (E, i) => match c.P.underlying U with
       | some (.int _) => (Vx c.P 16 E).map fun zs => .mem (.extN i.size i.bytes zs) [x, y]
       | _ => some (.append c.ref (match c.P.underlying U with | some .string => true | _ => false) i.size i.bytes x y)
     | _, _, _ => none
   | _, _ => none
 | _ => none
def Cx.parts (c : Cx) (place : Nat -> Option (Nat × Nat)) (ty : Nat -> Option TypeId) : List (Nat × Operand) -> Option (List (Nat × Nat × Opd))
 | [] => some []
 | p :: ps => match place p.1, c.opd (ty p.1) p.2, c.parts place ty ps with
   | some q, some x, some r => some ((q.1, q.2, x) :: r)
   | _, _, _ => none
def Cx.op (c : Cx) (o : Oper) : Option IOp :=
 let P := c.P
 match o.op with
 | .move r => (c.opd (some o.type) r).map .mv
 | .assign r => (c.opd (some o.type) r).map .mv
 | .pick a b d => match c.opd none a, c.opd (some o.type) b, c.opd (some o.type) d with
   | some a, some b, some d => some (.pick a (j8 b) (j8 d))
   | _, _, _ => none
 | .alloc T => (Vx P 16 T).map .alloc
 | .box T r => (c.opd (some T) r).map (if c.ref then .box else .boxv)
 | .build T ps => match Vx P 16 T, zw P T with
   | some zs, some (_, place) =>
     (c.parts place (fun k => match P.underlying T with | some (.array _ E) => some E | some (.struct fs) => (fs[k]?).map (·.type) | _ => none) ps.toList).map (.build zs)
   | _, _ => none
 | .buildSlice T _ ps => match kz P T with
   | some (E, i) => (c.opds (ps.toList.map fun p => (p.2, some E))).map (if c.ref then .buildRs i.size else .buildSl i.size)
   | none => none
 | .load T r => (c.opd none r).map (.load c.take (jiL P T))
 | .store T rx ry => match c.opd none rx, c.opd (some T) ry, P.info? T with
   | some x, some y, some i => some (.store i.size x y)
   | _, _, _ => none
 | .nilCheck r => (c.opd none r).map .nilCheck
 | .binOp op T rx ry _ => match jfa ry, jfa rx with
   | some k, _ => (c.opd none rx).map (.isnil (op == .neq) k)
   | none, some k => (c.opd none ry).map (.isnil (op == .neq) k)
   | none, none => match Vd rx ry with
     | some r => (c.opd (some T) r).map fun x => .pur (.isnilS (op == .neq)) [j8 x]
     | none => match c.opd (some T) rx, c.opd (some T) ry, P.underlying T with
     | some x, some y, some .bool => some (.eqb (op == .neq) x y)
     | some x, some y, some (.int _) => some (.bin op x y)
     | some x, some y, some .string => some (.bin op x y)
     | some x, some y, some (.struct _) => (yT P 1000 T).map fun ks => .pur (.eqa (op == .neq) ks) [x, y]
     | some x, some y, some (.array _ _) => (yT P 1000 T).map fun ks => .pur (.eqa (op == .neq) ks) [x, y]
     | some x, some y, some (.interface _) => some (.pur (.eqi (op == .neq) (c.cand.filterMap fun t => match P.info? t, P.underlying t with
       | some i, some (.int _) => if i.comparable then some (t, 0) else none
       | some i, some .string => if i.comparable then some (t, 1) else none
       | _, _ => none)) [x, y])
     | _, _, _ => none
 | .unOp op _ r => (c.opd none r).map (.un op)
 | .convert S T r => match c.opd (some S) r, P.underlying S, P.underlying T with
   | some x, some (.int _), some (.int k) => some (.conv (.int k) x)
   | some x, some .string, some .string => some (.conv .same x)
   | some x, some .string, some (.slice _) => if c.ref then some (.mem .bytesR [x]) else some (.conv .bytes x)
   | some x, some (.slice _), some .string => if c.ref then some (.mem .textR [x]) else some (.pur .text [x])
   | some x, some (.int _), some .string => some (.pur .rune [x])
   | some x, some (.pointer _), some .unsafePointer => some (.mem .uptr [x])
   | _, _, _ => none
 | .makeInterface T r => (c.opd (some T) r).map (.mkIface T)
 | .makeFunc (.method n) rs qs => match rs.toList, qs.toList with
   | [r], [] => (c.opd none r).map fun x => .pur (.mkM n) [x]
   | _, _ => none
 | .makeFunc f rs qs => match c.opds (rs.toList.map fun r => (r, none)), c.opds (qs.toList.map fun r => (r, none)) with
   | some xs, some ys => some (.mkFn f xs ys)
   | _, _ => none
 | .makeMap _ _ => some .mkMap
 | .makeSlice T rx ry => match c.opd none rx, c.opd none ry, kz P T with
   | some x, some y, some (E, i) => (Vx P 16 E).map fun zs => .mkSl c.ref i.size i.bytes zs (j8 x) (j8 y)
   | _, _, _ => none
 | .slice T r lo hi mx => match c.opd (some T) r, lo.mapM (c.opd none), hi.mapM (c.opd none), mx.mapM (c.opd none), P.underlying T with
   | some x, some l, some h, _, some .string => some (.sliceS x (l.map j8) (h.map j8))
   | some x, some none, some none, some none, some (.array n _) => some (.pur (.slA n) [x])
   | some x, some l, some h, some m, some (.slice _) => some (.sliceL (jdr P T) x (l.map j8) (h.map j8) (m.map j8))
   | _, _, _, _, _ => none
 | .fieldAddr T r k => match c.opd none r, P.underlying T with
   | some x, some (.struct fs) => (fs[k]?).map fun f => .fieldAddr f.offset x
   | _, _ => none
 | .field T r k => match c.opd none r, P.underlying T with
   | some x, some (.struct fs) => (fs[k]?).map fun f => .field f.offset (jiL P f.type) x
   | _, _ => none
 | .indexAddr T rx ry => match (c.opd (some T) rx).map j8, c.opd none ry, P.underlying T with
   | some x, some y, some (.slice _) => some (.idxAddr (jdr P T) x y)
   | some x, some y, some (.array len E) => (P.info? E).map fun i => .idxAddrA len i.size x y
   | _, _, _ => none
 | .index T rx ry => match c.opd (some T) rx, c.opd none ry, P.underlying T with
   | some x, some y, some .string => some (.idxS x y)
   | some x, some y, some (.array len E) => (P.info? E).map fun i => .idxA len i.size (jiL P E) x y
   | _, _, _ => none
 | .lookup T rx ry ok => match c.opd none rx, c.opd none ry, jgi P T with
   | some x, some y, some (kk, E) => (jku P E).map fun z => .lookup kk z ok x y
   | _, _, _ => none
 | .mapUpdate T rx ry rz => match c.opd none rx, c.opd none ry, jgi P T with
   | some x, some y, some (kk, E) => (c.opd (some E) rz).map (.mapSet kk x y)
   | _, _, _ => none
 | .insert T rx ry rz => match c.opd none rx, c.opd none ry, jgi P T with
   | some x, some y, some (kk, E) => (c.opd (some E) rz).map (.mapSet kk x y)
   | _, _, _ => none
 | .typeAssert r _ A ok => match c.opd none r, P.underlying A with
   | some x, some (.interface want) => some (.pur (.tyI (c.cand.filter fun t => Qw P want t true) (c.cand.filter fun t => Qw P want t false) ok) [x])
   | some x, some _ => (jku P A).map fun z => .pur (.tyC A ok z) [x]
   | _, _ => none
 | .extract r i => (c.opd none r).map fun x => .extract (if c.draw then j8 x else x) i
 | .call k => c.call o k
 | .panic r => (c.opd none r).map .panic
 | .range T r => match P.underlying T with
   | some .string => (c.opd (some T) r).map fun x => .mem .iter [x]
   | _ => none
 | .next r true => (c.opd none r).map fun x => .mem .next [x]
 | _ => none
def jff (ops : List Oper) (j : Nat) : Bool := ops.any fun o => o.dst == some j && (match o.op with | .assign _ => false | _ => true)
def jdM (ops : List Oper) (i j : Nat) : Bool := (ops.drop i).any fun o => o.dst == some j
def Qn (ops : List Oper) (d : Option Nat) : Bool := match d with
 | some d => ops.any fun o => match o.op with
   | .call c => (match c.callee, c.args.toList with | .builtin .append, (.tmp t) :: _ => t == d | _, _ => false)
   | _ => false
 | none => false
def jg1 (refs : Nat -> Bool) (ops : List Oper) (T : TypeId) : Bool := ops.any fun o => match o.op, o.dst with
   | .call c, some e => refs e && (match c.callee, c.argTypes[0]? with | .builtin .append, some t => t == T | _, _ => false)
   | _, _ => false
def jad (ops : List Oper) (i : Nat) (T : TypeId) : Bool := (ops.drop i).any fun o => match o.op with | .store T' _ _ => T == T' | _ => false
structure Mode where
 refs : Nat -> Bool
 cand : List TypeId
 vars : Bool
 pure : Bool
 ends : Bool
 take : Bool
 draw : Bool
 once : Bool := false
def jji (ops : List Oper) (j : Nat) : Nat := ops.foldl (fun n o => n + (o.op.operands.toList.filter fun x => match x with | .tmp t => t == j | _ => false).length) 0
def jiK (ops : List Oper) (j : Nat) : Option String := ops.findSome? fun o => if o.dst == some j then (match o.op with
 | .makeFunc (.method n) _ _ => some n
 | _ => none) else none
def Cx.op' (c : Cx) (ops : List Oper) (o : Oper) : Option IOp := match o.op with
 | .nilCheck (.tmp j) => match jiK ops j with
   | some n => (c.opd none (.tmp j)).map fun x => .pur (.nilM (c.cand.filter fun t => jbW c.P t n) n) [j8 x]
   | none => c.op o
 | _ => c.op o
def jfq (P : Program) (md : Mode) (ops : List Oper) (i : Nat) (o : Oper) : Option IOper :=
 let c : Cx := { P := P, cand := md.cand, mv := fun j => o.guard.isNone && (!md.once || decide (jji ops j <= 1)) && (jff ops j || (md.vars && (md.ends || (jdM ops i j || (match o.op with | .move _ => Qn ops o.dst | _ => false))))), pure := md.pure,
                 ref := (match o.dst with | some d => md.refs d | none => false), draw := md.draw, take := md.take && (match o.op with | .load T _ => !(jg1 md.refs ops T) && (jad ops i T || Qn ops o.dst) && !(jgg ((P.underlying T).getD .invalid)) | _ => false) }
 match c.op' ops o with
 | some io => some { dst := o.dst, op := io, guard := match o.guard with
     | some (j, b) => match ops[j]? with
       | some g => match g.dst with
         | some t => some (t, b)
         | none => none
       | none => none
     | none => none }
 | none => none
def jjb (P : Program) (md : Mode) (ops : List Oper) : Option (List IOper) :=
 (ops.zipIdx).mapM fun p => jfq P md ops p.2 p.1
def jgJ (A : List (List Nat)) (l : List (Nat × IOper)) : List (Nat × Nat) :=
 l.flatMap fun p => if quiet p.2.op && vN p.2.op then
   l.filterMap fun q => if quiet q.2.op || (A.getD q.1 []).contains p.1 || (A.getD p.1 []).contains q.1 then none else some (p.1, q.1)
 else if K4 p.2.op then
   l.filterMap fun q => if K4 q.2.op && !(Nat.beq p.1 q.1) && !((A.getD q.1 []).contains p.1) && !((A.getD p.1 []).contains q.1) then some (p.1, q.1) else none
 else []
def jks (ops : Array Oper) : Nat -> List (Nat × IOper) -> List Nat -> List (Nat × IOper)
 | 0, _, _ => []
 | n + 1, l, done => match (match l.find? fun p => (va p).isSome && (kX ops p.1).isEmpty with
     | some p => some p
     | none => match l.find? fun p => !(qQ p.2.op) && (quiet p.2.op && (kX ops p.1).all fun d => done.contains d) with
     | some p => some p
     | none => match l.find? fun p => !(qQ p.2.op) && (kX ops p.1).all fun d => done.contains d with
       | some p => some p
       | none => l.find? fun p => (kX ops p.1).all fun d => done.contains d) with
   | some p => p :: jks ops n (l.filter fun q => !(Nat.beq q.1 p.1)) (p.1 :: done)
   | none => []
def jjI (ops : Array Oper) (l : List (Nat × IOper)) : List (Nat × IOper) :=
 if (l.all fun p => (kX ops p.1).all fun d => Nat.blt d p.1) && pwB (fun p q => (!(qQ p.2.op) && (quiet p.2.op || (quiet q.2.op || (K4 p.2.op && K4 q.2.op)))) || ((jfF ops.toList []).getD q.1 []).contains p.1) l then l else jks ops l.length l []
def JP (P : Program) (n : Shape) (ops : Array Oper) (md : Mode) : Option ICode :=
 match jjb P md ops.toList with
 | some l =>
   let l' := jjI ops (l.zipIdx.map fun p => (p.2, p.1))
   let pairs := jgJ (jfF ops.toList []) (Ql 0 l')
   if JH P n ops l' pairs then some (.draw l' pairs) else none
 | none => none
def je1 (refs : Nat -> Bool) (ops : Array Oper) : Bool := ops.any fun o => match o.op with
 | .call c => (match c.callee with | .builtin .append => !(match o.dst with | some d => refs d | none => false) | _ => false)
 | _ => false
def yP (P : Program) (n : Shape) (ops : Array Oper) (md : Mode) : Option ICode :=
 match JP P n ops { md with pure := false } with
 | some c => some c
 | none => match (if je1 md.refs ops then none else JP P n ops { md with pure := false, take := false }) with
   | some c => some c
   | none => match (if je1 md.refs ops then none else JP P n ops { md with pure := false, take := false, vars := false }) with
     | some c => some c
     | none => match JP P n ops { md with pure := true } with
       | some c => some c
       | none => match JP P n ops { md with pure := true, take := false } with
         | some c => some c
         | none => JP P n ops { md with pure := true, take := false, vars := false }
def K0 (P : Program) (n : Shape) (ops : Array Oper) (md : Mode) : Option ICode :=
 match yP P n ops md with
 | some c => some c
 | none => yP P n ops { md with once := true }
def ZJ (P : Program) (n : Shape) (ops : Array Oper) (md : Mode) : Option ICode :=
 match jjb P md ops.toList with
 | some l => if vR P ops ops.toList l && yW n.n l then some (.ops l) else none
 | none => none
def XR : Code -> Bool
 | .ret => true
 | .seq a _ => XR a
 | _ => false
def kg (P : Program) (n : Shape) (cand : List TypeId) (refs : Nat -> Bool) (top fin : Bool) : Code -> Option ICode
 | .skip => some .skip
 | .region _ ops false => match ZJ P n ops { refs := refs, cand := cand, vars := true, pure := false, ends := fin, take := true, draw := false } with
   | some c => some c
   | none => some .stuck
 | .region _ ops true => match K0 P n ops { refs := refs, cand := cand, vars := true, pure := false, ends := fin, take := true, draw := true } with
   | some c => some c
   | none => some .stuck
 | .seq a b => match kg P n cand refs top (XR b) a, kg P n cand refs top fin b with
   | some x, some y => some (.seq x y)
   | _, _ => none
 | .cond c a b => match (Cx.mk P [] (fun _ => false) false false false false).opd none c, kg P n cand refs top fin a, kg P n cand refs top fin b with
   | some z, some x, some y => if jg z c then some (.cond z x y) else some .stuck
   | _, _, _ => some .stuck
 | .block id c => (kg P n cand refs top false c).map (.block id)
 | .loop c => (kg P n cand refs top false c).map .loop
 | .exit id => some (.exit id)
 | .scope c => (kg P n cand refs top fin c).map .scope
 | .label l => some (.label l)
 | .goto l => some (.goto l)
 | .ret => some .ret
 | .rangeFunc g ps a b => match (Cx.mk P [] (fun _ => false) false false false false).opd none g, kg P n cand refs false false a, kg P n cand refs false false b with
   | some z, some x, some y => if top && (jg z g && (ps.toList.all fun p => decide (p < n.n))) then some (.rangeF z ps.toList x y) else some .stuck
   | _, _, _ => some .stuck
 | _ => some .stuck
theorem vE {P : Program} {n : Shape} {ops : Array Oper} {md : Mode} {c : ICode} (h : JP P n ops md = some c) : ∃ l pairs, c = .draw l pairs /\ JH P n ops l pairs = true := by
 unfold JP at h;split at h
 . simp only at h;split at h
   . rename_i hok;simp only [zO] at h;exact ⟨_, _, h.symm, hok⟩
   . cases h
 . cases h
theorem Jg {P : Program} {n : Shape} {ops : Array Oper} {md : Mode} {c : ICode} (h : yP P n ops md = some c) : ∃ l pairs, c = .draw l pairs /\ JH P n ops l pairs = true := by
 unfold yP at h;split at h
 . rename_i h1; cases h; exact vE h1
 split at h
 . rename_i h1; cases h;split at h1
   . cases h1
   . exact vE h1
 split at h
 . rename_i h1; cases h;split at h1
   . cases h1
   . exact vE h1
 split at h
 . rename_i h1; cases h; exact vE h1
 split at h
 . rename_i h1; cases h; exact vE h1
 . exact vE h
theorem XE {P : Program} {n : Shape} {ops : Array Oper} {md : Mode} {c : ICode} (h : K0 P n ops md = some c) : ∃ l pairs, c = .draw l pairs /\ JH P n ops l pairs = true := by
 unfold K0 at h;split at h
 . rename_i h1; cases h; exact Jg h1
 . exact Jg h
theorem vZ {P : Program} {n : Shape} {top : Bool} (c : Code) : jT P n top c .stuck = true := by cases c <;> simp only [jT]
theorem Xy {P : Program} {n : Shape} {cand : List TypeId} {refs : Nat -> Bool} : ∀ {c : Code} {top fin : Bool} {ic : ICode}, kg P n cand refs top fin c = some ic -> jT P n top c ic = true := by
 intro c
 induction c with
 | skip => intro top fin ic h; simp only [kg, zO] at h; subst h; rfl
 | region id ops d =>
   intro top fin ic h
   cases d with
   | false =>
     simp only [kg] at h;split at h
     . rename_i h0;simp only [ZJ] at h0;split at h0
       . split at h0
         . rename_i hok;simp only [zO] at h0 h;subst h0; subst h;exact hok
         . cases h0
       . cases h0
     . simp only [zO] at h; subst h; exact vZ _
   | true =>
     simp only [kg] at h;split at h
     . rename_i h0;obtain ⟨l, pairs, rfl, hok⟩ := XE h0;simp only [zO] at h;subst h;exact hok
     . simp only [zO] at h; subst h; exact vZ _
 | seq a b iha ihb =>
   intro top fin ic h;simp only [kg] at h;split at h
   . rename_i h1 h2;simp only [zO] at h;subst h;simp [jT, iha h1, ihb h2]
   . cases h
 | cond z a b iha ihb =>
   intro top fin ic h;simp only [kg] at h;split at h
   . rename_i h1 h2 h3;split at h
     . rename_i h4;simp only [zO] at h;subst h;simp [jT, iha h2, ihb h3, h4]
     . simp only [zO] at h; subst h; exact vZ _
   . simp only [zO] at h; subst h; exact vZ _
 | block id c ih =>
   intro top fin ic h;simp only [kg, rW] at h;obtain ⟨x, h1, rfl⟩ := h;simp [jT, ih h1]
 | loop c ih =>
   intro top fin ic h;simp only [kg, rW] at h;obtain ⟨x, h1, rfl⟩ := h;simp [jT, ih h1]
 | scope c ih =>
   intro top fin ic h;simp only [kg, rW] at h;obtain ⟨x, h1, rfl⟩ := h;simp [jT, ih h1]
 | exit id => intro top fin ic h; simp only [kg, zO] at h; subst h; simp [jT]
 | label l => intro top fin ic h; simp only [kg, zO] at h; subst h; rfl
 | goto l => intro top fin ic h; simp only [kg, zO] at h; subst h; simp [jT]
 | ret => intro top fin ic h; simp only [kg, zO] at h; subst h; rfl
 | rangeFunc f ps a b iha ihb =>
   intro top fin ic h;simp only [kg] at h;split at h
   . rename_i h1 h2 h3;split at h
     . rename_i h4;simp only [zO] at h;subst h;simp only [zA] at h4;simp [jT, iha h2, ihb h3, h4.1, h4.2.1];simpa using h4.2.2
     . simp only [zO] at h; subst h; exact vZ _
   . simp only [zO] at h; subst h; exact vZ _
 | refuse w => intro top fin ic h; simp only [kg, zO] at h; subst h; exact vZ _
def jhg (P : Program) : List ResultVar -> List RV
 | [] => []
 | .tmp t :: rs => .t t :: jhg P rs
 | .cell t T :: rs => .cell t (jiL P T) :: jhg P rs
def jiV (ops : List Oper) (j : Nat) : Bool := ops.any fun o => match o.op with
 | .assign _ => false
 | _ => o.dst == some j
def jkr (f : Nat -> Bool) (l : List Operand) (m : Nat) : Nat := l.foldl (fun m x => match x with
 | .tmp t => if f t then max m (t + 1) else m
 | _ => m) m
def jde (ops : List Oper) (m : Nat) : Nat := ops.foldl (fun m o =>
 let m := jkr (fun t => !(jiV ops t)) o.op.operands.toList m
 match o.op with
 | .assign _ => (match o.dst with | some d => max m (d + 1) | none => m)
 | _ => m) m
def vf : Code -> Nat -> Nat
 | .region _ ops _, m => jde ops.toList m
 | .seq a b, m => vf b (vf a m)
 | .cond _ a b, m => vf b (vf a m)
 | .block _ c, m => vf c m
 | .loop c, m => vf c m
 | .scope c, m => vf c m
 | .rangeFunc f _ a b, m => vf b (vf a (jkr (fun _ => true) [f] m))
 | _, m => m
def ji6 (nv : Nat) (ops : List Oper) : Nat :=
 let r := ops.foldl (fun (r : Option (Nat × Nat)) o => match o.dst with
   | some d => if d < nv then r else match r with
     | some (lo, hi) => some (min lo d, max hi d)
     | none => some (d, d)
   | none => r) none
 match r with
 | some (lo, hi) => hi - lo + 1
 | none => 0
def qq (nv : Nat) : Code -> Nat -> Nat
 | .region _ ops _, m => max m (ji6 nv ops.toList)
 | .seq a b, m => qq nv b (qq nv a m)
 | .cond _ a b, m => qq nv b (qq nv a m)
 | .block _ c, m => qq nv c m
 | .loop c, m => qq nv c m
 | .scope c, m => qq nv c m
 | .rangeFunc _ _ a b, m => qq nv b (qq nv a m)
 | _, m => m
def ji2 (rs : List ResultVar) (m : Nat) : Nat := rs.foldl (fun m r => match r with
 | .tmp t => max m (t + 1)
 | .cell t _ => max m (t + 1)) m
def jcv (gfn : Func) (c : Code) : Nat × Nat :=
 let nv := vf c (ji2 gfn.results.toList (gfn.params.size + gfn.nfree))
 (nv, qq nv c 1)
def ja5 (ops : List Oper) : Operand -> Option FuncId
 | .func g => some g
 | .tmp j => ops.findSome? fun o => if o.dst == some j then (match o.op with
   | .makeFunc (.func g) _ _ => some g
   | _ => none) else none
 | _ => none
def jed : Code -> Option Nat × Code
 | .seq (.region i ops false) b => match ops.toList with
   | [o] => match o.dst with
     | some t => if KA o t then (some t, b) else (none, .seq (.region i ops false) b)
     | none => (none, .seq (.region i ops false) b)
   | _ => (none, .seq (.region i ops false) b)
 | c => (none, c)
def jhf (P : Program) (n : Shape) (cand : List TypeId) (refs : FuncId -> Nat -> Bool) (f : FuncId) (ops : Array Oper) (b : ICode) : Option ICode :=
 match ops.toList.reverse with
 | o :: pre => match o.op with
   | .defer k => match k.callee with
     | .value r => match ja5 pre r with
       | some g => match P.funcs[g]? with
         | some gfn => match gfn.body with
           | some body => match jcv gfn body, jed body with
             | (nv, m), (slot, rest) =>
               let md : Mode := { refs := refs f, cand := cand, vars := true, pure := false, ends := false, take := true, draw := false }
               let cx : Cx := { P := P, cand := cand, mv := fun j => jff ops.toList j, pure := false, ref := false, draw := false, take := false }
               match kg P ⟨gfn.ntmps, nv, m⟩ cand (refs g) true false rest, (pre.reverse.zipIdx).mapM (fun p => jfq P md ops.toList p.2 p.1), cx.opd none r, cx.opds (k.args.toList.zip (k.argTypes.toList.map some ++ List.replicate k.args.size none)) with
               | some c, some l, some x, some xs =>
                 let d : DInfo := { g := g, nt := gfn.ntmps, nv := nv, m := m, dep := Nat.log2 (nv + m) + 1, slot := slot }
                 if jdk P n ops l x xs d c then some (.dfr l x xs d c b) else none
               | _, _, _, _ => none
           | none => none
         | none => none
       | none => none
     | _ => none
   | _ => none
 | [] => none
def JQ (P : Program) (n : Shape) (cand : List TypeId) (refs : FuncId -> Nat -> Bool) (f : FuncId) : Code -> Option ICode
 | .seq a b => match JQ P n cand refs f b with
   | some y => match (match a with | .region _ ops false => jhf P n cand refs f ops y | _ => none) with
     | some z => some z
     | none => match kg P n cand (refs f) true (XR b) a with
       | some x => some (.seq x y)
       | none => none
   | none => none
 | .cond c a b => match (Cx.mk P [] (fun _ => false) false false false false).opd none c, JQ P n cand refs f a, JQ P n cand refs f b with
   | some z, some x, some y => if jg z c then some (.cond z x y) else some .stuck
   | _, _, _ => some .stuck
 | c => kg P n cand (refs f) true false c
theorem jeD {P : Program} {n : Shape} {cand : List TypeId} {refs : FuncId -> Nat -> Bool} {f : FuncId} {ops : Array Oper} {b ic : ICode} (h : jhf P n cand refs f ops b = some ic) : ∃ l x xs d c, ic = .dfr l x xs d c b /\ jdk P n ops l x xs d c = true := by
 unfold jhf at h
 repeat' split at h
 all_goals first
   | (cases h; done)
   | skip
 simp only at h
 repeat' split at h
 all_goals first
   | (cases h; done)
   | (rename_i hok; simp only [zO] at h; exact ⟨_, _, _, _, _, h.symm, hok⟩)
theorem QJ {P : Program} {n : Shape} (c : Code) : qW P n c .stuck = true := by cases c <;> simp only [qW, jT]
theorem jcJ {P : Program} {n : Shape} {cand : List TypeId} {refs : FuncId -> Nat -> Bool} {f : FuncId} : ∀ {c : Code} {ic : ICode}, JQ P n cand refs f c = some ic -> qW P n c ic = true := by
 intro c
 induction c with
 | seq a b _ ihb =>
   intro ic h;simp only [JQ] at h;split at h
   . rename_i y hy;split at h
     . rename_i z hz;simp only [zO] at h;subst h;split at hz
       . obtain ⟨l, x, xs, d, c, rfl, hok⟩ := jeD hz;simp only [qW, hok, ihb hy, Bool.and_self]
       . cases hz
     . split at h
       . rename_i x hx;simp only [zO] at h;subst h;simp only [qW, Xy hx, ihb hy, Bool.and_self]
       . cases h
   . cases h
 | cond z a b iha ihb =>
   intro ic h;simp only [JQ] at h;split at h
   . rename_i h1 h2 h3;split at h
     . rename_i h4;simp only [zO] at h;subst h;simp only [qW, iha h2, ihb h3, h4, Bool.and_self]
     . simp only [zO] at h; subst h; exact QJ _
   . simp only [zO] at h; subst h; exact QJ _
 | _ => intro ic h; have h' := Xy (top := true) (fin := false) (by simpa only [JQ] using h); unfold qW; exact h'
def jfp (P : Program) (cand : List TypeId) (refs : FuncId -> Nat -> Bool) (f : FuncId) (gfn : Func) : Option IFunc :=
 if gfn.name = "runtime.NumGoroutine" then none else
 match gfn.body with
 | some c => match jcv gfn c with
   | (nv, m) => match JQ P ⟨gfn.ntmps, nv, m⟩ cand refs f c with
     | some ic =>
       let rs := jhg P gfn.results.toList
       if KK P gfn.results.toList rs then some { nt := gfn.ntmps, nv := nv, m := m, dep := Nat.log2 (nv + m) + 1, body := ic, res := rs } else none
     | none => none
 | none => none
def ZI (P : Program) (cand : List TypeId) (refs : FuncId -> Nat -> Bool) : jn := fun f => match P.funcs[f]? with
 | some gfn => jfp P cand refs f gfn
 | none => none
theorem Xz (P : Program) (cand : List TypeId) (refs : FuncId -> Nat -> Bool) : FOK P (ZI P cand refs) := by
 intro f fn h;unfold ZI at h;split at h
 . rename_i gfn hf;refine .inl ⟨gfn, hf, ?_⟩;unfold jfp at h;split at h
   . cases h
   . rename_i hname;split at h
     . rename_i c hb;simp only at h;split at h
       . rename_i ic hc;split at h
         . rename_i hr;simp only [zO] at h;subst h;exact ⟨hname, ⟨c, hb, jcJ hc⟩, hr, rfl⟩
         . cases h
       . cases h
     . cases h
 . cases h
def KZ (P : Program) (cand : List TypeId) (refs : FuncId -> Nat -> Bool) (jaI : FuncId -> Option jeN) : jn := fun f => match jaI f with
 | some p => some { nt := 0, nv := 0, m := 1, dep := 1, body := .lib p, res := [] }
 | none => ZI P cand refs f
theorem jaC {P : Program} (cand : List TypeId) (refs : FuncId -> Nat -> Bool) {jaI : FuncId -> Option jeN} (hl : ∀ f p, jaI f = some p -> ZQ P f p) : FOK P (KZ P cand refs jaI) := by
 intro f fn h;unfold KZ at h;split at h
 . rename_i p hp;simp only [zO] at h;subst h;exact .inr ⟨p, rfl, hl f p hp⟩
 . exact Xz P cand refs f fn h
theorem jg6 {P : Program} (cand : List TypeId) (refs : FuncId -> Nat -> Bool) {jaI : FuncId -> Option jeN} (hl : ∀ f p, jaI f = some p -> ZQ P f p) (hmx : P.follows .mixedOrders = true) (n : Nat) : CallOK P (CR P) (vo (KZ P cand refs jaI) n) := Y0 hmx (jaC cand refs hl) n
end Go.Idl
namespace Go.Idl
variable [Globs]
open Go.RowKit (Below)
variable {P : Program} {w : World}
def Qj (P : Program) (w : World) : Gh := { ι := [], M := fun b o => w.cell? ⟨b, o, none⟩, T := fun _ => none, C := CR P }
theorem jb7 {l : jG} (h : ∀ p ∈ l, jC p.1 p.2 = []) : jN l = [] := by
 unfold jN;apply flatten_nil;intro x hx;obtain ⟨p, hp, rfl⟩ := List.mem_map.1 hx;exact h p hp
def Ji (w : World) : Prop := ∀ k vs, Globs.vals k = some vs -> ∀ (i : Nat) c, vs[i]? = some c -> w.cell? ⟨k, i, none⟩ = some c
theorem jjO {l : jG} (hG : Ji w) (hV : ∀ p ∈ l, V (Qj P w) p.1 p.2 /\ jC p.1 p.2 = []) : R (Qj P w) [] l [] w := by
 have e : jN l = [] := jb7 fun p hp => (hV p hp).2;refine ⟨rfl, fun p hp => (hV p hp).1, fun id b o h => (by simp [Qj] at h), ?_, ?_, fun b hb => (by cases hb), fun b o v h => h, fun id b o h => (by simp [Qj] at h), fun b hb => (by cases hb), fun k vs hk i c hi => by rw [t7]; exact hG k vs hk i c hi, fun b hb => absurd rfl hb⟩
 . rw [e]; simp [kt, Qj]
 . rw [e]; simp [kt, Qj]
theorem QP {g g' : Gh} {O' : List Nat} {w' : World} (h : Grow [] g w O' g' w') : Below w.heap.size w w' :=
 ⟨h.os, h.tape, h.output, h.size, fun k hk => (h.same k hk (by simp)).1⟩
theorem jcH {cf : jD} (hcf : CallOK P (CR P) cf) (hG : Ji w) {f : FuncId} {args : List IVal} {rargs : Array Value} {out : Out} (hrun : cf (.f f) args [] = some out) (hlen : args.length = rargs.toList.length)
   (hV : ∀ p ∈ args.zip rargs.toList, V (Qj P w) p.1 p.2 /\ jC p.1 p.2 = []) :
   Calls P f rargs w fun e w' => ∃ v' g', e = Z5 out.pan v' /\ V g' out.v v' /\ Below w.heap.size w w' := by
 refine callsIn_wide.1 ((hcf.fn f args [] out hrun).2 (Qj P w) [] rargs w rfl hlen (jjO hG hV) |>.mono ?_);rintro e w' ⟨g', O', v', rfl, hg, hR, -⟩;exact ⟨v', g', rfl, hR.vals (out.v, v') (by simp), QP hg⟩
theorem ZH {cf : jD} (hcf : CallOK P (CR P) cf) (hG : Ji w) {f : FuncId} {args : List IVal} {rargs : Array Value} {σ' : List IObj} {wr' : List (Nat × Bool)} (hrun : cf (.f f) args [] = some ⟨false, .bool true, σ', wr'⟩) (hlen : args.length = rargs.toList.length)
   (hV : ∀ p ∈ args.zip rargs.toList, V (Qj P w) p.1 p.2 /\ jC p.1 p.2 = []) :
   Calls P f rargs w fun e w' => e = .returned (.bool true) /\ Below w.heap.size w w' := by
 refine (jcH hcf hG hrun hlen hV).mono ?_;rintro e w' ⟨v', g', rfl, hv, hb⟩;have : v' = .bool true := by cases hv; rfl
 subst this;exact ⟨rfl, hb⟩
end Go.Idl
namespace Go.Idl
def jcW (a b : jD) : Prop := ∀ f args σ o, a f args σ = some o -> b f args σ = some o
def jc3 (a b : ICode -> St -> Option (IExit × St)) : Prop := ∀ c s r, a c s = some r -> b c s = some r
theorem vV {a b : jD} (h : jcW a b) {f : Cal} {vs : List IVal} {ts : Ts} {s : St} {r : Res} (hs : stepCall a f vs ts s = some r) : stepCall b f vs ts s = some r := by
 unfold stepCall at hs ⊢;split at hs
 . rename_i o ho;rw [h _ _ _ _ ho]; exact hs
 . cases hs
theorem yy {a b : jD} (h : jcW a b) {o : IOp} {s : St} {r : Res} (hs : stepOp a o s = some r) : stepOp b o s = some r := by
 cases o
 case call f xs =>
   simp only [stepOp] at hs ⊢;split at hs
   . exact vV h hs
   . cases hs
 case callp f xs =>
   simp only [stepOp] at hs ⊢;split at hs
   . split at hs
     . rename_i hn;rw [if_pos hn];split at hs
       . rename_i ho;rw [h _ _ _ _ ho]; exact hs
       . cases hs
     . cases hs
   . cases hs
 case callv f xs =>
   simp only [stepOp] at hs ⊢;split at hs
   . split at hs
     . exact vV h hs
     . cases hs
   . split at hs
     . exact vV h hs
     . cases hs
   . cases hs
 case inv tab x xs =>
   simp only [stepOp] at hs ⊢;split at hs
   . split at hs
     . split at hs
       . split at hs
         . exact vV h hs
         . cases hs
       . cases hs
     . cases hs
   . cases hs
 all_goals exact hs
theorem yw {a b : jD} (h : jcW a b) : ∀ {l : List IOper} {s : St} {r : IExit × St}, runOps a l s = some r -> runOps b l s = some r := by
 intro l
 induction l with
 | nil => intro s r hr; exact hr
 | cons o l ih =>
   intro s r hr;simp only [runOps] at hr ⊢;split at hr
   . split at hr
     . rename_i hs; rw [yy h hs]; exact ih hr
     . rename_i hs; rw [yy h hs]; exact hr
     . cases hr
   . exact ih hr
   . cases hr
theorem QR {a b : ICode -> St -> Option (IExit × St)} (h : jc3 a b) {fn : IFunc} {args : List IVal} {σ : List IObj} {o : Out} (ho : callI a fn args σ = some o) : callI b fn args σ = some o := by
 unfold callI at ho ⊢;split at ho
 . exact ho
 split at ho
 . rename_i e; rw [h _ _ _ e]; exact ho
 . rename_i e; rw [h _ _ _ e]; exact ho
 . rename_i e; rw [h _ _ _ e]; exact ho
 . cases ho
theorem Vq {a b : jD} (h : jcW a b) {o : IOper} {s : St} {r : Option IVal × St × DLog} (hr : stepD a o s = some r) : stepD b o s = some r := by
 unfold stepD at hr ⊢;split at hr
 . split at hr
   . rename_i hn;rw [if_pos hn];split at hr
     . split at hr
       . rename_i hs; rw [yy h hs]; exact hr
       . rename_i hs; rw [yy h hs]; exact hr
       . cases hr
     . cases hr
   . cases hr
 . exact hr
 . cases hr
theorem Jz {a b : jD} (h : jcW a b) : ∀ {l : List (Nat × IOper)} {s : St} {r : Option (IVal × List (Nat × Bool)) × St × List (Nat × DLog)}, runDraw a l s = some r -> runDraw b l s = some r := by
 intro l
 induction l with
 | nil => intro s r hr; exact hr
 | cons o l ih =>
   intro s r hr;simp only [runDraw] at hr ⊢;split at hr
   . rename_i hs;rw [Vq h hs];simp only;split at hr
     . rename_i hl; rw [ih hl]; exact hr
     . cases hr
   . rename_i hs;rw [Vq h hs];exact hr
   . cases hr
theorem jcm {a b : ICode -> St -> Option (IExit × St)} (h : jc3 a b) {id : Nat} {args : List IVal} {σ : List IObj} {o : Out} (ho : JL a id args σ = some o) : JL b id args σ = some o := by
 unfold JL at ho ⊢;split at ho
 . split at ho
   . split at ho
     . rename_i e;rw [h _ _ _ e];simp only;split at ho
       . split at ho
         . split at ho
           . rename_i e2; rw [h _ _ _ e2]; exact ho
           . cases ho
         . cases ho
       . cases ho
     . cases ho
   . cases ho
 . cases ho
theorem ja0 {F : jn} {n m : Nat} (h : jc3 (eval F n) (eval F m)) : jcW (vo F n) (vo F m) := by
 intro f args σ o ho
 cases f with
 | f f =>
   simp only [vo] at ho ⊢;split at ho
   . exact QR h ho
   . cases ho
 | y id => exact jcm h ho
theorem V3 {a b : ICode -> St -> Option (IExit × St)} (h : jc3 a b) {d : DInfo} {c : ICode} {args : List IVal} {x : IExit} {s : St} {r : IExit × St} (hr : yp a d c args x s = some r) : yp b d c args x s = some r := by
 unfold yp at hr ⊢;split at hr
 . rename_i h1 h2;unfold Qq at hr ⊢;split at hr
   . rename_i e; rw [h _ _ _ e]; exact hr
   . cases hr
 . cases hr
def jdj (ev : ICode -> St -> Option (IExit × St)) (cf : jD) (l : List IOper) (x : Opd) (xs : List Opd) (d : DInfo) (c b : ICode) (s : St) : Option (IExit × St) :=
 match runOps cf l s with
 | some (.normal, s1) => match x.get s1.ts with
   | some (.fn (.func g) us ws, ts1) => match getAll xs ts1 with
     | some (vs, ts2) => if g = d.g /\ vs.all nt = true /\ ts2.ds = [] then
         match ev b { s1 with ts := ts2 } with
         | some (x, s2) => yp ev d c (us ++ vs.map un2 ++ ws) x s2
         | none => none
       else none
     | none => none
   | _ => none
 | _ => none
theorem jdu {F : jn} {n : Nat} {l : List IOper} {x : Opd} {xs : List Opd} {d : DInfo} {c b : ICode} {s : St} : eval F (n + 1) (.dfr l x xs d c b) s = jdj (eval F n) (vo F n) l x xs d c b s := rfl
theorem ja7 {a b : ICode -> St -> Option (IExit × St)} {ca cb : jD} (h : jc3 a b) (hc : jcW ca cb) {l : List IOper} {x : Opd} {xs : List Opd} {d : DInfo} {c e : ICode} {s : St} {r : IExit × St} (hr : jdj a ca l x xs d c e s = some r) : jdj b cb l x xs d c e s = some r := by
 unfold jdj at hr ⊢;split at hr
 . rename_i e1;rw [yw hc e1];simp only;split at hr
   . split at hr
     . split at hr
       . rename_i hif;rw [if_pos hif];split at hr
         . rename_i e2; rw [h _ _ _ e2]; exact V3 h hr
         . cases hr
       . cases hr
     . cases hr
   . cases hr
 . cases hr
theorem jbg (F : jn) : ∀ n, jc3 (eval F n) (eval F (n + 1)) := by
 intro n
 induction n with
 | zero => intro c s r h; simp [eval] at h
 | succ n ih =>
   have hcf := ja0 ih;intro c s r h
   cases c with
   | stuck => simp [eval] at h
   | skip => simpa [eval] using h
   | label l => simpa [eval] using h
   | exit id => simpa [eval] using h
   | goto l => simpa [eval] using h
   | ret => simpa [eval] using h
   | ops l =>
     have h' : runOps (vo F n) l s = some r := h;show runOps (vo F (n + 1)) l s = some r;exact yw hcf h'
   | draw l pairs =>
     have h' : (match runDraw (vo F n) l s with
       | some (q, s', log) => if pairsOK pairs log then drawEnd l q s' else none
       | none => none) = some r := h
     show (match runDraw (vo F (n + 1)) l s with
       | some (q, s', log) => if pairsOK pairs log then drawEnd l q s' else none
       | none => none) = some r
     split at h'
     . rename_i e; rw [Jz hcf e]; exact h'
     . cases h'
   | seq a b =>
     rw [eval] at h ⊢;split at h
     . rename_i e; rw [ih _ _ _ e]; exact ih _ _ _ h
     . rename_i hne;have e := ih _ _ _ h;rw [e];split
       . rename_i hr; exact absurd (by rw [<- hr]; exact h) (hne _)
       . rfl
   | cond x a b =>
     rw [eval] at h ⊢;split at h
     . exact ih _ _ _ h
     . exact ih _ _ _ h
     . cases h
   | block id b =>
     rw [eval] at h ⊢;split at h
     . rename_i e; rw [ih _ _ _ e]; exact h
     . rename_i hne;have e := ih _ _ _ h;rw [e];split
       . rename_i hr; exact absurd (by rw [<- hr]; exact h) (hne _ _)
       . rfl
   | loop b =>
     rw [eval] at h ⊢;split at h
     . rename_i e; rw [ih _ _ _ e]; exact ih _ _ _ h
     . rename_i hne;have e := ih _ _ _ h;rw [e];split
       . rename_i hr; exact absurd (by rw [<- hr]; exact h) (hne _)
       . rfl
   | scope b =>
     rw [eval] at h ⊢;split at h
     . cases h
     . rename_i hne;have e := ih _ _ _ h;rw [e];split
       . rename_i hr; exact absurd (by rw [<- hr]; exact h) (hne _ _)
       . rfl
   | dfr l x xs d c b => rw [jdu] at h ⊢; exact ja7 ih hcf h
   | lib p => simp [eval] at h
   | rangeF x ps a b =>
     cases hx : x.get s.ts with
     | none => simp [eval, hx] at h
     | some p =>
       obtain ⟨y, t⟩ := p
       cases y with
       | fn gf us ws =>
         cases gf with
         | func g =>
           cases hF : F g with
           | none => simp [eval, hx, hF] at h
           | some fn =>
             cases hc : callI (eval F n) fn (us ++ [.yl (s.σ.length + 1)] ++ ws) (s.σ ++ [.defr, .loop ⟨0, { s.ts with t := s.ts.t.un, ds := [] }, ps, a, b, none, .none⟩]) with
             | none =>
               simp only [eval, hx, hF, hc] at h;cases h
             | some o =>
               have hc' := QR ih hc;simp only [eval, hx, hF, hc] at h;rw [eval];simp only [hx, hF, hc'];exact h
         | _ => simp [eval, hx] at h
       | _ => simp [eval, hx] at h
theorem ka (F : jn) {n m : Nat} (h : n <= m) : jc3 (eval F n) (eval F m) := by
 induction h with
 | refl => exact fun _ _ _ h => h
 | step _ ih => exact fun c s r hr => jbg F _ c s r (ih c s r hr)
def Ev (F : jn) (c : ICode) (s : St) (Q : IExit -> St -> Prop) : Prop := ∃ n x s', eval F n c s = some (x, s') /\ Q x s'
variable {F : jn} {c a b : ICode} {s : St} {Q : IExit -> St -> Prop}
theorem Ev.mono {Q' : IExit -> St -> Prop} (h : Ev F c s Q) (hq : ∀ x s', Q x s' -> Q' x s') : Ev F c s Q' :=
 let ⟨n, x, s', h1, h2⟩ := h
 ⟨n, x, s', h1, hq _ _ h2⟩
theorem Ev.skip (h : Q .normal s) : Ev F .skip s Q := ⟨1, _, _, rfl, h⟩
theorem Ev.ret (h : Q .ret s) : Ev F .ret s Q := ⟨1, _, _, rfl, h⟩
theorem Ev.exit {id : Nat} (h : Q (.exit id) s) : Ev F (.exit id) s Q := ⟨1, _, _, rfl, h⟩
theorem Ev.seq (h : Ev F a s fun x s' => match x with
   | .normal => Ev F b s' Q
   | x => Q x s') : Ev F (.seq a b) s Q := by
 obtain ⟨n, x, s', h1, h2⟩ := h
 cases x with
 | normal =>
   obtain ⟨m, y, s2, h3, h4⟩ := h2;refine ⟨max n m + 1, y, s2, ?_, h4⟩;rw [eval, ka F (Nat.le_max_left n m) _ _ _ h1];exact ka F (Nat.le_max_right n m) _ _ _ h3
 | _ => exact ⟨n + 1, _, s', by rw [eval, h1], h2⟩
theorem Ev.cond {x : Opd} {v : Bool} {ts : Ts} (hx : x.get s.ts = some (.bool v, ts)) (h : Ev F (if v then a else b) s Q) : Ev F (.cond x a b) s Q := by
 obtain ⟨n, y, s', h1, h2⟩ := h;refine ⟨n + 1, y, s', ?_, h2⟩;rw [eval, hx];cases v <;> exact h1
theorem Ev.block {id : Nat} (h : Ev F c s fun x s' => match x with
   | .exit i => if i = id then Q .normal s' else Q (.exit i) s'
   | x => Q x s') : Ev F (.block id c) s Q := by
 obtain ⟨n, x, s', h1, h2⟩ := h
 cases x with
 | exit i =>
   by_cases e : i = id
   . exact ⟨n + 1, .normal, s', by rw [eval, h1]; simp [e], by simpa [e] using h2⟩
   . exact ⟨n + 1, .exit i, s', by rw [eval, h1]; simp [e], by simpa [e] using h2⟩
 | _ => exact ⟨n + 1, _, s', by rw [eval, h1], h2⟩
theorem Ev.loop {I : Nat -> St -> Prop} (hI : ∀ k s, I k s -> Ev F c s fun x s' => match x with
   | .normal => ∃ k', k' < k /\ I k' s'
   | x => Q x s') : ∀ k s, I k s -> Ev F (.loop c) s Q := by
 intro k
 induction k using Nat.strongRecOn with
 | _ k ih =>
   intro s hs;obtain ⟨n, x, s', h1, h2⟩ := hI k s hs
   cases x with
   | normal =>
     obtain ⟨k', hk, hi⟩ := h2;obtain ⟨m, y, s2, h3, h4⟩ := ih k' hk s' hi;refine ⟨max n m + 1, y, s2, ?_, h4⟩;rw [eval, ka F (Nat.le_max_left n m) _ _ _ h1];exact ka F (Nat.le_max_right n m) _ _ _ h3
   | _ => exact ⟨n + 1, _, s', by rw [eval, h1], h2⟩
end Go.Idl
namespace Go.Idl
open Classical in
noncomputable def evw (F : jn) (c : ICode) (s : St) : Option (IExit × St) :=
 if h : ∃ r n, eval F n c s = some r then some (Classical.choose h) else none
open Classical in
noncomputable def cfw (F : jn) : jD := fun f args σ =>
 if h : ∃ o n, vo F n f args σ = some o then some (Classical.choose h) else none
variable {F : jn}
theorem evw_iff {c : ICode} {s : St} {r : IExit × St} : evw F c s = some r ↔ ∃ n, eval F n c s = some r := by
 unfold evw;split
 . rename_i h;obtain ⟨n, hn⟩ := Classical.choose_spec h
   constructor
   . intro e; cases e; exact ⟨n, hn⟩
   . rintro ⟨m, hm⟩;have h1 := ka F (Nat.le_max_left n m) _ _ _ hn;have h2 := ka F (Nat.le_max_right n m) _ _ _ hm;rw [h1] at h2; exact h2
 . rename_i h
   constructor
   . intro e; cases e
   . rintro ⟨n, hn⟩; exact absurd ⟨r, n, hn⟩ h
theorem qM {n m : Nat} (h : n <= m) : jcW (vo F n) (vo F m) := ja0 (ka F h)
theorem cfw_iff {f : Cal} {args : List IVal} {σ : List IObj} {o : Out} : cfw F f args σ = some o ↔ ∃ n, vo F n f args σ = some o := by
 unfold cfw;split
 . rename_i h;obtain ⟨n, hn⟩ := Classical.choose_spec h
   constructor
   . intro e; cases e; exact ⟨n, hn⟩
   . rintro ⟨m, hm⟩;have h1 := qM (Nat.le_max_left n m) _ _ _ _ hn;have h2 := qM (Nat.le_max_right n m) _ _ _ _ hm;rw [h1] at h2; exact h2
 . rename_i h
   constructor
   . intro e; cases e
   . rintro ⟨n, hn⟩; exact absurd ⟨o, n, hn⟩ h
theorem jeV (n : Nat) : jc3 (eval F n) (evw F) := fun _ _ _ h => evw_iff.2 ⟨n, h⟩
theorem jhW (n : Nat) : jcW (vo F n) (cfw F) := fun _ _ _ _ h => cfw_iff.2 ⟨n, h⟩
def evG (ev : ICode -> St -> Option (IExit × St)) (cf : jD) (c : ICode) (s : St) : Option (IExit × St) :=
 match c with
 | .stuck => none
 | .skip => some (.normal, s)
 | .label _ => some (.normal, s)
 | .exit id => some (.exit id, s)
 | .goto l => some (.goto l, s)
 | .ret => some (.ret, s)
 | .ops l => runOps cf l s
 | .draw l pairs => match runDraw cf l s with
   | some (q, s', log) => if pairsOK pairs log then drawEnd l q s' else none
   | none => none
 | .seq a b => match ev a s with
   | some (.normal, s') => ev b s'
   | r => r
 | .cond x a b => match x.get s.ts with
   | some (.bool true, _) => ev a s
   | some (.bool false, _) => ev b s
   | _ => none
 | .block id b => match ev b s with
   | some (.exit i, s') => if i = id then some (.normal, s') else some (.exit i, s')
   | r => r
 | .loop b => match ev b s with
   | some (.normal, s') => ev (.loop b) s'
   | r => r
 | .scope b => match ev b s with
   | some (.goto _, _) => none
   | r => r
 | .rangeF x ps a b => match x.get s.ts with
   | some (.fn (.func g) us ws, _) =>
     let k := s.σ.length
     match cf (.f g) (us ++ [.yl (k + 1)] ++ ws) (s.σ ++ [.defr, .loop ⟨0, { s.ts with t := s.ts.t.un, ds := [] }, ps, a, b, none, .none⟩]) with
     | some ⟨false, _, σ', wr'⟩ => match σ'[k + 1]? with
       | some (.loop l) => if l.st = 1 then none else
         let s' : St := { ts := { s.ts with ds := k :: s.ts.ds }, σ := σ'.set (k + 1) .dead, wr := (k + 1, false) :: (wr' ++ s.wr) }
         match l.pend with
         | none => some (.normal, s')
         | some x => if V0 x then some (x, s') else none
       | _ => none
     | _ => none
   | _ => none
 | .dfr l x xs d c b => jdj ev cf l x xs d c b s
 | .lib _ => none
theorem VJ (n : Nat) (c : ICode) (s : St) : eval F (n + 1) c s = evG (eval F n) (vo F n) c s := by
 cases c <;> rfl
theorem jh6 {a b : ICode -> St -> Option (IExit × St)} {ca cb : jD} (h : jc3 a b) (hc : jcW ca cb) {c : ICode} {s : St} {r : IExit × St} (hr : evG a ca c s = some r) : evG b cb c s = some r := by
 cases c with
 | ops l => exact yw hc hr
 | draw l pairs =>
   simp only [evG] at hr ⊢;split at hr
   . rename_i e; rw [Jz hc e]; exact hr
   . cases hr
 | seq x y =>
   simp only [evG] at hr ⊢;split at hr
   . rename_i e; rw [h _ _ _ e]; exact h _ _ _ hr
   . rename_i hne;rw [h _ _ _ hr];split
     . rename_i e; exact absurd (by rw [<- e]; exact hr) (hne _)
     . rfl
 | cond x y z =>
   simp only [evG] at hr ⊢;split at hr
   . exact h _ _ _ hr
   . exact h _ _ _ hr
   . cases hr
 | block id y =>
   simp only [evG] at hr ⊢;split at hr
   . rename_i e; rw [h _ _ _ e]; exact hr
   . rename_i hne;rw [h _ _ _ hr];split
     . rename_i e; exact absurd (by rw [<- e]; exact hr) (hne _ _)
     . rfl
 | loop y =>
   simp only [evG] at hr ⊢;split at hr
   . rename_i e; rw [h _ _ _ e]; exact h _ _ _ hr
   . rename_i hne;rw [h _ _ _ hr];split
     . rename_i e; exact absurd (by rw [<- e]; exact hr) (hne _)
     . rfl
 | scope y =>
   simp only [evG] at hr ⊢;split at hr
   . cases hr
   . rename_i hne;rw [h _ _ _ hr];split
     . rename_i e; exact absurd (by rw [<- e]; exact hr) (hne _ _)
     . rfl
 | rangeF x ps y z =>
   simp only [evG] at hr ⊢;split at hr
   . split at hr
     . rename_i e; rw [hc _ _ _ _ e]; exact hr
     . cases hr
   . cases hr
 | dfr l x xs d c b => exact ja7 h hc hr
 | _ => exact hr
theorem vX {o : IOp} {s : St} {r : Res} (h : stepOp (cfw F) o s = some r) : ∃ n, stepOp (vo F n) o s = some r := by
 have hcall : ∀ {f vs ts} , stepCall (cfw F) f vs ts s = some r -> ∃ n, stepCall (vo F n) f vs ts s = some r := by
   intro f vs ts h;unfold stepCall at h;split at h
   . rename_i o ho;obtain ⟨n, hn⟩ := cfw_iff.1 ho;exact ⟨n, by unfold stepCall; rw [hn]; exact h⟩
   . cases h
 cases o
 case call f xs =>
   simp only [stepOp] at h ⊢;split at h
   . exact hcall h
   . cases h
 case callp f xs =>
   simp only [stepOp] at h ⊢;split at h
   . split at h
     . rename_i hn;split at h
       . rename_i ho;obtain ⟨n, hn'⟩ := cfw_iff.1 ho;exact ⟨n, by rw [if_pos hn, hn']; exact h⟩
       . cases h
     . cases h
   . cases h
 case callv f xs =>
   simp only [stepOp] at h ⊢;split at h
   . split at h
     . exact hcall h
     . cases h
   . split at h
     . exact hcall h
     . cases h
   . cases h
 case inv tab x xs =>
   simp only [stepOp] at h ⊢;split at h
   . split at h
     . split at h
       . split at h
         . exact hcall h
         . cases h
       . cases h
     . cases h
   . cases h
 all_goals exact ⟨0, h⟩
theorem KN : ∀ {l : List IOper} {s : St} {r : IExit × St}, runOps (cfw F) l s = some r -> ∃ n, runOps (vo F n) l s = some r := by
 intro l
 induction l with
 | nil => intro s r h; exact ⟨0, h⟩
 | cons o l ih =>
   intro s r h;simp only [runOps] at h ⊢;split at h
   . split at h
     . rename_i hs;obtain ⟨n, hn⟩ := vX hs;obtain ⟨m, hm⟩ := ih h;refine ⟨max n m, ?_⟩;rw [yy (qM (Nat.le_max_left n m)) hn];exact yw (qM (Nat.le_max_right n m)) hm
     . rename_i hs;obtain ⟨n, hn⟩ := vX hs;exact ⟨n, by rw [hn]; exact h⟩
     . cases h
   . exact ih h
   . cases h
theorem QG {o : IOper} {s : St} {r : Option IVal × St × DLog} (h : stepD (cfw F) o s = some r) : ∃ n, stepD (vo F n) o s = some r := by
 unfold stepD at h;split at h
 . rename_i hw;split at h
   . rename_i hno;split at h
     . rename_i hg;split at h
       . rename_i hs;obtain ⟨n, hn⟩ := vX hs;refine ⟨n, ?_⟩;unfold stepD;rw [hw];simp only;rw [if_pos hno, hg];simp only;rw [hn];exact h
       . rename_i hs;obtain ⟨n, hn⟩ := vX hs;refine ⟨n, ?_⟩;unfold stepD;rw [hw];simp only;rw [if_pos hno, hg];simp only;rw [hn];exact h
       . cases h
     . cases h
   . cases h
 . rename_i hw; exact ⟨0, by unfold stepD; rw [hw]; exact h⟩
 . cases h
theorem Xf : ∀ {l : List (Nat × IOper)} {s : St} {r : Option (IVal × List (Nat × Bool)) × St × List (Nat × DLog)}, runDraw (cfw F) l s = some r -> ∃ n, runDraw (vo F n) l s = some r := by
 intro l
 induction l with
 | nil => intro s r h; exact ⟨0, h⟩
 | cons o l ih =>
   intro s r h;simp only [runDraw] at h ⊢;split at h
   . rename_i hs;obtain ⟨n, hn⟩ := QG hs;split at h
     . rename_i hl;obtain ⟨m, hm⟩ := ih hl;refine ⟨max n m, ?_⟩;rw [Vq (qM (Nat.le_max_left n m)) hn];simp only;rw [Jz (qM (Nat.le_max_right n m)) hm];exact h
     . cases h
   . rename_i hs;obtain ⟨n, hn⟩ := QG hs;exact ⟨n, by rw [hn]; exact h⟩
   . cases h
theorem ZV {fn : IFunc} {args : List IVal} {σ : List IObj} {o : Out} (h : callI (evw F) fn args σ = some o) : ∃ n, callI (eval F n) fn args σ = some o := by
 unfold callI at h ⊢;split at h
 . exact ⟨0, h⟩
 split at h
 . rename_i e; obtain ⟨n, hn⟩ := evw_iff.1 e; exact ⟨n, by rw [hn]; exact h⟩
 . rename_i e; obtain ⟨n, hn⟩ := evw_iff.1 e; exact ⟨n, by rw [hn]; exact h⟩
 . rename_i e; obtain ⟨n, hn⟩ := evw_iff.1 e; exact ⟨n, by rw [hn]; exact h⟩
 . cases h
theorem Yd {d : DInfo} {c : ICode} {args : List IVal} {x : IExit} {s : St} {r : IExit × St} (h : yp (evw F) d c args x s = some r) : ∃ n, yp (eval F n) d c args x s = some r := by
 unfold yp at h ⊢;split at h
 . rename_i h1 h2;unfold Qq at h ⊢;split at h
   . rename_i e; obtain ⟨n, hn⟩ := evw_iff.1 e; exact ⟨n, by simp only [hn]; exact h⟩
   . cases h
 . cases h
theorem ja6 {l : List IOper} {x : Opd} {xs : List Opd} {d : DInfo} {c b : ICode} {s : St} {r : IExit × St} (h : jdj (evw F) (cfw F) l x xs d c b s = some r) : ∃ n, jdj (eval F n) (vo F n) l x xs d c b s = some r := by
 unfold jdj at h;split at h
 . rename_i e1;split at h
   . rename_i e2;split at h
     . rename_i e3;split at h
       . rename_i hif;split at h
         . rename_i e4;obtain ⟨n1, h1⟩ := KN e1;obtain ⟨n2, h2⟩ := evw_iff.1 e4;obtain ⟨n3, h3⟩ := Yd h;refine ⟨max n1 (max n2 n3), ?_⟩;unfold jdj;rw [yw (qM (Nat.le_max_left _ _)) h1];simp only [e2, e3];rw [if_pos hif, ka F (Nat.le_trans (Nat.le_max_left n2 n3) (Nat.le_max_right _ _)) _ _ _ h2];exact V3 (ka F (Nat.le_trans (Nat.le_max_right n2 n3) (Nat.le_max_right _ _))) h3
         . cases h
       . cases h
     . cases h
   . cases h
 . cases h
theorem jds {c : ICode} {s : St} {r : IExit × St} (h : evG (evw F) (cfw F) c s = some r) : ∃ n, evG (eval F n) (vo F n) c s = some r := by
 cases c with
 | ops l => exact KN h
 | draw l pairs =>
   simp only [evG] at h ⊢;split at h
   . rename_i e; obtain ⟨n, hn⟩ := Xf e; exact ⟨n, by rw [hn]; exact h⟩
   . cases h
 | seq x y =>
   simp only [evG] at h ⊢;split at h
   . rename_i e;obtain ⟨n, hn⟩ := evw_iff.1 e;obtain ⟨m, hm⟩ := evw_iff.1 h;exact ⟨max n m, by rw [ka F (Nat.le_max_left n m) _ _ _ hn]; exact ka F (Nat.le_max_right n m) _ _ _ hm⟩
   . rename_i hne;obtain ⟨n, hn⟩ := evw_iff.1 h;refine ⟨n, ?_⟩;rw [hn];split
     . rename_i e; exact absurd (by rw [<- e]; exact h) (hne _)
     . rfl
 | cond x y z =>
   simp only [evG] at h ⊢;split at h
   . exact evw_iff.1 h
   . exact evw_iff.1 h
   . cases h
 | block id y =>
   simp only [evG] at h ⊢;split at h
   . rename_i e; obtain ⟨n, hn⟩ := evw_iff.1 e; exact ⟨n, by rw [hn]; exact h⟩
   . rename_i hne;obtain ⟨n, hn⟩ := evw_iff.1 h;refine ⟨n, ?_⟩;rw [hn];split
     . rename_i e; exact absurd (by rw [<- e]; exact h) (hne _ _)
     . rfl
 | loop y =>
   simp only [evG] at h ⊢;split at h
   . rename_i e;obtain ⟨n, hn⟩ := evw_iff.1 e;obtain ⟨m, hm⟩ := evw_iff.1 h;exact ⟨max n m, by rw [ka F (Nat.le_max_left n m) _ _ _ hn]; exact ka F (Nat.le_max_right n m) _ _ _ hm⟩
   . rename_i hne;obtain ⟨n, hn⟩ := evw_iff.1 h;refine ⟨n, ?_⟩;rw [hn];split
     . rename_i e; exact absurd (by rw [<- e]; exact h) (hne _)
     . rfl
 | scope y =>
   simp only [evG] at h ⊢;split at h
   . cases h
   . rename_i hne;obtain ⟨n, hn⟩ := evw_iff.1 h;refine ⟨n, ?_⟩;rw [hn];split
     . rename_i e; exact absurd (by rw [<- e]; exact h) (hne _ _)
     . rfl
 | dfr l x xs d c b => exact ja6 h
 | rangeF x ps y z =>
   simp only [evG] at h ⊢;split at h
   . split at h
     . rename_i e; obtain ⟨n, hn⟩ := cfw_iff.1 e; exact ⟨n, by rw [hn]; exact h⟩
     . cases h
   . cases h
 | _ => exact ⟨0, h⟩
theorem jb5 {α : Type} {a b : Option α} (h : ∀ r, a = some r ↔ b = some r) : a = b := by
 cases a with
 | none => cases b with
   | none => rfl
   | some y => exact ((h y).2 rfl)
 | some x => exact ((h x).1 rfl).symm
theorem yk (F : jn) (c : ICode) (s : St) : evw F c s = evG (evw F) (cfw F) c s := by
 refine jb5 fun r => ?_
 constructor
 . intro h;obtain ⟨n, hn⟩ := evw_iff.1 h
   cases n with
   | zero => simp [eval] at hn
   | succ n => rw [VJ] at hn; exact jh6 (jeV n) (jhW n) hn
 . intro h;obtain ⟨n, hn⟩ := jds h;exact evw_iff.2 ⟨n + 1, by rw [VJ]; exact hn⟩
theorem jhV (F : jn) (f : FuncId) (args : List IVal) (σ : List IObj) : cfw F (.f f) args σ = match F f with
   | some fn => callI (evw F) fn args σ
   | none => none := by
 refine jb5 fun r => ?_;rw [cfw_iff]
 constructor
 . rintro ⟨n, hn⟩;simp only [vo] at hn;split at hn
   . rename_i e; rw [e]; exact QR (jeV n) hn
   . cases hn
 . intro h;split at h
   . rename_i e;obtain ⟨n, hn⟩ := ZV h;exact ⟨n, by simp only [vo, e]; exact hn⟩
   . cases h
end Go.Idl
namespace Go.Idl.En
open Go.Idl
def Tm.ofF : Nat -> (Nat -> Option (Nat × IVal)) -> Tm
 | 0, _ => .leaf
 | n + 1, f => .node (Tm.ofF n fun k => f (2 * k + 1)) (f 0) (Tm.ofF n fun k => f (2 * k + 2))
def upd (f : Nat -> Option (Nat × IVal)) (k : Nat) (x : Option (Nat × IVal)) : Nat -> Option (Nat × IVal) := fun i => if i = k then x else f i
theorem Tm.ofF_get : ∀ (d k : Nat) (f : Nat -> Option (Nat × IVal)), k + 1 < 2 ^ d -> (Tm.ofF d f).get k = f k := by
 intro d
 induction d with
 | zero => intro k f h; simp at h
 | succ d ih =>
   intro k f h;simp only [Tm.ofF, Tm.get, Nat.beq_eq, cond_eq_ite];rw [Nat.pow_succ] at h;split
   . rename_i h1; subst h1; rfl
   . rename_i h1;split
     . rename_i h2;rw [ih _ _ (by omega)]; congr 1; omega
     . rename_i h2;rw [ih _ _ (by omega)]; congr 1; omega
theorem Tm.ofF_set : ∀ (d k : Nat) (f : Nat -> Option (Nat × IVal)) (x : Option (Nat × IVal)), (Tm.ofF d f).set x k = Tm.ofF d (upd f k x) := by
 intro d
 induction d with
 | zero => intro k f x; rfl
 | succ d ih =>
   intro k f x;simp only [Tm.ofF, Tm.set, cond_eq_ite];split
   . rename_i h1; simp at h1; subst h1;have e1 : (fun i => upd f 0 x (2 * i + 1)) = fun i => f (2 * i + 1) := by funext i; unfold upd; rw [if_neg (by omega)]
     have e2 : (fun i => upd f 0 x (2 * i + 2)) = fun i => f (2 * i + 2) := by funext i; unfold upd; rw [if_neg (by omega)]
     rw [e1, e2]; rfl
   . rename_i h1;simp at h1;split
     . rename_i h2; simp at h2;rw [ih]
       congr 1
       . congr 1; funext i; unfold upd
         have : (i = k / 2) ↔ (2 * i + 1 = k) := by omega
         simp [this]
       . unfold upd; rw [if_neg (by omega)]
       . congr 1; funext i; unfold upd; rw [if_neg (by omega)]
     . rename_i h2; simp at h2;rw [ih]
       congr 1
       . congr 1; funext i; unfold upd; rw [if_neg (by omega)]
       . unfold upd; rw [if_neg (by omega)]
       . congr 1; funext i; unfold upd
         have : (i = k / 2 - 1) ↔ (2 * i + 2 = k) := by omega
         simp [this]
theorem Tm.empty_ofF : ∀ d, Tm.empty d = Tm.ofF d fun _ => none := by
 intro d
 induction d with
 | zero => rfl
 | succ d ih => simp only [Tm.empty, Tm.ofF, ih]
theorem Tm.un_ofF : ∀ (d : Nat) (f : Nat -> Option (Nat × IVal)), (Tm.ofF d f).un = Tm.ofF d fun k => match f k with | some (i, v) => some (i, un3 v) | none => none := by
 intro d
 induction d with
 | zero => intro f; rfl
 | succ d ih => intro f; simp only [Tm.ofF, Tm.un, ih]; rfl
def E (nv m d : Nat) (ds : List Nat) (f : Nat -> Option (Nat × IVal)) : Ts := ⟨nv, m, Tm.ofF d f, ds⟩
def slotN (nv m j : Nat) : Nat := if j < nv then j else nv + (j - nv) % m
theorem jeK (nv m d : Nat) (ds : List Nat) (f : Nat -> Option (Nat × IVal)) (j : Nat) : (E nv m d ds f).slot j = slotN nv m j := by
 unfold Ts.slot slotN E;simp only [cond_eq_ite];have : (Nat.blt j nv = true) ↔ j < nv := by simp [Nat.blt, Nat.ble_eq, Nat.succ_le_iff]
 simp only [this]
def tag (j : Nat) : Option (Nat × IVal) -> Option IVal
 | some (i, v) => if i = j then some v else none
 | none => none
theorem E_get? {nv m d : Nat} {ds : List Nat} {f : Nat -> Option (Nat × IVal)} {j : Nat} (h : slotN nv m j + 1 < 2 ^ d) : (E nv m d ds f).get? j = tag j (f (slotN nv m j)) := by
 unfold Ts.get?;rw [jeK];simp only [E, Tm.ofF_get _ _ _ h]
 cases f (slotN nv m j) with
 | none => rfl
 | some p =>
   obtain ⟨i, v⟩ := p;simp only [tag, cond_eq_ite, Nat.beq_eq]
def ins (f : Nat -> Option (Nat × IVal)) (k : Nat) (x : Option (Nat × IVal)) : Nat -> Option (Nat × IVal) := upd f k x
def base (f : Nat -> Option (Nat × IVal)) : Nat -> Option (Nat × IVal) := f
theorem E_set (nv m d : Nat) (ds : List Nat) (f : Nat -> Option (Nat × IVal)) (j : Nat) (v : IVal) : (E nv m d ds f).set j v = E nv m d ds (ins f (slotN nv m j) (some (j, v))) := by
 unfold Ts.set;rw [jeK];simp only [E, Tm.ofF_set, ins]
theorem ins_base (f : Nat -> Option (Nat × IVal)) (k : Nat) (x : Option (Nat × IVal)) : ins (base f) k x = upd (base f) k x := rfl
theorem ins_eq (f : Nat -> Option (Nat × IVal)) (k : Nat) (x y : Option (Nat × IVal)) : ins (upd f k x) k y = upd f k y := by
 funext i; unfold ins upd; split <;> rfl
theorem ins_gt {f : Nat -> Option (Nat × IVal)} {k k' : Nat} {x y : Option (Nat × IVal)} (h : k < k') : ins (upd f k x) k' y = upd (upd f k x) k' y := rfl
theorem ins_lt {f : Nat -> Option (Nat × IVal)} {k k' : Nat} {x y : Option (Nat × IVal)} (h : k' < k) : ins (upd f k x) k' y = upd (ins f k' y) k x := by
 funext i; unfold ins upd
 by_cases h1 : i = k'
 . subst h1; rw [if_pos rfl, if_neg (by omega), if_pos rfl]
 . rw [if_neg h1, if_neg h1]
theorem upd_get (f : Nat -> Option (Nat × IVal)) (k : Nat) (x : Option (Nat × IVal)) (i : Nat) : upd f k x i = if i = k then x else f i := rfl
variable (F : jn)
theorem evw_skip (s : St) : evw F .skip s = some (.normal, s) := yk F _ s
theorem evw_label (l : Nat) (s : St) : evw F (.label l) s = some (.normal, s) := yk F _ s
theorem evw_exit (i : Nat) (s : St) : evw F (.exit i) s = some (.exit i, s) := yk F _ s
theorem evw_ret (s : St) : evw F .ret s = some (.ret, s) := yk F _ s
theorem evw_ops (l : List IOper) (s : St) : evw F (.ops l) s = runOps (cfw F) l s := yk F _ s
theorem evw_seq (a b : ICode) (s : St) : evw F (.seq a b) s = match evw F a s with
   | some (.normal, s') => evw F b s'
   | r => r := yk F _ s
theorem evw_block (i : Nat) (b : ICode) (s : St) : evw F (.block i b) s = match evw F b s with
   | some (.exit j, s') => if j = i then some (.normal, s') else some (.exit j, s')
   | r => r := yk F _ s
theorem jc (b : ICode) (s : St) : evw F (.loop b) s = match evw F b s with
   | some (.normal, s') => evw F (.loop b) s'
   | r => r := yk F _ s
theorem evw_scope (b : ICode) (s : St) : evw F (.scope b) s = match evw F b s with
   | some (.goto _, _) => none
   | r => r := yk F _ s
theorem evw_cond (x : Opd) (a b : ICode) (s : St) : evw F (.cond x a b) s = match x.get s.ts with
   | some (.bool true, _) => evw F a s
   | some (.bool false, _) => evw F b s
   | _ => none := yk F _ s
theorem evw_draw (l : List (Nat × IOper)) (ps : List (Nat × Nat)) (s : St) : evw F (.draw l ps) s = match runDraw (cfw F) l s with
   | some (q, s', log) => if pairsOK ps log then drawEnd l q s' else none
   | none => none := yk F _ s
theorem un1_int (k : IntKind) (n : Int) : un1 (.int k n) = .int k n := rfl
theorem un1_bool (b : Bool) : un1 (.bool b) = .bool b := rfl
theorem un1_str (s : List UInt8) : un1 (.str s) = .str s := rfl
theorem un1_rs (a b c d : Nat) : un1 (.rs a b c d) = .rs a b c d := rfl
theorem un1_ptr (a b : Nat) : un1 (.ptr a b) = .ptr a b := rfl
theorem un1_sl (a : Nat) (r : Bool) (xs : List IVal) : un1 (.sl a r xs) = .sl 0 r xs := rfl
theorem un2_int (k : IntKind) (n : Int) : un2 (.int k n) = .int k n := rfl
theorem un2_bool (b : Bool) : un2 (.bool b) = .bool b := rfl
theorem un2_str (s : List UInt8) : un2 (.str s) = .str s := rfl
theorem un2_rs (a b c d : Nat) : un2 (.rs a b c d) = .rs a b c d := rfl
theorem un2_ptr (a b : Nat) : un2 (.ptr a b) = .ptr a b := rfl
theorem un2_sl (a : Nat) (r : Bool) (xs : List IVal) : un2 (.sl a r xs) = .sl 0 r xs := rfl
theorem un3_int (k : IntKind) (n : Int) : un3 (.int k n) = .int k n := rfl
theorem un3_bool (b : Bool) : un3 (.bool b) = .bool b := rfl
theorem un3_str (s : List UInt8) : un3 (.str s) = .str s := rfl
theorem un3_rs (a b c d : Nat) : un3 (.rs a b c d) = .rs a b c d := rfl
theorem un3_ptr (a b : Nat) : un3 (.ptr a b) = .ptr a b := rfl
theorem un3_map (a : Nat) : un3 (.map a) = .map a := rfl
theorem un3_yl (a : Nat) : un3 (.yl a) = .yl a := rfl
theorem un3_iface (t : TypeId) (v : IVal) : un3 (.iface t v) = .iface t v := rfl
theorem un3_prim (v : Value) : un3 (.prim v) = .prim v := rfl
theorem un3_fn (f : Fn) (xs ys : List IVal) : un3 (.fn f xs ys) = .fn f xs ys := rfl
theorem un3_sl (a : Nat) (r : Bool) (xs : List IVal) : un3 (.sl a r xs) = .sl 0 r xs := rfl
theorem un3_pv (r : Bool) (cs : List IVal) (o : Nat) : un3 (.pv r cs o) = .pv r cs o := rfl
theorem un3_agg (xs : List IVal) : un3 (.agg xs) = .agg (xs.map un1) := rfl
theorem un3_tup (xs : List IVal) : un3 (.tup xs) = .tup (xs.map un2) := rfl
theorem jj (fn : IFunc) {f : FuncId} {F : jn} {args : List IVal} {σ : List IObj} (h : F f = some fn) : cfw F (.f f) args σ = callI (evw F) fn args σ := by rw [jhV, h]
theorem entry_E (nv m d : Nat) : Ts.mk nv m (Tm.empty d) [] = E nv m d [] (base fun _ => none) := by rw [Tm.empty_ofF]; rfl
theorem bft : (false == true) = false := rfl
theorem btf : (true == false) = false := rfl
theorem c0 : ((0 : Nat) : Int) = 0 := rfl
theorem c1 : ((1 : Nat) : Int) = 1 := rfl
theorem E_ds (nv m d : Nat) (ds : List Nat) (f : Nat -> Option (Nat × IVal)) : (E nv m d ds f).ds = ds := rfl
theorem nt_int (k : IntKind) (n : Int) : nt (.int k n) = (true) := rfl
theorem nt_bool (b : Bool) : nt (.bool b) = (true) := rfl
theorem nt_str (s : List UInt8) : nt (.str s) = (true) := rfl
theorem nt_rs (a b c d : Nat) : nt (.rs a b c d) = (true) := rfl
theorem nt_ptr (a b : Nat) : nt (.ptr a b) = (true) := rfl
theorem nt_sl (a : Nat) (b : Bool) (xs : List IVal) : nt (.sl a b xs) = (true) := rfl
theorem nt_agg (xs : List IVal) : nt (.agg xs) = (true) := rfl
theorem nr3_int (k : IntKind) (n : Int) : nr3 (.int k n) = (true) := rfl
theorem nr3_bool (b : Bool) : nr3 (.bool b) = (true) := rfl
theorem nr3_str (s : List UInt8) : nr3 (.str s) = (true) := rfl
theorem nr3_rs (a b c d : Nat) : nr3 (.rs a b c d) = (false) := rfl
theorem nr3_ptr (a b : Nat) : nr3 (.ptr a b) = (false) := rfl
theorem nr3_sl (a : Nat) (b : Bool) (xs : List IVal) : nr3 (.sl a b xs) = (!b || xs.isEmpty) := rfl
theorem nr3_tup (xs : List IVal) : nr3 (.tup xs) = (xs.all nr2) := rfl
theorem nr3_agg (xs : List IVal) : nr3 (.agg xs) = (xs.all nr1) := rfl
theorem nr2_int (k : IntKind) (n : Int) : nr2 (.int k n) = (true) := rfl
theorem nr2_bool (b : Bool) : nr2 (.bool b) = (true) := rfl
theorem nr2_str (s : List UInt8) : nr2 (.str s) = (true) := rfl
theorem nr2_rs (a b c d : Nat) : nr2 (.rs a b c d) = (false) := rfl
theorem nr2_ptr (a b : Nat) : nr2 (.ptr a b) = (false) := rfl
theorem nr2_sl (a : Nat) (b : Bool) (xs : List IVal) : nr2 (.sl a b xs) = (!b || xs.isEmpty) := rfl
theorem cells_int (k : IntKind) (n : Int) : IVal.cells (.int k n) = [.int k n] := rfl
theorem isCell_int (k : IntKind) (n : Int) : IVal.isCell (.int k n) = true := rfl
theorem nr1_int (k : IntKind) (n : Int) : nr1 (.int k n) = true := rfl
theorem cells_bool (b : Bool) : IVal.cells (.bool b) = [.bool b] := rfl
theorem isCell_bool (b : Bool) : IVal.isCell (.bool b) = true := rfl
theorem nr1_bool (b : Bool) : nr1 (.bool b) = true := rfl
theorem cells_str (s : List UInt8) : IVal.cells (.str s) = [.str s] := rfl
theorem isCell_str (s : List UInt8) : IVal.isCell (.str s) = true := rfl
theorem nr1_str (s : List UInt8) : nr1 (.str s) = true := rfl
theorem cells_rs (a b c d : Nat) : IVal.cells (.rs a b c d) = [.rs a b c d] := rfl
theorem isCell_rs (a b c d : Nat) : IVal.isCell (.rs a b c d) = true := rfl
theorem nr1_rs (a b c d : Nat) : nr1 (.rs a b c d) = false := rfl
theorem cells_ptr (a b : Nat) : IVal.cells (.ptr a b) = [.ptr a b] := rfl
theorem isCell_ptr (a b : Nat) : IVal.isCell (.ptr a b) = true := rfl
theorem nr1_ptr (a b : Nat) : nr1 (.ptr a b) = false := rfl
theorem cells_sl (a : Nat) (b : Bool) (xs : List IVal) : IVal.cells (.sl a b xs) = [.sl a b xs] := rfl
theorem isCell_sl (a : Nat) (b : Bool) (xs : List IVal) : IVal.isCell (.sl a b xs) = true := rfl
theorem nr1_sl (a : Nat) (b : Bool) (xs : List IVal) : nr1 (.sl a b xs) = (!b || xs.isEmpty) := rfl
theorem base_get (f : Nat -> Option (Nat × IVal)) (i : Nat) : base f i = f i := rfl
def KeepT (l : List Nat) (f f' : Nat -> Option (Nat × IVal)) : Prop := ∀ i ∈ l, f' i = f i
theorem KeepT.refl (l : List Nat) (f : Nat -> Option (Nat × IVal)) : KeepT l f f := fun _ _ => rfl
theorem KeepT.upd {l : List Nat} {f f' : Nat -> Option (Nat × IVal)} {k : Nat} {x : Option (Nat × IVal)} (hk : k ∉ l) (h : KeepT l f f') : KeepT l f (Go.Idl.En.upd f' k x) := by
 intro i hi;unfold Go.Idl.En.upd;have hne : i ≠ k := fun e => hk (by rw [<- e]; exact hi);rw [if_neg hne];exact h i hi
theorem KeepT.base {l : List Nat} {f f' : Nat -> Option (Nat × IVal)} (h : KeepT l f f') : KeepT l f (Go.Idl.En.base f') := h
theorem KeepT.trans {l : List Nat} {f g h : Nat -> Option (Nat × IVal)} (a : KeepT l f g) (b : KeepT l g h) : KeepT l f h := fun i hi => (b i hi).trans (a i hi)
theorem KeepT.sub {l l' : List Nat} {f g : Nat -> Option (Nat × IVal)} (a : KeepT l f g) (h : (l'.all fun i => l.contains i) = true) : KeepT l' f g := fun i hi => a i (by
 have := List.all_eq_true.1 h i hi;simpa using this)
def AllW (id : Nat) (wr : List (Nat × Bool)) : Prop := ∀ p ∈ wr, p = (id, false)
theorem AllW.nil (id : Nat) : AllW id [] := fun _ h => by cases h
theorem AllW.cons {id : Nat} {wr : List (Nat × Bool)} (h : AllW id wr) : AllW id ((id, false) :: wr) := fun p hp => by
 rcases List.mem_cons.1 hp with rfl | hp
 . rfl
 . exact h p hp
theorem AllW.append {id : Nat} {a b : List (Nat × Bool)} (h : AllW id a) (h2 : AllW id b) : AllW id (a ++ b) := fun p hp => by
 rcases List.mem_append.1 hp with hp | hp
 . exact h p hp
 . exact h2 p hp
theorem AllW.all {id n : Nat} {wr : List (Nat × Bool)} (h : AllW id wr) : (wr.all fun p => !p.2 || decide (n <= p.1)) = true := List.all_eq_true.2 fun p hp => by rw [h p hp]; rfl
theorem AllW.filter {id : Nat} {wr : List (Nat × Bool)} (h : AllW id wr) : wr.filter (fun p => decide (p.1 < id)) = [] := List.filter_eq_nil_iff.2 fun p hp => by rw [h p hp]; simp
end Go.Idl.En
namespace Go.Idl
open Go.RowKit (Below)
open Go.ChangeShapes
theorem Jh {H : Type} {enc : TypeId × Value -> H} {P : Program} (hl : laidOutB P = true) {W W' : World} (hb : Below W.heap.size W W') :
   ∀ {ts : List TypeId} {vs : List Value} {ds : List (DataW H)} {ps : List MemPlace}, (ts.all fun t => P.readableRec t && decide (t < P.types.size)) = true -> DataW.TrodAll enc P W 0 (fun _ => true) true ts vs ds ps -> (∀ x ∈ ps, x.block < W.heap.size) ->
     DataW.TrodAll enc P W' 0 (fun b => decide (b < W.heap.size)) true ts vs ds ps
 | [], [], [], _, _, h, _ => h
 | t :: ts, v :: vs, d :: ds, ps, hr, h, hlt => by
   obtain ⟨p, q, h1, h2, rfl⟩ := h;rw [tN, zA, zA, decide_eq_true_eq] at hr;exact ⟨p, q, Go.RowKit.Below.trod hl hr.1.1 hr.1.2 h1 hb (fun x hx => hlt x (by simp [hx])), Jh hl hb hr.2 h2 (fun x hx => hlt x (by simp [hx])), rfl⟩
 | [], _ :: _, _, _, _, h, _ => h.elim
 | [], [], _ :: _, _, _, h, _ => h.elim
 | _ :: _, [], _, _, _, h, _ => h.elim
 | _ :: _, _ :: _, [], _, _, h, _ => h.elim
theorem jdN {H : Type} {enc : TypeId × Value -> H} {P : Program} (hl : laidOutB P = true) {s : ChangeSpec} {f : Func} {fresh : Bool} {W W' : World} {args : Array Value} {ds gs : List (DataW H)} {before : List MemPlace} {tb : TypeId}
   (hr : (f.params.toList.all fun t => P.readableRec t && decide (t < P.types.size)) = true) (hv : s.vars = []) (hW : DataW.Whole enc P f.params.toList s.vars false W args.toList ds gs before)
   (hfn : s.fn H (ds ++ gs) = { results := [.lit (.bool true)], args := ds }) (hres : f.resultTypes = #[tb]) (htb : P.underlying tb = some .bool) (hb : Below W.heap.size W W') :
   s.post enc P f false fresh false false W args (.bool true) W' := by
 have hlt := hW.lt;have hW' := hW;obtain ⟨p, q, hA, hV, rfl, hfz, hnd⟩ := hW;rw [hv] at hV;obtain ⟨rfl, rfl⟩ : gs = [] /\ q = [] := by
   cases gs with
   | nil => exact ⟨rfl, hV⟩
   | cons g r => exact absurd hV (by intro h; cases h)
 refine ⟨ds, [], p ++ [], [], p, [], hW', ?_, ?_, ?_, ?_, fun h => by cases h⟩
 . rw [hfn, hres]; exact trodAll_mk1 (Go.RowKit.shut_bool htb true)
 . rw [hfn]; exact Jh hl hb hr hA fun x hx => hlt x (by simp [hx])
 . rw [hfn, hv]; rfl
 . exact hb.frame _
variable [Globs]
end Go.Idl
namespace Go.Idl
open Go.RowKit (Below)
open Go.ChangeShapes
variable [Globs] {P : Program} {w : World}
theorem jcI {a : Addr} {len cap esz : Nat} {xs : List IVal} {vs : List Value} (hl : xs.length = len) (hl2 : vs.length = len) (hc : len <= cap) (hspot : 0 < cap -> a.spot = none)
   (hv : ∀ (i : Nat) x v, xs[i]? = some x -> vs[i]? = some v -> V (Qj P w) x v) (hf : ∀ x ∈ xs, qY x) (hr : ∀ x ∈ xs, nr2 x = true) (hz : ∀ v ∈ vs, v.cells.size = esz)
   (hm : ∀ (k : Nat) c, (jl vs)[k]? = some c -> w.cell? ⟨a.block, a.off + k, none⟩ = some c) :
   V (Qj P w) (.sl 0 false xs) (.slice (some a) len cap) /\ jC (.sl 0 false xs) (.slice (some a) len cap) = [] := by
 subst hl;exact ⟨.sl 0 false xs vs a cap esz hspot hc hl2.symm hv hf (fun _ => hr) hz hm (fun h => absurd rfl h) (fun _ => rfl), vb (.sl 0 false xs) _⟩
theorem jaS {a : Addr} {k : Nat} (h : a.spot = none) : a.add k = ⟨a.block, a.off + k, none⟩ := by
 unfold Addr.add;split
 . subst_vars; cases a; simp at h; simp [h]
 . rfl
theorem jhb {a : Addr} {k : Nat} {c : Value} (h : w.cell? (a.add k) = some c) : a.spot = none \/ k ≠ 0 := by
 by_cases hk : k = 0
 . subst hk;simp only [Addr.add, if_true, World.cell?] at h;split at h
   . cases hs : a.spot with
     | none => exact Or.inl rfl
     | some s => simp [hs] at h
   . cases h
 . exact Or.inr hk
theorem jdB : ∀ {esz : Nat} {vs : List Value}, (∀ v ∈ vs, v.cells.size = esz) -> ∀ (k : Nat) c, (jl vs)[k]? = some c -> ∃ (i j : Nat) (v : Value), vs[i]? = some v /\ j < esz /\ k = i * esz + j /\ v.cells[j]? = some c := by
 intro esz vs
 induction vs with
 | nil => intro _ k c h; simp [jl] at h
 | cons v vs ih =>
   intro hz k c h;have hv := hz v (by simp);have e : jl (v :: vs) = v.cells.toList ++ jl vs := by simp [jl]
   rw [e] at h
   by_cases hk : k < esz
   . rw [zL (by simpa [hv] using hk)] at h;exact ⟨0, k, v, rfl, hk, by simp, by simpa using h⟩
   . rw [zR (by simp [hv]; omega)] at h;have hl : v.cells.toList.length = esz := by simpa using hv
     rw [hl] at h;obtain ⟨i, j, u, h1, h2, h3, h4⟩ := ih (fun u hu => hz u (by simp [hu])) _ _ h;refine ⟨i + 1, j, u, by simpa using h1, h2, ?_, h4⟩;rw [tO, Nat.one_mul]; omega
theorem KY {H : Type} {enc : TypeId × Value -> H} {base fuel : Nat} {held : Bool} {t e : TypeId} {α : Type} [Inhabited α] {Q : α -> Prop} {toI : α -> IVal} {mk : List Value -> Value} {esz : Nat} {cs : List Value} {x : DataW H × List MemPlace}
   (ht : P.underlying t = some (.slice e)) (hc : P.cellsOf e = esz) (h0 : 0 < esz)
   (he : ∀ n cs y, DataW.trod enc P w base (fun _ => true) held n e cs = some y -> ∃ x : α, Q x /\ V (Qj P w) (toI x) (mk cs) /\ qY (toI x) /\ nr2 (toI x) = true /\ (mk cs).cells = cs.toArray /\ cs.length = esz)
   (h : DataW.trod enc P w base (fun _ => true) held fuel t cs = some x) :
   ∃ (v : Value) (r : Bool) (xs : List α), cs = [v] /\ (∀ x ∈ xs, Q x) /\ xs.length <= maxLen /\ V (Qj P w) (.sl 0 r (xs.map toI)) v /\ jC (.sl 0 r (xs.map toI)) v = [] /\ qY (.sl 0 r (xs.map toI)) /\ nr2 (.sl 0 r (xs.map toI)) = true := by
 rcases Go.Deep.open_slice ht h with ⟨rfl, rfl⟩ | ⟨a, len, cap, m, n, D, Pl, rfl, hb, hl, hm, hmm, rfl, hx⟩
 . exact ⟨_, true, [], rfl, by simp, Nat.zero_le _, .nil 0, rfl, ⟨rfl, rfl⟩, rfl⟩
 . simp only [if_true] at hmm;subst hmm;obtain ⟨CS, hCS⟩ := Go.Deep.choose_lt (α := List Value) (p := fun i cs' => w.cells? base (a.add (i * P.cellsOf e)) (P.cellsOf e) = some cs' /\ DataW.trod enc P w base (fun _ => true) held n e cs' = some (D i, Pl i)) hx;obtain ⟨X, hX⟩ := Go.Deep.choose_lt (α := α) (p := fun i x => Q x /\ V (Qj P w) (toI x) (mk (CS i)) /\ qY (toI x) /\ nr2 (toI x) = true /\ (mk (CS i)).cells = (CS i).toArray /\ (CS i).length = esz) (fun i hi => he n (CS i) _ (hCS i hi).2);have hspot : 0 < m -> a.spot = none := by
     intro h1;obtain ⟨_, hlen, hcell⟩ := World.cells?_some (hCS 0 h1).1;have := hcell 0 (by omega);rw [Nat.zero_mul] at this;obtain ⟨c, hc⟩ : ∃ c, (CS 0)[0]? = some c := ⟨(CS 0)[0]'(by omega), by simp⟩;rw [hc] at this;have h2 : w.cell? (a.add 0) = some c := by
       have e0 : (a.add 0).add 0 = a.add 0 := by simp [Addr.add]
       rw [e0] at this;exact this
     rcases jhb h2 with h3 | h3
     . exact h3
     . exact absurd rfl h3
   have hlt : ∀ {i : Nat}, i ∈ List.range len -> i < m := fun {i} hi => by have := List.mem_range.1 hi; omega
   have hmap : (List.range len).map (fun i => toI (X i)) = ((List.range len).map X).map toI := by rw [List.map_map]; rfl
   refine ⟨_, false, (List.range len).map X, rfl, fun x hx' => ?_, by simp; omega, ?_⟩
   . obtain ⟨i, hi, rfl⟩ := List.mem_map.1 hx';exact (hX i (hlt hi)).1
   . have hV := jcI (P := P) (w := w) (a := a) (len := len) (cap := m) (xs := ((List.range len).map X).map toI) (vs := (List.range len).map fun i => mk (CS i)) (esz := esz) (by simp) (by simp) hl hspot (fun i x v hx' hv => ?_) (fun x hx' => ?_) (fun x hx' => ?_) (fun v hv => ?_) (fun j c hj => ?_)
     . refine ⟨hV.1, hV.2, ⟨?_, rfl⟩, rfl⟩;rfl
     . rw [<- hmap] at hx';simp only [rM, rW] at hx' hv;obtain ⟨i1, h1, rfl⟩ := hx';obtain ⟨i2, h2, rfl⟩ := hv;rw [h1] at h2; cases h2;exact (hX i1 (hlt (zM h1))).2.1
     . rw [<- hmap] at hx';obtain ⟨i, hi, rfl⟩ := List.mem_map.1 hx';exact (hX i (hlt hi)).2.2.1
     . rw [<- hmap] at hx';obtain ⟨i, hi, rfl⟩ := List.mem_map.1 hx';exact (hX i (hlt hi)).2.2.2.1
     . obtain ⟨i, hi, rfl⟩ := List.mem_map.1 hv;have := hX i (hlt hi);rw [this.2.2.2.2.1]; simpa using this.2.2.2.2.2
     . obtain ⟨i, k, v, h1, h2, rfl, h4⟩ := jdB (esz := esz) (by
         intro v hv;obtain ⟨i, hi, rfl⟩ := List.mem_map.1 hv;have := hX i (hlt hi);rw [this.2.2.2.2.1]; simpa using this.2.2.2.2.2) _ _ hj
       simp only [rM, rW] at h1;obtain ⟨i1, h5, rfl⟩ := h1;have hi : i1 = i := by
         have hj' := ja h5;simp at hj';rw [List.getElem?_range hj'] at h5;simpa using h5.symm
       subst hi;have hil := hlt (zM h5);obtain ⟨_, hlen, hcell⟩ := World.cells?_some (hCS i1 hil).1;have := hcell k (by omega);rw [(hX i1 hil).2.2.2.2.1] at h4;have h4' : (CS i1)[k]? = some c := by simpa using h4
       rw [h4'] at this;rw [jaS (hspot (by omega)), jaS rfl, hc] at this;simpa [Nat.add_assoc] using this
def jak : List IVal -> Option IVal
 | [] => some (.bool true)
 | _ => none
theorem V4 {F : jn} {f : FuncId} {n : Nat} {σ' : List IObj} {wr' : List (Nat × Bool)} (hc : vF P f) (hcf : CallOK P (CR P) (vo F n)) (hrun : vo F n (.f f) [] [] = some ⟨false, .bool true, σ', wr'⟩) : ZQ P f fun _ _ args => jak args := by
 intro σ args v hp;have hp : jak args = some v := hp
 match args, hp with
 | [], hp =>
   obtain rfl := tB hp;refine ⟨hc, fun g O rargs w _ hl hR => callsIn_wide.2 ?_⟩;have hG : Ji w := fun k vs hk i c hi => by
     have := hR.claim k (0 + i) c (hR.glob k vs hk i c hi)
     rwa [t7] at this
   refine (ZH hcf hG hrun hl (by simp)).mono ?_;rintro e w' ⟨rfl, hb⟩;have h0 : R g O [] σ w := R.drops (l' := []) (by simpa using hR);exact ⟨.bool true, g, O, rfl, ⟨hb.size, fun b hb' _ => ⟨hb.block b hb', rfl, fun _ => rfl⟩, fun _ _ _ h => h, fun _ _ h => h, fun _ h => .inl h, rfl, hb.os, hb.tape, hb.output, fun _ => rS _⟩,
     (h0.world hb.size hb.block).push (.bool true) rfl⟩
theorem jdc {F : jn} {f : FuncId} (h : F f = some { nt := 0, nv := 0, m := 1, dep := 1, body := .lib fun _ _ args => jak args, res := [] }) (σ : List IObj) : cfw F (.f f) [] σ = some ⟨false, .bool true, σ, []⟩ := by
 rw [jhV, h]; rfl
theorem jcK {H : Type} {enc : TypeId × Value -> H} {base fuel : Nat} {held : Bool} {t : TypeId} {k : IntKind} {cs : List Value} {x : DataW H × List MemPlace} (ht : P.underlying t = some (.int k)) (h : DataW.trod enc P w base (fun _ => true) held fuel t cs = some x) :
   ∃ n, cs = [.int k n] /\ (Lit.int k n).wf = true := by
 obtain ⟨n, h1, _, h2⟩ := DataW.trod_int ht h;exact ⟨n, h1, h2⟩
end Go.Idl
