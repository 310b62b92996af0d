/-
  From the model's code to the ideal code: a translator that looks at its own answer, so that whatever it gives is right.
-/
import Derived.Test.YtkjcgfadojfeeaaIdlMain
set_option linter.unusedSectionVars false
set_option linter.unusedVariables false
set_option linter.unusedSimpArgs false
namespace Go.Idl
variable [Globs]

/-! ### values -/
def primI : Value → Option IVal
  | .int k n => some (.int k n)
  | .bool b => some (.bool b)
  | .string s => some (.str s.data.toList)
  | .pointer none => some (.prim (.pointer none))
  | .nilIface => some (.prim .nilIface)
  | .nilFunc => some (.prim .nilFunc)
  | .map none => some (.prim (.map none))
  | .slice none 0 0 => some (.sl 0 false [])
  | _ => none

def eszOf (P : Program) (T : TypeId) : Nat :=
  match P.underlying T with
  | some (.slice E) => match P.info? E with
    | some i => i.size
    | none => 0
  | _ => 0

/-- Cells of a zero value, each with its own type: so that a slice of none may be appended to. -/
def zeroI (P : Program) : Nat → TypeId → Option (List IVal)
  | 0, _ => none
  | n + 1, T =>
    match P.underlying T with
    | some (.int k) => some [.int k 0]
    | some .bool => some [.bool false]
    | some .string => some [.str []]
    | some (.pointer _) => some [.prim (.pointer none)]
    | some .unsafePointer => some [.prim (.pointer none)]
    | some (.slice _) => some [.sl (eszOf P T) false []]
    | some (.map _ _) => some [.prim (.map none)]
    | some (.func _ _ _) => some [.prim .nilFunc]
    | some (.interface _) => some [.prim .nilIface]
    | some (.array len E) => match zeroI P n E with
      | some zs => some (repl len zs)
      | none => none
    | some (.struct fs) => fs.toList.foldr (fun f acc => match zeroI P n f.type, acc with
      | some zs, some r => some (zs ++ r)
      | _, _ => none) (some [])
    | _ => none

def isAggT (P : Program) (T : TypeId) : Bool :=
  match P.underlying T with
  | some (.struct _) => true
  | some (.array _ _) => true
  | _ => false

def constI (P : Program) (T : Option TypeId) (v : Value) : Option IVal :=
  match v with
  | .slice none 0 0 => some (.sl (match T with | some T => eszOf P T | none => 0) false [])
  | .agg cs => (match T with
    | some T => match zeroI P 16 T with
      | some zs => if cOKs zs cs.toList then some zs else cs.toList.mapM primI
      | none => cs.toList.mapM primI
    | none => cs.toList.mapM primI).map .agg
  | .tuple cs => if cs.isEmpty then some (.tup []) else none
  | v => primI v

/-! ### operands -/
structure Cx where
  P : Program
  cand : List TypeId
  mv : Nat → Bool
  pure : Bool
  take : Bool
  ref : Bool
  draw : Bool

def globI : Value → Option IVal
  | .iface t (.agg vs) => match vs.toList with
    | [.pointer (some a)] => some (.iface t (.agg [.prim (.pointer (some a))]))
    | _ => none
  | v => primI v

def Cx.opd (c : Cx) (T : Option TypeId) : Operand → Option Opd
  | .tmp j => some (if c.mv j then .m j else .t j)
  | .const v => (constI c.P T v).map .c
  | .func f => some (.c (.fn (.func f) [] []))
  | .global k => match Globs.vals k with
    | some vs => (vs.mapM globI).map fun cs => .c (.pv false cs 0)
    | none => none

def plainOpd : Opd → Opd
  | .m i => .t i
  | x => x

def Cx.opds (c : Cx) (l : List (Operand × Option TypeId)) : Option (List Opd) := l.mapM fun p => c.opd p.2 p.1

def nArg (P : Program) (T : TypeId) : Option Nat := if isAggT P T then (P.info? T).map (·.size) else none

def isNilC : Operand → Option Nat
  | .const (.pointer none) => some 0
  | .const .nilIface => some 1
  | .const .nilFunc => some 2
  | .const (.map none) => some 3
  | _ => none

def zeroInt : Operand → Bool
  | .const (.int _ 0) => true
  | _ => false

def keyOf (P : Program) (T : TypeId) : Option (Nat × TypeId) :=
  match P.underlying T with
  | some (.map K E) => match P.underlying K with
    | some (.int _) => some (0, E)
    | some .string => some (1, E)
    | some .bool => some (2, E)
    | _ => none
  | _ => none

def valI (P : Program) (T : TypeId) : Option IVal :=
  match zeroI P 16 T with
  | some zs => if isAggT P T then some (.agg zs) else zs[0]?
  | none => none

/-! ### entries -/
def rtOf (P : Program) : TypeId := match P.cutTypes.find? (·.1 == "internal/reflectlite.rtype") with
  | some (_, t) => t
  | none => 0

def good (P : Program) (t : TypeId) : Bool := !P.packed t && (!P.holdsPacked P.depth t && !P.methodsOfAPack P.depth t)

def pairsT (P : Program) (cand : List TypeId) (f : TypeId → TypeId → Option Bool) : List ((TypeId × TypeId) × Bool) :=
  cand.flatMap fun t => cand.filterMap fun u => match f u t with
    | some b => some ((t, u), b)
    | none => none

def extFor (P : Program) (cand : List TypeId) (name : String) : Option ExtK :=
  let G := P.globals.size
  let rt := rtOf P
  let cand := cand.filter (good P)
  if name == "internal/reflectlite.TypeOf" then some (.typeOf rt G)
  else if name == "(internal/reflectlite.Value).Type" then some (.vType rt G)
  else if name == "(internal/reflectlite.Value).IsNil" then some (.vIsNil G (cand.filter fun t => tyN P t none))
  else if name == "(internal/reflectlite.Value).Elem" then some (.vElem G (cand.filterMap fun t => match elemP P t with
    | some e => (match kindP P e with | some k => if tyN P t none then some (t, e, k) else none | none => none)
    | none => none))
  else if name == "(internal/reflectlite.rtype).Elem" then some (.rElem rt G (cand.filterMap fun t => (elemP P t).map fun e => (t, e)))
  else if name == "(internal/reflectlite.rtype).Comparable" then some (.rCmp G (cand.filterMap fun t => (P.info? t).map fun i => (t, i.comparable)))
  else if name == "(internal/reflectlite.rtype).Implements" then some (.rImpl G (pairsT P cand fun u t => if kindP P u == some 20 then implP P u t else none))
  else if name == "(internal/reflectlite.rtype).AssignableTo" then some (.rAsg G (pairsT P cand fun u t => match daP P u t, implP P u t with
    | some a, some b => some (a || b)
    | _, _ => none))
  else if name == "(*internal/abi.Type).Kind" then some (.aKind G (cand.filterMap fun t => (kindP P t).map fun k => (t, k)))
  else none

/-- How a method's receiver is come by. -/
def recvFor (P : Program) (t : TypeId) (name : String) : Option RecvK := match P.info? t with
  | some i => match i.methods.find? (fun m => m.name == name) with
    | some m => match m.path.toList with
      | [] => some .same
      | [s] => match P.underlying s.struct with
        | some (.struct fs) => match fs[s.index]? with
          | some fd => some (.fld fd.offset (nArg P fd.type))
          | none => none
        | _ => none
      | _ => none
    | none => none
  | none => none

def Cx.extCall (c : Cx) (f : FuncId) (k : Call) : Option IOp :=
  let tys := k.argTypes.toList.map some
  match P_name c.P f, c.opds (k.args.toList.zip (tys ++ List.replicate k.args.size none)) with
  | some name, some xs =>
    if name == "internal/reflectlite.ValueOf" then (match xs with
      | [x] => some (.vOf c.P.globals.size (c.cand.filterMap fun t => (kindP c.P t).map fun n => (t, n)) x)
      | _ => none)
    else if name == "(internal/reflectlite.Value).Set" then (match xs with
      | [x, y] => some (.vSet c.P.globals.size (c.cand.filter fun t => !c.P.packed t && tyN c.P t none) x y)
      | _ => none)
    else (extFor c.P c.cand name).map fun e => .pur (.ext e) xs
  | _, _ => none
where P_name (P : Program) (f : FuncId) : Option String := match P.funcs[f]? with
  | some fn => if fn.body.isNone then some fn.name else none
  | none => none

def Cx.invCall (c : Cx) (r : Operand) (name : String) (k : Call) : Option IOp :=
  let tys := k.argTypes.toList.map some
  let P := c.P
  let all := c.cand.filterMap fun t => match mfn P t name, recvFor P t name with
    | some f, some rk => if recvOK P t name f rk then (P.funcs[f]?).map fun fn => (t, f, rk, fn.body.isNone, fn.name) else none
    | _, _ => none
  match c.opd none r, c.opds (k.args.toList.zip (tys ++ List.replicate k.args.size none)) with
  | some x, some xs =>
    let fns := all.filter fun p => !p.2.2.2.1
    if fns.isEmpty then
      some (.pur (.invX (all.filterMap fun p => (extFor P c.cand p.2.2.2.2).map fun e => (p.1, e, p.2.2.1))) (x :: xs))
    else some (.inv (fns.map fun p => (p.1, p.2.1, p.2.2.1)) x xs)
  | _, _ => none

def Cx.call (c : Cx) (o : Oper) (k : Call) : Option IOp :=
  let tys := k.argTypes.toList.map some
  match k.callee with
  | .invoke r name => c.invCall r name k
  | .value (.func f) => match c.extCall f k with
    | some io => some io
    | none => match c.opds (k.args.toList.zip (tys ++ List.replicate k.args.size none)) with
      | some xs => some (if c.pure then .callp f xs else .call f xs)
      | none => none
  | .value r => match c.opd none r, c.opds (k.args.toList.zip (tys ++ List.replicate k.args.size none)) with
    | some x, some xs => some (.callv x xs)
    | _, _ => none
  | .builtin .len => match k.args.toList, k.argTypes[0]? with
    | [r], some T => match (c.opd (some T) r).map plainOpd, c.P.underlying T with
      | some x, some .string => some (.lenS x)
      | some x, some (.slice _) => some (.lenL x)
      | some x, some (.map _ _) => some (.lenM x)
      | _, _ => none
    | _, _ => none
  | .builtin .max => match c.opds (k.args.toList.zip (tys ++ List.replicate k.args.size none)) with
    | some xs => some (.minmax true xs)
    | none => none
  | .builtin .min => match c.opds (k.args.toList.zip (tys ++ List.replicate k.args.size none)) with
    | some xs => some (.minmax false xs)
    | none => none
  | .builtin .append => match k.args.toList, k.argTypes.toList with
    | [rx, ry], [T, U] => match c.opd (some T) rx, c.opd (some U) ry, elemInfo c.P T with
      | some x, some y, some (_, i) => some (.append false (match c.P.underlying U with | some .string => true | _ => false) i.size i.bytes x y)
      | _, _, _ => none
    | _, _ => none
  | _ => none

def Cx.parts (c : Cx) (place : Nat → Option (Nat × Nat)) (ty : Nat → Option TypeId) : List (Nat × Operand) → Option (List (Nat × Nat × Opd))
  | [] => some []
  | p :: ps => match place p.1, c.opd (ty p.1) p.2, c.parts place ty ps with
    | some q, some x, some r => some ((q.1, q.2, x) :: r)
    | _, _, _ => none

def Cx.op (c : Cx) (o : Oper) : Option IOp :=
  let P := c.P
  match o.op with
  | .move r => (c.opd (some o.type) r).map .mv
  | .assign r => (c.opd (some o.type) r).map .mv
  | .pick a b d => match c.opd none a, c.opd (some o.type) b, c.opd (some o.type) d with
    | some a, some b, some d => some (.pick a (plainOpd b) (plainOpd d))
    | _, _, _ => none
  | .alloc T => (zeroI P 16 T).map .alloc
  | .box T r => (c.opd (some T) r).map (if c.ref then .box else .boxv)
  | .build T ps => match zeroI P 16 T, buildInfo P T with
    | some zs, some (_, place) =>
      (c.parts place (fun k => match P.underlying T with | some (.array _ E) => some E | some (.struct fs) => (fs[k]?).map (·.type) | _ => none) ps.toList).map (.build zs)
    | _, _ => none
  | .buildSlice T _ ps => match elemInfo P T with
    | some (E, i) => (c.opds (ps.toList.map fun p => (p.2, some E))).map (if c.ref then .buildRs i.size else .buildSl i.size)
    | none => none
  | .load T r => (c.opd none r).map (.load c.take (nArg P T))
  | .store T rx ry => match c.opd none rx, c.opd (some T) ry, P.info? T with
    | some x, some y, some i => some (.store i.size x y)
    | _, _, _ => none
  | .nilCheck r => (c.opd none r).map .nilCheck
  | .binOp op T rx ry _ => match isNilC ry, isNilC rx with
    | some k, _ => (c.opd none rx).map (.isnil (op == .neq) k)
    | none, some k => (c.opd none ry).map (.isnil (op == .neq) k)
    | none, none => match nilSide rx ry with
      | some r => (c.opd (some T) r).map fun x => .pur (.isnilS (op == .neq)) [plainOpd x]
      | none => match c.opd (some T) rx, c.opd (some T) ry, P.underlying T with
      | some x, some y, some .bool => some (.eqb (op == .neq) x y)
      | some x, some y, some (.int _) => some (.bin op x y)
      | some x, some y, some .string => some (.bin op x y)
      | some x, some y, some (.struct _) => (flatT P 1000 T).map fun ks => .pur (.eqa (op == .neq) ks) [x, y]
      | some x, some y, some (.array _ _) => (flatT P 1000 T).map fun ks => .pur (.eqa (op == .neq) ks) [x, y]
      | some x, some y, some (.interface _) => some (.pur (.eqi (op == .neq) (c.cand.filterMap fun t => match P.info? t, P.underlying t with
        | some i, some (.int _) => if i.comparable then some (t, 0) else none
        | some i, some .string => if i.comparable then some (t, 1) else none
        | _, _ => none)) [x, y])
      | _, _, _ => none
  | .unOp op _ r => (c.opd none r).map (.un op)
  | .convert S T r => match c.opd (some S) r, P.underlying S, P.underlying T with
    | some x, some (.int _), some (.int k) => some (.conv (.int k) x)
    | some x, some .string, some .string => some (.conv .same x)
    | some x, some .string, some (.slice _) => some (.conv .bytes x)
    | some x, some (.slice _), some .string => some (.pur .text [x])
    | some x, some (.int _), some .string => some (.pur .rune [x])
    | _, _, _ => none
  | .makeInterface T r => (c.opd (some T) r).map (.mkIface T)
  | .makeFunc f rs qs => match c.opds (rs.toList.map fun r => (r, none)), c.opds (qs.toList.map fun r => (r, none)) with
    | some xs, some ys => some (.mkFn f xs ys)
    | _, _ => none
  | .makeMap _ _ => some .mkMap
  | .makeSlice T rx ry => match c.opd none rx, c.opd none ry, elemInfo P T with
    | some x, some y, some (E, i) => (zeroI P 16 E).map fun zs => .mkSl (!zeroInt rx) i.size i.bytes zs (plainOpd x) (plainOpd y)
    | _, _, _ => none
  | .slice T r lo hi mx => match c.opd (some T) r, lo.mapM (c.opd none), hi.mapM (c.opd none), mx.mapM (c.opd none), P.underlying T with
    | some x, some l, some h, _, some .string => some (.sliceS x (l.map plainOpd) (h.map plainOpd))
    | some x, some l, some h, some m, some (.slice _) => some (.sliceL (eszOf P T) x (l.map plainOpd) (h.map plainOpd) (m.map plainOpd))
    | _, _, _, _, _ => none
  | .fieldAddr T r k => match c.opd none r, P.underlying T with
    | some x, some (.struct fs) => (fs[k]?).map fun f => .fieldAddr f.offset x
    | _, _ => none
  | .field T r k => match c.opd none r, P.underlying T with
    | some x, some (.struct fs) => (fs[k]?).map fun f => .field f.offset (nArg P f.type) x
    | _, _ => none
  | .indexAddr T rx ry => match (c.opd (some T) rx).map plainOpd, c.opd none ry, P.underlying T with
    | some x, some y, some (.slice _) => some (.idxAddr (eszOf P T) x y)
    | some x, some y, some (.array len E) => (P.info? E).map fun i => .idxAddrA len i.size x y
    | _, _, _ => none
  | .index T rx ry => match c.opd (some T) rx, c.opd none ry, P.underlying T with
    | some x, some y, some .string => some (.idxS x y)
    | some x, some y, some (.array len E) => (P.info? E).map fun i => .idxA len i.size (nArg P E) x y
    | _, _, _ => none
  | .lookup T rx ry ok => match c.opd none rx, c.opd none ry, keyOf P T with
    | some x, some y, some (kk, E) => (valI P E).map fun z => .lookup kk z ok x y
    | _, _, _ => none
  | .mapUpdate T rx ry rz => match c.opd none rx, c.opd none ry, keyOf P T with
    | some x, some y, some (kk, E) => (c.opd (some E) rz).map (.mapSet kk x y)
    | _, _, _ => none
  | .insert T rx ry rz => match c.opd none rx, c.opd none ry, keyOf P T with
    | some x, some y, some (kk, E) => (c.opd (some E) rz).map (.mapSet kk x y)
    | _, _, _ => none
  | .typeAssert r _ A ok => match c.opd none r, P.underlying A with
    | some x, some (.interface want) => some (.pur (.tyI (c.cand.filter fun t => hasAll P want t true) (c.cand.filter fun t => hasAll P want t false) ok) [x])
    | some x, some _ => (valI P A).map fun z => .pur (.tyC A ok z) [x]
    | _, _ => none
  | .extract r i => (c.opd none r).map fun x => .extract (if c.draw then plainOpd x else x) i
  | .call k => c.call o k
  | _ => none

/-! ### regions -/
/-- A temporary of this region's own: written by what is no assignment. -/
def ownTmp (ops : List Oper) (j : Nat) : Bool := ops.any fun o => o.dst == some j && (match o.op with | .assign _ => false | _ => true)
/-- It is written at this place or behind it. -/
def laterSet (ops : List Oper) (i j : Nat) : Bool := (ops.drop i).any fun o => o.dst == some j
/-- It is what an append puts something behind. -/
def appendBase (ops : List Oper) (d : Option Nat) : Bool := match d with
  | some d => ops.any fun o => match o.op with
    | .call c => (match c.callee, c.args.toList with | .builtin .append, (.tmp t) :: _ => t == d | _, _ => false)
    | _ => false
  | none => false
/-- A store of this type comes behind. -/
def laterStore (ops : List Oper) (i : Nat) (T : TypeId) : Bool := (ops.drop i).any fun o => match o.op with | .store T' _ _ => T == T' | _ => false

structure Mode where
  refs : Nat → Bool
  cand : List TypeId
  vars : Bool
  pure : Bool
  ends : Bool
  take : Bool
  draw : Bool

def trOper (P : Program) (md : Mode) (ops : List Oper) (i : Nat) (o : Oper) : Option IOper :=
  let c : Cx := { P := P, cand := md.cand, mv := fun j => ownTmp ops j || (md.vars && (md.ends || (laterSet ops i j || (match o.op with | .move _ => appendBase ops o.dst | _ => false)))), pure := md.pure,
                  ref := (match o.dst with | some d => md.refs d | none => false), draw := md.draw, take := md.take && (match o.op with | .load T _ => (laterStore ops i T || appendBase ops o.dst) && !(isInt ((P.underlying T).getD .invalid)) | _ => false) }
  match c.op o with
  | some io => some { dst := o.dst, op := io, guard := match o.guard with
      | some (j, b) => match ops[j]? with
        | some g => match g.dst with
          | some t => some (t, b)
          | none => none
        | none => none
      | none => none }
  | none => none

def trOps (P : Program) (md : Mode) (ops : List Oper) : Option (List IOper) :=
  (ops.zipIdx).mapM fun p => trOper P md ops p.2 p.1

/-- Which reads must not meet which writes. -/
def pairsOf (A : List (List Nat)) (l : List (Nat × IOper)) : List (Nat × Nat) :=
  l.flatMap fun p => if quiet p.2.op && mayRead p.2.op then
    l.filterMap fun q => if quiet q.2.op || (A.getD q.1 []).contains p.1 || (A.getD p.1 []).contains q.1 then none else some (p.1, q.1)
  else []

def trDraw (P : Program) (n : Shape) (ops : Array Oper) (md : Mode) : Option ICode :=
  match trOps P md ops.toList with
  | some l =>
    let l' := l.zipIdx.map fun p => (p.2, p.1)
    let pairs := pairsOf (ancs ops.toList []) l'
    if drawOK P n ops l' pairs then some (.draw l' pairs) else none
  | none => none

def trSeqDraw (P : Program) (n : Shape) (ops : Array Oper) (md : Mode) : Option ICode :=
  match trDraw P n ops { md with pure := false } with
  | some c => some c
  | none => match trDraw P n ops { md with pure := true } with
    | some c => some c
    | none => match trDraw P n ops { md with pure := true, take := false } with
      | some c => some c
      | none => trDraw P n ops { md with pure := true, take := false, vars := false }

def trRegion (P : Program) (n : Shape) (ops : Array Oper) (md : Mode) : Option ICode :=
  match trOps P md ops.toList with
  | some l => if opersOK P ops ops.toList l && dstsOK n.n l then some (.ops l) else none
  | none => none

def endsRet : Code → Bool
  | .ret => true
  | .seq a _ => endsRet a
  | _ => false

def trCode (P : Program) (n : Shape) (cand : List TypeId) (refs : Nat → Bool) (top fin : Bool) : Code → Option ICode
  | .skip => some .skip
  | .region _ ops false => match trRegion P n ops { refs := refs, cand := cand, vars := true, pure := false, ends := fin, take := true, draw := false } with
    | some c => some c
    | none => some .stuck
  | .region _ ops true => match trSeqDraw P n ops { refs := refs, cand := cand, vars := true, pure := false, ends := fin, take := true, draw := true } with
    | some c => some c
    | none => some .stuck
  | .seq a b => match trCode P n cand refs top (endsRet b) a, trCode P n cand refs top fin b with
    | some x, some y => some (.seq x y)
    | _, _ => none
  | .cond c a b => match (Cx.mk P [] (fun _ => false) false false false false).opd none c, trCode P n cand refs top fin a, trCode P n cand refs top fin b with
    | some z, some x, some y => if opdOK z c then some (.cond z x y) else some .stuck
    | _, _, _ => some .stuck
  | .block id c => (trCode P n cand refs top false c).map (.block id)
  | .loop c => (trCode P n cand refs top false c).map .loop
  | .exit id => some (.exit id)
  | .scope c => (trCode P n cand refs top fin c).map .scope
  | .label l => some (.label l)
  | .goto l => some (.goto l)
  | .ret => some .ret
  | .rangeFunc g ps a b => match (Cx.mk P [] (fun _ => false) false false false false).opd none g, trCode P n cand refs false false a, trCode P n cand refs false false b with
    | some z, some x, some y => if top && (opdOK z g && (ps.toList.all fun p => decide (p < n.n))) then some (.rangeF z ps.toList x y) else some .stuck
    | _, _, _ => some .stuck
  | _ => some .stuck

theorem trDraw_ok {P : Program} {n : Shape} {ops : Array Oper} {md : Mode} {c : ICode} (h : trDraw P n ops md = some c) : ∃ l pairs, c = .draw l pairs ∧ drawOK P n ops l pairs = true := by
  unfold trDraw at h
  split at h
  · simp only at h
    split at h
    · rename_i hok
      simp only [Option.some.injEq] at h
      exact ⟨_, _, h.symm, hok⟩
    · cases h
  · cases h

theorem trSeqDraw_ok {P : Program} {n : Shape} {ops : Array Oper} {md : Mode} {c : ICode} (h : trSeqDraw P n ops md = some c) : ∃ l pairs, c = .draw l pairs ∧ drawOK P n ops l pairs = true := by
  unfold trSeqDraw at h
  split at h
  · rename_i h1; cases h; exact trDraw_ok h1
  · split at h
    · rename_i h1; cases h; exact trDraw_ok h1
    · split at h
      · rename_i h1; cases h; exact trDraw_ok h1
      · exact trDraw_ok h

theorem stuck_ok {P : Program} {n : Shape} {top : Bool} (c : Code) : codeOK P n top c .stuck = true := by cases c <;> simp only [codeOK]
theorem trCode_ok {P : Program} {n : Shape} {cand : List TypeId} {refs : Nat → Bool} : ∀ {c : Code} {top fin : Bool} {ic : ICode}, trCode P n cand refs top fin c = some ic → codeOK P n top c ic = true := by
  intro c
  induction c with
  | skip => intro top fin ic h; simp only [trCode, Option.some.injEq] at h; subst h; rfl
  | region id ops d =>
    intro top fin ic h
    cases d with
    | false =>
      simp only [trCode] at h
      split at h
      · rename_i h0
        simp only [trRegion] at h0
        split at h0
        · split at h0
          · rename_i hok
            simp only [Option.some.injEq] at h0 h
            subst h0; subst h
            exact hok
          · cases h0
        · cases h0
      · simp only [Option.some.injEq] at h; subst h; exact stuck_ok _
    | true =>
      simp only [trCode] at h
      split at h
      · rename_i h0
        obtain ⟨l, pairs, rfl, hok⟩ := trSeqDraw_ok h0
        simp only [Option.some.injEq] at h
        subst h
        exact hok
      · simp only [Option.some.injEq] at h; subst h; exact stuck_ok _
  | seq a b iha ihb =>
    intro top fin ic h
    simp only [trCode] at h
    split at h
    · rename_i h1 h2
      simp only [Option.some.injEq] at h
      subst h
      simp [codeOK, iha h1, ihb h2]
    · cases h
  | cond z a b iha ihb =>
    intro top fin ic h
    simp only [trCode] at h
    split at h
    · rename_i h1 h2 h3
      split at h
      · rename_i h4
        simp only [Option.some.injEq] at h
        subst h
        simp [codeOK, iha h2, ihb h3, h4]
      · simp only [Option.some.injEq] at h; subst h; exact stuck_ok _
    · simp only [Option.some.injEq] at h; subst h; exact stuck_ok _
  | block id c ih =>
    intro top fin ic h
    simp only [trCode, Option.map_eq_some_iff] at h
    obtain ⟨x, h1, rfl⟩ := h
    simp [codeOK, ih h1]
  | loop c ih =>
    intro top fin ic h
    simp only [trCode, Option.map_eq_some_iff] at h
    obtain ⟨x, h1, rfl⟩ := h
    simp [codeOK, ih h1]
  | scope c ih =>
    intro top fin ic h
    simp only [trCode, Option.map_eq_some_iff] at h
    obtain ⟨x, h1, rfl⟩ := h
    simp [codeOK, ih h1]
  | exit id => intro top fin ic h; simp only [trCode, Option.some.injEq] at h; subst h; simp [codeOK]
  | label l => intro top fin ic h; simp only [trCode, Option.some.injEq] at h; subst h; rfl
  | goto l => intro top fin ic h; simp only [trCode, Option.some.injEq] at h; subst h; simp [codeOK]
  | ret => intro top fin ic h; simp only [trCode, Option.some.injEq] at h; subst h; rfl
  | rangeFunc f ps a b iha ihb =>
    intro top fin ic h
    simp only [trCode] at h
    split at h
    · rename_i h1 h2 h3
      split at h
      · rename_i h4
        simp only [Option.some.injEq] at h
        subst h
        simp only [Bool.and_eq_true] at h4
        simp [codeOK, iha h2, ihb h3, h4.1, h4.2.1]
        simpa using h4.2.2
      · simp only [Option.some.injEq] at h; subst h; exact stuck_ok _
    · simp only [Option.some.injEq] at h; subst h; exact stuck_ok _
  | refuse w => intro top fin ic h; simp only [trCode, Option.some.injEq] at h; subst h; exact stuck_ok _

/-! ### functions -/
def trRes (P : Program) : List ResultVar → List RV
  | [] => []
  | .tmp t :: rs => .t t :: trRes P rs
  | .cell t T :: rs => .cell t (nArg P T) :: trRes P rs

/-! ### slots -/
def ownDst (ops : List Oper) (j : Nat) : Bool := ops.any fun o => match o.op with
  | .assign _ => false
  | _ => o.dst == some j
def tmax (f : Nat → Bool) (l : List Operand) (m : Nat) : Nat := l.foldl (fun m x => match x with
  | .tmp t => if f t then max m (t + 1) else m
  | _ => m) m
/-- Temporaries that outlive their region: below this number. -/
def crossMax (ops : List Oper) (m : Nat) : Nat := ops.foldl (fun m o =>
  let m := tmax (fun t => !(ownDst ops t)) o.op.operands.toList m
  match o.op with
  | .assign _ => (match o.dst with | some d => max m (d + 1) | none => m)
  | _ => m) m
def codeMax : Code → Nat → Nat
  | .region _ ops _, m => crossMax ops.toList m
  | .seq a b, m => codeMax b (codeMax a m)
  | .cond _ a b, m => codeMax b (codeMax a m)
  | .block _ c, m => codeMax c m
  | .loop c, m => codeMax c m
  | .scope c, m => codeMax c m
  | .rangeFunc f _ a b, m => codeMax b (codeMax a (tmax (fun _ => true) [f] m))
  | _, m => m
/-- The longest run of a region's own temporaries. -/
def spanOf (nv : Nat) (ops : List Oper) : Nat :=
  let r := ops.foldl (fun (r : Option (Nat × Nat)) o => match o.dst with
    | some d => if d < nv then r else match r with
      | some (lo, hi) => some (min lo d, max hi d)
      | none => some (d, d)
    | none => r) none
  match r with
  | some (lo, hi) => hi - lo + 1
  | none => 0
def codeSpan (nv : Nat) : Code → Nat → Nat
  | .region _ ops _, m => max m (spanOf nv ops.toList)
  | .seq a b, m => codeSpan nv b (codeSpan nv a m)
  | .cond _ a b, m => codeSpan nv b (codeSpan nv a m)
  | .block _ c, m => codeSpan nv c m
  | .loop c, m => codeSpan nv c m
  | .scope c, m => codeSpan nv c m
  | .rangeFunc _ _ a b, m => codeSpan nv b (codeSpan nv a m)
  | _, m => m
def resMax (rs : List ResultVar) (m : Nat) : Nat := rs.foldl (fun m r => match r with
  | .tmp t => max m (t + 1)
  | .cell t _ => max m (t + 1)) m
def shapeOf (gfn : Func) (c : Code) : Nat × Nat :=
  let nv := codeMax c (resMax gfn.results.toList (gfn.params.size + gfn.nfree))
  (nv, codeSpan nv c 1)

def trFunc (P : Program) (cand : List TypeId) (refs : Nat → Bool) (gfn : Func) : Option IFunc :=
  if gfn.name = "runtime.NumGoroutine" then none else
  match gfn.body with
  | some c => match shapeOf gfn c with
    | (nv, m) => match trCode P ⟨gfn.ntmps, nv, m⟩ cand refs true false c with
      | some ic =>
        let rs := trRes P gfn.results.toList
        if ressOK P gfn.results.toList rs then some { nt := gfn.ntmps, nv := nv, m := m, dep := Nat.log2 (nv + m) + 1, body := ic, res := rs } else none
      | none => none
  | none => none

def trProg (P : Program) (cand : List TypeId) (refs : FuncId → Nat → Bool) : IProg := fun f => match P.funcs[f]? with
  | some gfn => trFunc P cand (refs f) gfn
  | none => none

theorem trProg_ok (P : Program) (cand : List TypeId) (refs : FuncId → Nat → Bool) : FOK P (trProg P cand refs) := by
  intro f fn h
  unfold trProg at h
  split at h
  · rename_i gfn hf
    refine ⟨gfn, hf, ?_⟩
    unfold trFunc at h
    split at h
    · cases h
    · rename_i hname
      split at h
      · rename_i c hb
        simp only at h
        split at h
        · rename_i ic hc
          split at h
          · rename_i hr
            simp only [Option.some.injEq] at h
            subst h
            exact ⟨hname, ⟨c, hb, trCode_ok hc⟩, hr, rfl⟩
          · cases h
        · cases h
      · cases h
  · cases h

theorem run_ok {P : Program} (cand : List TypeId) (refs : FuncId → Nat → Bool) (hmx : P.follows .mixedOrders = true) (n : Nat) : CallOK P (CR P) (cfOf (trProg P cand refs) n) := call_sim hmx (trProg_ok P cand refs) n

end Go.Idl
