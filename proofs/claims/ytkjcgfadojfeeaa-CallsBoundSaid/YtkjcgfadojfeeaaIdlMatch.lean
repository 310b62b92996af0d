/-
  Is an ideal operation the model's? And: each one that is, is met.
-/
import Derived.Test.YtkjcgfadojfeeaaIdlCall
import Derived.Test.YtkjcgfadojfeeaaIdlPur
import Derived.Test.YtkjcgfadojfeeaaIdlExt3
import Derived.Laws.Tables
set_option linter.unusedSectionVars false
set_option linter.unusedVariables false
set_option linter.unusedSimpArgs false
namespace Go.Idl
variable [Globs]

variable {P : Program}

def infoZ (P : Program) (T : TypeId) : Option (TypeInfo × Value) :=
  match P.info? T with
  | some i => match i.zero with
    | some z => some (i, z)
    | none => none
  | none => none

theorem infoZ_spec {T : TypeId} {i : TypeInfo} {z : Value} (h : infoZ P T = some (i, z)) : P.info? T = some i ∧ i.zero = some z := by
  unfold infoZ at h
  split at h
  · split at h
    · simp at h; obtain ⟨rfl, rfl⟩ := h; exact ⟨by assumption, by assumption⟩
    · cases h
  · cases h

def buildInfo (P : Program) (T : TypeId) : Option (Array Value × (Nat → Option (Nat × Nat))) :=
  match P.info? T, P.underlying T with
  | some it, some (.array _ e) =>
    match it.zero, P.info? e with
    | some z, some ie => some (z.cells, fun i => some (i * ie.size, ie.size))
    | _, _ => none
  | some it, some (.struct fields) =>
    match it.zero, fields.toList.mapM (fun f => (P.info? f.type).map fun i => (f.offset, i.size)) with
    | some z, some places => some (z.cells, fun i => places.toArray[i]?)
    | _, _ => none
  | _, _ => none

theorem buildInfo_spec {T : TypeId} {zc : Array Value} {place : Nat → Option (Nat × Nat)} (h : buildInfo P T = some (zc, place)) (w : World) (ps : Array (Nat × Value)) (cells : Array Value) (hf : Instr.fill place zc ps.toList = some cells) :
    (Instr.build T ps).run P w = .ok (.agg cells) w := by
  refine run_build w T ps cells ?_
  unfold buildInfo at h
  unfold Program.built
  split at h
  · rename_i h1 h2
    split at h
    · rename_i h3 h4
      simp at h; obtain ⟨rfl, rfl⟩ := h
      simp only [h1, h2, h3, h4]; exact hf
    · cases h
  · rename_i h1 h2
    split at h
    · rename_i h3 h4
      simp only [Option.some.injEq, Prod.mk.injEq] at h; obtain ⟨rfl, rfl⟩ := h
      simp only [h1, h2, h3, h4]; exact hf
    · cases h
  · cases h

def nilOK (P : Program) (T : TypeId) (k : Nat) : Bool :=
  match P.underlying T with
  | some d => nilTy k d && decide (k ≤ 3)
  | none => false

def isNilConst (k : Nat) : Operand → Bool
  | .const (.pointer none) => k == 0
  | .const .nilIface => k == 1
  | .const .nilFunc => k == 2
  | .const (.map none) => k == 3
  | _ => false

theorem isNilConst_spec {k : Nat} {r : Operand} (h : isNilConst k r = true) : r = .const (nilOf k) := by
  unfold isNilConst at h
  split at h <;> simp at h <;> subst h <;> rfl

def elemInfo (P : Program) (T : TypeId) : Option (TypeId × TypeInfo) :=
  match P.underlying T with
  | some (.slice E) => match P.info? E with
    | some i => some (E, i)
    | none => none
  | _ => none

theorem elemInfo_spec {T E : TypeId} {i : TypeInfo} (h : elemInfo P T = some (E, i)) : P.underlying T = some (.slice E) ∧ P.info? E = some i := by
  unfold elemInfo at h
  split at h
  · split at h
    · simp at h; obtain ⟨rfl, rfl⟩ := h; exact ⟨by assumption, by assumption⟩
    · cases h
  · cases h

def sizeIs (P : Program) (T : TypeId) (n : Nat) : Bool :=
  match P.info? T with
  | some i => i.size == n
  | none => false

def isInt (d : TypeDesc) : Bool := match d with | .int _ => true | _ => false

/-- Which function an interface value's method is. -/
def mfn (P : Program) (t : TypeId) (name : String) : Option FuncId := match P.info? t with
  | some i => match i.methods.find? (fun m => m.name == name) with
    | some m => m.func.map (·.1)
    | none => none
  | none => none

def callOK (P : Program) (c : Call) : IOp → Bool
  | .inv tab x xs => (match c.callee with | .invoke r name => opdOK x r && tab.all fun p => recvOK P p.1 name p.2.1 p.2.2 | _ => false) && opdsOK xs c.args.toList
  | .vOf G tab x => (match c.callee, c.args.toList with | .value (.func f), [r] => isVOf P f G tab && opdOK x r | _, _ => false)
  | .vSet G tab x y => (match c.callee, c.args.toList with | .value (.func f), [rx, ry] => isVSet P f G tab && (opdOK x rx && opdOK y ry) | _, _ => false)
  | .call f xs => (match c.callee with | .value (.func f') => f == f' | _ => false) && opdsOK xs c.args.toList
  | .callp f xs => (match c.callee with | .value (.func f') => f == f' | _ => false) && opdsOK xs c.args.toList
  | .callv x xs => (match c.callee with | .value r => opdOK x r | _ => false) && opdsOK xs c.args.toList
  | .lenS x => (match c.callee, c.args.toList, c.argTypes[0]? with | .builtin .len, [r], some T => opdOK x r && (match P.underlying T with | some .string => true | _ => false) | _, _, _ => false)
  | .lenL x => (match c.callee, c.args.toList, c.argTypes[0]? with | .builtin .len, [r], some T => opdOK x r && (match P.underlying T with | some (.slice _) => true | _ => false) | _, _, _ => false)
  | .lenM x => (match c.callee, c.args.toList, c.argTypes[0]? with | .builtin .len, [r], some T => opdOK x r && (match P.underlying T with | some (.map _ _) => true | _ => false) | _, _, _ => false)
  | .minmax mx [x, y] => (match c.callee, c.args.toList with | .builtin b, [rx, ry] => b == (if mx then .max else .min) && opdOK x rx && opdOK y ry | _, _ => false)
  | .append false _ esz bytes x y => (match c.callee, c.args.toList, c.argTypes.toList with
      | .builtin .append, [rx, ry], [T, U] => opdOK x rx && opdOK y ry && (match elemInfo P T, P.underlying U with
        | some (E, i), some du => !(isInt du) && i.size == esz && i.bytes == bytes && (match infoZ P E with | some (_, z) => z.cells.size == esz | none => false)
        | _, _ => false)
      | _, _, _ => false)
  | _ => false

def hasAll (P : Program) (want : Array (String × TypeId)) (t : TypeId) (b : Bool) : Bool :=
  match P.info? t with
  | some i => (lacking want i.methods).isEmpty == b
  | none => false

/-- Two operands, of which one is nil. -/
def nilSide (ra rb : Operand) : Option Operand :=
  match ra, rb with
  | _, .const (.slice none 0 0) => some ra
  | .const (.slice none 0 0), _ => some rb
  | _, _ => none

def purOK (P : Program) : Op → PurK → List Opd → Bool
  | .call c, .ext k, xs => (match c.callee with | .value (.func f) => isExt P f k | _ => false) && opdsOK xs c.args.toList
  | .call c, .invX tab, xs => (match c.callee with
    | .invoke r name => (tab.all fun p => match mfn P p.1 name with | some f => recvOK P p.1 name f p.2.2 && isExt P f p.2.1 | none => false) && opdsOK xs (r :: c.args.toList)
    | _ => false)
  | .binOp op T ra rb _, .eqa neg ks, xs => op == eqOp neg && (flatT P 1000 T == some ks && ((pnT P T).isSome && (!P.eqGuardType P.depth T && opdsOK xs [ra, rb])))
  | .binOp op T ra rb _, .isnilS neg, xs => op == eqOp neg && ((match P.underlying T with | some (.slice _) => true | _ => false) && (match nilSide ra rb with | some r => opdsOK xs [r] | none => false))
  | .binOp op T ra rb _, .eqi neg ks, xs => op == eqOp neg && ((match P.underlying T with | some (.interface _) => true | _ => false) && ((ks.all fun p => match P.info? p.1, P.underlying p.1 with | some i, some d => i.comparable && kindT d p.2 | _, _ => false) && opdsOK xs [ra, rb]))
  | .convert S T r, .text, xs => (match P.underlying S with | some (.slice e) => (match P.underlying e with | some (.int .u8) => true | _ => false) | _ => false) && ((match P.underlying T with | some .string => true | _ => false) && opdsOK xs [r])
  | .convert S T r, .rune, xs => (P.underlying S).isSome && ((match P.underlying T with | some .string => true | _ => false) && opdsOK xs [r])
  | .typeAssert r _ A ok, .tyC t ok' z, xs => A == t && (ok == ok' && ((match P.underlying A with | some (.interface _) => false | some _ => true | none => false) && ((match infoZ P A with | some (_, zv) => cOK z zv | none => false) && opdsOK xs [r])))
  | .typeAssert r _ A ok, .tyI yes no ok', xs => ok == ok' && ((match P.underlying A with | some (.interface want) => yes.all (fun t => hasAll P want t true) && no.all (fun t => hasAll P want t false) | _ => false) && ((match infoZ P A with | some (_, .nilIface) => true | _ => false) && opdsOK xs [r]))
  | _, _, _ => false

def opOK (P : Program) : Op → IOp → Bool
  | op, .pur k xs => purOK P op k xs
  | .move r, .mv x => opdOK x r
  | .assign r, .mv x => opdOK x r
  | .pick rc ra rb, .pick c a b => opdOK c rc && opdOK a ra && opdOK b rb
  | .alloc T, .alloc zs => (match infoZ P T with | some (_, z) => cOKs zs z.cells.toList | none => false)
  | .box _ r, .box x => opdOK x r
  | .box _ r, .boxv x => opdOK x r
  | .build T rp, .build zs parts => (match buildInfo P T with | some (zc, place) => cOKs zs zc.toList && partsOK place parts rp.toList | none => false)
  | .buildSlice T n rp, .buildSl esz xs => (match elemInfo P T with
      | some (E, i) => i.size == esz && decide (0 < esz) && n == rp.size && (rp.toList.map (·.1) == List.range rp.size) && opdsOK xs (rp.toList.map (·.2)) && (match infoZ P E with | some (_, z) => z.cells.size == esz | none => false)
      | none => false)
  | .buildSlice T n rp, .buildRs esz xs => (match elemInfo P T with
      | some (E, i) => i.size == esz && decide (0 < esz) && n == rp.size && (rp.toList.map (·.1) == List.range rp.size) && opdsOK xs (rp.toList.map (·.2)) && (match infoZ P E with | some (_, z) => z.cells.size == esz | none => false)
      | none => false)
  | .load T r, .load _ n x => opdOK x r && tyN P T n
  | .store T rx ry, .store n x y => opdOK x rx && opdOK y ry && sizeIs P T n
  | .nilCheck r, .nilCheck x => opdOK x r
  | .binOp op _ rx ry _, .bin op' x y => op == op' && opdOK x rx && opdOK y ry
  | .binOp op T rx ry _, .eqb neg x y => op == (if neg then .neq else .eql) && opdOK x rx && opdOK y ry && (match P.underlying T with | some .bool => true | _ => false)
  | .binOp op T ra rb _, .isnil neg k x => op == (if neg then .neq else .eql) && nilOK P T k && ((isNilConst k rb && opdOK x ra) || (isNilConst k ra && opdOK x rb))
  | .unOp op _ r, .un op' x => op == op' && opdOK x r
  | .convert S T r, .conv (.int k) x => opdOK x r && (P.underlying S).isSome && (match P.underlying T with | some (.int k') => k == k' | _ => false)
  | .convert S T r, .conv .same x => opdOK x r && (match P.underlying S, P.underlying T with | some .string, some .string => true | _, _ => false)
  | .makeInterface T r, .mkIface T' x => T == T' && opdOK x r && (match P.underlying T with | some (.interface _) => false | some _ => true | none => false)
  | .makeFunc f rs qs, .mkFn f' xs ys => f == f' && opdsOK xs rs.toList && opdsOK ys qs.toList
  | .makeMap _ none, .mkMap => true
  | .makeSlice T rx ry, .mkSl _ esz bytes zs x y => opdOK x rx && opdOK y ry && (match elemInfo P T with
      | some (E, i) => i.size == esz && i.bytes == bytes && (match infoZ P E with | some (_, z) => z.cells.size == esz && cOKs zs z.cells.toList | none => false)
      | none => false)
  | .slice T r lo hi none, .sliceS x l h => opdOK x r && optOK l lo && optOK h hi && (match P.underlying T with | some .string => true | _ => false)
  | .slice T r lo hi mx, .sliceL esz x l h m => opdOK x r && optOK l lo && optOK h hi && optOK m mx && (m.isNone || h.isSome) && (match elemInfo P T with | some (_, i) => i.size == esz | none => false)
  | .fieldAddr T r k, .fieldAddr off x => opdOK x r && (match P.underlying T with | some (.struct fs) => (match fs[k]? with | some f => f.offset == off && (match P.info? f.type with | some i => i.size != 0 | none => false) | none => false) | _ => false)
  | .field T r k, .field off n x => opdOK x r && (match P.underlying T with | some (.struct fs) => (match fs[k]? with | some f => f.offset == off && tyN P f.type n | none => false) | _ => false)
  | .indexAddr T rx ry, .idxAddr esz x y => opdOK x rx && opdOK y ry && (match elemInfo P T with | some (_, i) => i.size == esz | none => false)
  | .indexAddr T rx ry, .idxAddrA len esz x y => opdOK x rx && opdOK y ry && (match P.underlying T with | some (.array n E) => n == len && sizeIs P E esz | _ => false)
  | .index T rx ry, .idxS x y => opdOK x rx && opdOK y ry && (match P.underlying T with | some .string => true | _ => false)
  | .index T rx ry, .idxA len esz n x y => opdOK x rx && opdOK y ry && (match P.underlying T with | some (.array m E) => m == len && sizeIs P E esz && tyN P E n | _ => false)
  | .lookup T rx ry ok, .lookup kk z ok' x y => ok == ok' && opdOK x rx && opdOK y ry && nt z && (match P.underlying T with | some (.map K E) => (match P.underlying K, infoZ P E with | some d, some (_, zv) => keyD kk d && cOK z zv | _, _ => false) | _ => false)
  | .mapUpdate T rx ry rz, .mapSet kk x y z => opdOK x rx && opdOK y ry && opdOK z rz && (match P.underlying T with | some (.map K _) => (match P.underlying K with | some d => keyD kk d | none => false) | _ => false)
  | .insert T rx ry rz, .mapSet kk x y z => opdOK x rx && opdOK y ry && opdOK z rz && (match P.underlying T with | some (.map K _) => (match P.underlying K with | some d => keyD kk d | none => false) | _ => false)
  | .extract r i, .extract x j => i == j && opdOK x r
  | .call c, io => callOK P c io
  | _, _ => false

end Go.Idl
