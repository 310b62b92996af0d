/- The ideal machine and its evaluators, part 3; no conditions. -/
import Derived.Laws.Externs
import Derived.Lib.Bytealg
import Derived.KernelRfl
import Derived.Laws.LoneSync
import Derived.Laws.IdiomStrings
import Derived.Laws.BytesString
import Derived.Laws.RangeString
import Derived.Lib.Builder
import Derived.MapKept
import Derived.Lib.UnsafeStr
import Derived.Laws.Tables
import Derived.Test.YtjjmammoapggkaaGreatDoorIdlB
set_option linter.unusedSectionVars false
set_option linter.unusedVariables false
set_option linter.unusedSimpArgs false
namespace Go.Idl
open Go Go.Extern Go.Extern.Rtype
variable [Globs]
variable {P : Program} {o : Oper} {a : Act} {g : Gh} {O : List Nat} {w : World} {s : St} {res : Res} {cf : kt}
def jb4 (P : Program) (t : TypeId) : Option (TypeId × TypeInfo) :=
 match P.info? t with
 | some i => match i.desc with
   | .named _ u => match P.info? u with
     | some j => some (u, j)
     | none => none
   | _ => some (t, i)
 | none => none
theorem vK {t : TypeId} {r : TypeId × TypeInfo} (h : jb4 P t = some r) : (under t).run P w = .ok r w := by
 unfold jb4 at h;split at h
 . rename_i i hi;split at h
   . rename_i n u hd;split at h
     . rename_i j hj;simp only [zO] at h;subst h;simp [under, typeInfo, hi, hd, hj]
     . cases h
   . rename_i hd;simp only [zO] at h;subst h;simp only [under];simp only [typeInfo, Sem.run_bind, run_program, Result.andThen, hi];simp only [Sem.run_pure]
 . cases h
def jen (i : TypeInfo) : Option Nat :=
 match i.desc with
 | .bool => some 1
 | .int .i64 => some (if i.str == "int" then 2 else 6)
 | .int .i8 => some 3 | .int .i16 => some 4 | .int .i32 => some 5
 | .int .u64 => some (if i.str == "uint" then 7 else if i.str == "uintptr" then 12 else 11)
 | .int .u8 => some 8 | .int .u16 => some 9 | .int .u32 => some 10
 | .func _ _ _ => some 19 | .interface _ => some 20 | .map _ _ => some 21
 | .pointer _ => some 22 | .slice _ => some 23 | .string => some 24 | .struct _ => some 25
 | _ => none
def J6 (P : Program) (t : TypeId) : Option Nat := match jb4 P t with
 | some r => jen r.2
 | none => none
theorem Jm {t : TypeId} {k : Nat} (h : J6 P t = some k) : (kind t).run P w = .ok k w := by
 unfold J6 at h;split at h
 . rename_i r hr;simp only [kind, Sem.run_bind, vK hr, Result.andThen];unfold jen at h;split at h <;> first | (cases h; done) | (rename_i e; simp only [zO] at h; subst h; simp only [e]; rfl)
 . cases h
def jdV : TypeDesc -> Option TypeId
 | .array _ e => some e
 | .chan _ e => some e
 | .map _ e => some e
 | .pointer e => some e
 | .slice e => some e
 | _ => none
def XD (P : Program) (t : TypeId) : Option TypeId := match jb4 P t with
 | some r => jdV r.2.desc
 | none => none
theorem Xj {t e : TypeId} (h : XD P t = some e) : (elem? t).run P w = .ok (some e) w := by
 unfold XD at h;split at h
 . rename_i r hr;simp only [elem?, Sem.run_bind, vK hr, Result.andThen];unfold jdV at h;split at h <;> first | (cases h; done) | (rename_i e; simp only [zO] at h; subst h; simp only [e]; rfl)
 . cases h
def V8 : TypeDesc -> Bool
 | .named _ _ => true
 | .bool => true
 | .int _ => true
 | .float _ => true
 | .complex _ => true
 | .string => true
 | .unsafePointer => true
 | _ => false
theorem JS {t : TypeId} {i : TypeInfo} (h : P.info? t = some i) : (hasName t).run P w = .ok (V8 i.desc) w := by
 simp only [hasName, typeInfo, Sem.run_bind, run_program, Result.andThen, h, Sem.run_pure];unfold V8;split <;> rename_i e <;> first | rfl | simp_all
def daP (P : Program) (T V : TypeId) : Option Bool :=
 if T == V then some true else match P.info? T, P.info? V with
   | some i, some j => if V8 i.desc && V8 j.desc then some false else match jb4 P T, jb4 P V with
     | some (t, ti), some (v, vi) => match ti.desc with
       | .chan _ _ => none
       | _ => some (t == v)
     | _, _ => none
   | _, _ => none
theorem Zx {T U : TypeId} {b : Bool} (h : daP P T U = some b) : (directlyAssignable T U).run P w = .ok b w := by
 unfold daP at h;unfold directlyAssignable;split at h
 . rename_i e;simp only [zO] at h;subst h;simp [e]
 . rename_i e;split at h
   . rename_i i j hi hj;simp only [e, r8, if_false, Sem.run_bind, JS hi, JS hj, Result.andThen];split at h
     . rename_i hn;simp only [zO] at h;subst h;simp [hn]
     . rename_i hn;simp only [hn, r8, if_false, Sem.run_bind];split at h
       . rename_i t ti v vi ht hv;simp only [Sem.run_pure, Result.andThen, vK ht, vK hv];split at h
         . cases h
         . rename_i hd;simp only [zO] at h;subst h;split
           . rename_i e1 _; exact absurd e1 (hd _ _)
           . rfl
       . cases h
   . cases h
def Qq : TypeDesc -> Option (Array (String × TypeId))
 | .interface ms => some ms
 | _ => none
def XI (P : Program) (T U : TypeId) : Option Bool :=
 match jb4 P T, jb4 P U, P.info? U with
 | some r, some q, some i => match Qq r.2.desc, Qq q.2.desc with
   | none, _ => some false
   | some want, none => some (Go.lacking want i.methods).isEmpty
   | some _, some _ => none
 | _, _, _ => none
theorem K2 {T U : TypeId} {b : Bool} (h : XI P T U = some b) (h1 : P.methodsOfAPack P.depth T = false) (h2 : P.methodsOfAPack P.depth U = false) : (implements T U).run P w = .ok b w := by
 unfold XI at h;split at h
 . rename_i r q i hT hU hi;simp only [implements, noPackMethods, Sem.run_bind, run_program, Result.andThen, h1, h2, r8, if_false, Sem.run_pure, vK hT, vK hU];generalize r.2.desc = d1 at h ⊢;generalize q.2.desc = d2 at h ⊢;have hm : ∀ want, (Instr.missingMethod want i.methods).isNone = (Go.lacking want i.methods).isEmpty := by
     intro want
     by_cases e : Go.lacking want i.methods = []
     . rw [missingMethod_none e, e]; rfl
     . obtain ⟨m, hm⟩ := missingMethod_some e;rw [hm]
       cases hl : Go.lacking want i.methods with
       | nil => exact absurd hl e
       | cons a r => rfl
   cases d1 with
   | interface want =>
     cases d2 with
     | interface got => simp [Qq] at h
     | _ =>
       simp only [Qq, zO] at h;subst h;simp only [typeInfo, Sem.run_bind, run_program, Result.andThen, hi, Sem.run_pure, hm]
   | _ =>
     simp only [Qq, zO] at h;subst h;rfl
 . cases h
def XC (P : Program) (name : String) (t : TypeId) : Bool := match P.cutTypes.find? (·.1 == name) with
 | some (_, u) => t == u
 | none => false
theorem jdh {name : String} {t : TypeId} (h : XC P name t = true) : (cutType name).run P w = .ok t w := by
 unfold XC at h;split at h
 . rename_i n u hf;have := eq_of_beq h;subst this;simp [cutType, hf]
 . cases h
theorem z0 (t : TypeId) : (handle t).run P w = .ok (.pointer (some ⟨P.globals.size, t, none⟩)) w := rfl
theorem yt (t : TypeId) : (ofHandle (.pointer (some ⟨P.globals.size, t, none⟩))).run P w = .ok t w := by
 simp [ofHandle, handleType]
theorem yH {what : String} {t : TypeId} (h : P.packed t = false) : (noPack what t).run P w = .ok () w := by simp [noPack, h]
theorem Kb {what : String} {t : TypeId} (h : P.holdsPacked P.depth t = false) : (noPackHeld what t).run P w = .ok () w := by simp [noPackHeld, h]
theorem qB {what : String} {t : TypeId} (h : P.methodsOfAPack P.depth t = false) : (noPackMethods what t).run P w = .ok () w := by simp [noPackMethods, h]
theorem z3 {rt t : TypeId} (h : XC P "internal/reflectlite.rtype" rt = true) : (ReflectliteType.toType t).run P w = .ok (.iface rt (.agg #[.pointer (some ⟨P.globals.size, t, none⟩)])) w := by
 simp [ReflectliteType.toType, jdh h, z0, Result.andThen]
theorem XP (h : Value) : ReflectliteType.ofRtype (.agg #[h]) = (do let t <- ofHandle h; noPack "a Type asked or handed on" t; pure t) := rfl
theorem qC {t : TypeId} (h : P.packed t = false) : (ReflectliteType.ofRtype (.agg #[.pointer (some ⟨P.globals.size, t, none⟩)])).run P w = .ok t w := by
 rw [XP];simp [yt, yH h, Result.andThen]
def YE : ExtK -> String
 | .typeOf _ _ => "internal/reflectlite.TypeOf"
 | .vType _ _ => "(internal/reflectlite.Value).Type"
 | .vIsNil _ _ => "(internal/reflectlite.Value).IsNil"
 | .vElem _ _ => "(internal/reflectlite.Value).Elem"
 | .rElem _ _ _ => "(internal/reflectlite.rtype).Elem"
 | .rCmp _ _ => "(internal/reflectlite.rtype).Comparable"
 | .rImpl _ _ => "(internal/reflectlite.rtype).Implements"
 | .rAsg _ _ => "(internal/reflectlite.rtype).AssignableTo"
 | .aKind _ _ => "(*internal/abi.Type).Kind"
 | .cntS => "internal/bytealg.CountString"
 | .idxBS => "internal/bytealg.IndexByteString"
 | .mk0 a => if a then "internal/race.Disable" else "internal/race.Enable"
 | .mk1 a => if a then "internal/race.Acquire" else "internal/race.ReleaseMerge"
def Jy : ExtK -> Array Value -> Sem Value
 | .typeOf _ _ => ReflectliteType.typeOf
 | .vType _ _ => ReflectliteValue.methodAny (ReflectliteValue.valueError "reflectlite.Value.Type" 0) fun t _ _ _ => ReflectliteType.toType t
 | .vIsNil _ _ => ReflectliteValue.method (ReflectliteValue.valueError "reflectlite.Value.IsNil" 0) ReflectliteValue.isNil
 | .vElem _ _ => ReflectliteValue.method (ReflectliteValue.valueError "reflectlite.Value.Elem" 0) ReflectliteValue.elem
 | .rElem _ _ _ => ReflectliteType.method ReflectliteType.elem
 | .rCmp _ _ => ReflectliteType.method fun t => do noPackHeld "Comparable" t; pure (.bool (<- typeInfo t).comparable)
 | .rImpl _ _ => ReflectliteType.relation "Implements" ReflectliteType.implements_
 | .rAsg _ _ => ReflectliteType.relation "AssignableTo" ReflectliteType.assignableTo
 | .aKind _ _ => ReflectliteType.abiMethod fun t => do pure (.int .u8 (<- kind t))
 | .cntS => BytealgCount.count
 | .idxBS => BytealgIndexByte.indexByte
 | .mk0 a => if a then fun _ => do mark .disable; pure Race.none_ else fun _ => do mark .enable; pure Race.none_
 | .mk1 a => if a then Race.marked .acquire else Race.marked .releaseMerge
theorem jan {fn : Func} {k : ExtK} (h : fn.name = YE k) (ho : fn.origin = "") : Extern.findNext fn = none /\ Extern.find fn = some (Jy k) := by
 unfold Extern.findNext Extern.find;rw [h, ho];cases k
 case mk0 a => cases a <;> exact ⟨by kernel_rfl, by kernel_rfl⟩
 case mk1 a => cases a <;> exact ⟨by kernel_rfl, by kernel_rfl⟩
 all_goals exact ⟨by kernel_rfl, by kernel_rfl⟩
def Jz (P : Program) : ExtK -> Bool
 | .typeOf rt G => G == P.globals.size && XC P "internal/reflectlite.rtype" rt
 | .vType rt G => G == P.globals.size && XC P "internal/reflectlite.rtype" rt
 | .vIsNil G tab => G == P.globals.size && tab.all fun t => !P.packed t && tyN P t none
 | .vElem G tab => G == P.globals.size && tab.all fun p => !P.packed p.1 && (tyN P p.1 none && (XD P p.1 == some p.2.1 && J6 P p.2.1 == some p.2.2))
 | .rElem rt G tab => G == P.globals.size && (XC P "internal/reflectlite.rtype" rt && tab.all fun p => !P.packed p.1 && XD P p.1 == some p.2)
 | .rCmp G tab => G == P.globals.size && tab.all fun p => !P.packed p.1 && (!P.holdsPacked P.depth p.1 && (match P.info? p.1 with | some i => i.comparable == p.2 | none => false))
 | .rImpl G tab => G == P.globals.size && tab.all fun p => !P.packed p.1.1 && (!P.packed p.1.2 && (!P.methodsOfAPack P.depth p.1.1 && (!P.methodsOfAPack P.depth p.1.2 && (J6 P p.1.2 == some 20 && XI P p.1.2 p.1.1 == some p.2))))
 | .rAsg G tab => G == P.globals.size && tab.all fun p => !P.packed p.1.1 && (!P.packed p.1.2 && (!P.methodsOfAPack P.depth p.1.1 && (!P.methodsOfAPack P.depth p.1.2 && (match daP P p.1.2 p.1.1, XI P p.1.2 p.1.1 with | some a, some b => (a || b) == p.2 | _, _ => false))))
 | .aKind G tab => G == P.globals.size && tab.all fun p => !P.packed p.1 && J6 P p.1 == some p.2
 | _ => true
theorem jcc (c : UInt8) : ∀ (l : List UInt8) (n : Nat), X8 c.toNat l n = n + Lib.countByte l c := by
 intro l
 induction l with
 | nil => intro n; simp [X8, Lib.countByte]
 | cons b l ih =>
   intro n;have hb : Nat.beq b.toNat c.toNat = (b == c) := by
     cases h : b == c with
     | true => have := eq_of_beq h; subst this; exact Nat.beq_refl _
     | false =>
       cases h' : Nat.beq b.toNat c.toNat with
       | false => rfl
       | true => have := UInt8.toNat.inj (zN h'); subst this; simp at h
   simp only [X8, ih, hb, Lib.countByte, List.count_cons];cases b == c <;> simp; omega
theorem jcq (c : UInt8) : ∀ (l : List UInt8) (k : Nat), Q2 c.toNat l k = if Lib.indexByte l c = -1 then -1 else Lib.indexByte l c + k := by
 intro l
 induction l with
 | nil => intro k; simp [Q2, Lib.indexByte]
 | cons b l ih =>
   intro k;have hb : Nat.beq b.toNat c.toNat = (b == c) := by
     cases h : b == c with
     | true => have := eq_of_beq h; subst this; exact Nat.beq_refl _
     | false =>
       cases h' : Nat.beq b.toNat c.toNat with
       | false => rfl
       | true => have := UInt8.toNat.inj (zN h'); subst this; simp at h
   have hge := Lib.indexByte_ge l c;have e : Lib.indexByte (b :: l) c = if b == c then 0 else if Lib.indexByte l c == -1 then -1 else Lib.indexByte l c + 1 := rfl
   generalize Lib.indexByte (b :: l) c = x at e ⊢;simp only [Q2, ih, hb];generalize Lib.indexByte l c = y at e hge ⊢
   cases hbc : b == c with
   | true => rw [hbc] at e; simp at e; subst e; simp
   | false =>
     rw [hbc] at e;simp at e
     by_cases h : y = -1
     . simp [h] at e ⊢; simp [e]
     . simp [h] at e ⊢;subst e;rw [if_neg (by omega)];omega
theorem qP {G : Nat} {h : IVal} {hv : Value} {t : TypeId} (hV : V g h hv) (ht : K9 G h = some t) : hv = .pointer (some ⟨G, t, none⟩) := by
 unfold K9 at ht;split at ht
 . split at ht
   . rename_i e;simp only [zO] at ht;subst ht e;cases hV; rfl
   . cases ht
 . cases ht
theorem yA {h : IVal} {u : Value} (hV : V g (.agg [h]) u) : ∃ hv, u = .agg #[hv] /\ V g h hv := by
 cases hV with
 | agg _ vs hl hv hi =>
   obtain ⟨hv', e⟩ : ∃ x, vs = #[x] := by
     obtain ⟨l⟩ := vs
     match l, hl with
     | [x], _ => exact ⟨x, rfl⟩
   subst e;exact ⟨hv', rfl, hv 0 _ _ rfl rfl⟩
theorem ze {h p q : IVal} {u : Value} (hV : V g (.agg [h, p, q]) u) : ∃ hv pv qv, u = .agg #[hv, pv, qv] /\ V g h hv /\ V g p pv /\ V g q qv := by
 cases hV with
 | agg _ vs hl hv hi =>
   obtain ⟨x, y, z, e⟩ : ∃ x y z, vs = #[x, y, z] := by
     obtain ⟨l⟩ := vs
     match l, hl with
     | [x, y, z], _ => exact ⟨x, y, z, rfl⟩
   subst e;exact ⟨x, y, z, rfl, hv 0 _ _ rfl rfl, hv 1 _ _ rfl rfl, hv 2 _ _ rfl rfl⟩
theorem Vz {r : Bool} {c : IVal} {u : Value} (hV : V g (.pv r [c] 0) u) : ∃ b o cv, u = .pointer (some ⟨b, o, none⟩) /\ V g c cv /\ c.isCell = true /\ g.M b o = some cv /\ un1 c = c := by
 cases hV with
 | pv _ _ _ vs a hs ho hl hv hf hr hm =>
   obtain ⟨cv, e⟩ : ∃ x, vs = [x] := by
     match vs, hl with
     | [x], _ => exact ⟨x, rfl⟩
   subst e;obtain ⟨b, o, sp⟩ := a;simp only at hs;subst hs;exact ⟨b, o, cv, rfl, hv 0 _ _ rfl rfl, (hf c (by simp)).2, by have := hm 0 cv rfl; simpa using this, (hf c (by simp)).1⟩
theorem QE {r : Bool} {cs : List IVal} {off : Nat} {u : Value} (hV : V g (.pv r cs off) u) : ∃ a, u = .pointer (some a) := by
 cases hV with
 | pv _ _ _ vs a hs ho hl hv hf hr hm => exact ⟨a, rfl⟩
theorem jfR (g : Gh) (rt G : Nat) (t : TypeId) : V g (rtI rt G t) (.iface rt (.agg #[.pointer (some ⟨G, t, none⟩)])) /\ kl (rtI rt G t) (.iface rt (.agg #[.pointer (some ⟨G, t, none⟩)])) = [] := by
 refine ⟨.iface _ _ _ (.agg _ _ rfl (fun i x v hx hv => ?_) (by simp [V3, IVal.isCell])) ⟨rfl, rfl⟩, rfl⟩
 cases i with
 | zero => simp at hx hv; subst hx hv; exact .prim _ rfl
 | succ i => simp at hx
theorem Qu (z : Sem Value) (f : TypeId -> Addr -> Nat -> Nat -> Sem Value) (v : Value) :
   ReflectliteValue.methodAny z f #[v] = (do match <- ReflectliteValue.partsAny v with | none => z | some (t, a, fl) => f t a fl (fl % 32)) := rfl
theorem Qv (z : Sem Value) (f : TypeId -> Addr -> Nat -> Nat -> Sem Value) (v : Value) :
   ReflectliteValue.method z f #[v] = (do match <- ReflectliteValue.parts v with | none => z | some (t, a, fl) => f t a fl (fl % 32)) := rfl
def vfl (f : Int) : Prop := f = 150 \/ f = 406
theorem z9 {t : TypeId} {ad : Addr} {f : Int} (hf : vfl f) : (ReflectliteValue.partsAny (.agg #[.pointer (some ⟨P.globals.size, t, none⟩), .pointer (some ad), .int .u64 f])).run P w = .ok (some (t, ad, f.toNat)) w := by
 have e : ReflectliteValue.partsAny (.agg #[.pointer (some ⟨P.globals.size, t, none⟩), .pointer (some ad), .int .u64 f]) = (do pure (some (<- ofHandle (.pointer (some ⟨P.globals.size, t, none⟩)), ad, f.toNat))) := by
   rcases hf with rfl | rfl <;> rfl
 rw [e];simp [yt, Result.andThen]
theorem zy {t : TypeId} {ad : Addr} {f : Int} (hf : vfl f) (hp : P.packed t = false) : (ReflectliteValue.parts (.agg #[.pointer (some ⟨P.globals.size, t, none⟩), .pointer (some ad), .int .u64 f])).run P w = .ok (some (t, ad, f.toNat)) w := by
 simp [ReflectliteValue.parts, z9 hf, yH hp, Result.andThen]
theorem JU {T : TypeId} {b o : Nat} {c : IVal} {cv : Value} (hT : tyN P T none = true) (hV : V g c cv) (hc : c.isCell = true) (hm : w.cell? ⟨b, o, none⟩ = some cv) : ∃ u, (loadVar T ⟨b, o, none⟩).run P w = .ok u w /\ V g c u := by
 obtain ⟨u, h1, h2, -⟩ := v8 (P := P) (w := w) (n := none) (cs := [c]) (vs := [cv]) (b := b) (e := o) (off := 0) (z := c) hT (rP _) (fun i x v hx hv => by
   cases i with
   | zero => simp at hx hv; subst hx hv; exact hV
   | succ i => simp at hx) (by simpa using hc) (fun j v hj => by
   cases j with
   | zero => simp at hj; subst hj; exact hm
   | succ j => simp at hj) rfl
 exact ⟨u, h1, h2⟩
theorem vO {vs : List IVal} {us : List Value} {x : IVal} (e : vs = [x]) (hl : vs.length = us.length) (hv : ∀ (i : Nat) x u, vs[i]? = some x -> us[i]? = some u -> V g x u) : ∃ u, us = [u] /\ V g x u := by
 subst e
 match us, hl with
 | [u], _ => exact ⟨u, rfl, hv 0 _ _ rfl rfl⟩
theorem Jr {vs : List IVal} {us : List Value} {x y : IVal} (e : vs = [x, y]) (hl : vs.length = us.length) (hv : ∀ (i : Nat) x u, vs[i]? = some x -> us[i]? = some u -> V g x u) : ∃ u v, us = [u, v] /\ V g x u /\ V g y v := by
 subst e
 match us, hl with
 | [u, v], _ => exact ⟨u, v, rfl, hv 0 _ _ rfl rfl, hv 1 _ _ rfl rfl⟩
theorem qU {α : Type} {p : α -> Bool} {l : List α} {x : α} (h : l.find? p = some x) : x ∈ l /\ p x = true := ⟨List.mem_of_find?_eq_some h, List.find?_some h⟩
theorem iface_inv {t : TypeId} {x : IVal} {u : Value} (hV : V g (.iface t x) u) : ∃ v, u = .iface t v /\ V g x v /\ vl x := by
 cases hV with
 | iface _ _ v hv hf => exact ⟨v, rfl, hv, hf⟩
theorem JQ (f : TypeId -> Sem Value) (r : Value) : ReflectliteType.method f #[r] = (do f (<- ReflectliteType.ofRtype r)) := rfl
theorem JN (n : String) (f : TypeId -> TypeId -> Sem Bool) (r v : Value) (u : TypeId) : ReflectliteType.relation n f #[r, .iface u v] = (do pure (.bool (<- f (<- ReflectliteType.ofRtype v) (<- ReflectliteType.ofRtype r)))) := rfl
theorem jdJ (f : TypeId -> Sem Value) (h : Value) : ReflectliteType.abiMethod f #[h] = (do let t <- ofHandle h; noPack "a method of abi.Type" t; f t) := rfl
theorem jcl {k : ExtK} (hk : Jz P k = true) {vs : List IVal} {us : List Value} (hl : vs.length = us.length) (hv : ∀ (i : Nat) x u, vs[i]? = some x -> us[i]? = some u -> V g x u)
   (hm : ∀ b o c, g.M b o = some c -> w.cell? ⟨b, o, none⟩ = some c) {v : IVal} (h : j5 k vs = some v) : ∃ u, (Jy k us.toArray).run P w = .ok u w /\ V g v u /\ kl v u = [] := by
 unfold j5 at h;split at h
 . -- typeOf
   rename_i rt G t x;simp only [zO] at h;subst h;simp only [Jz, zA, beq_iff_eq] at hk;obtain ⟨rfl, hk⟩ := hk;obtain ⟨u, rfl, hV⟩ := vO rfl hl hv;obtain ⟨v, rfl, -, -⟩ := iface_inv hV;exact ⟨_, z3 hk, jfR g rt _ t⟩
 . -- vType
   rename_i rt G hd r cs off f;split at h
   . rename_i t ht;split at h
     . rename_i hf;simp only [zO] at h;subst h;simp only [Jz, zA, beq_iff_eq] at hk;obtain ⟨rfl, hk⟩ := hk;obtain ⟨u, rfl, hV⟩ := vO rfl hl hv;obtain ⟨hv', pv, qv, rfl, v1, v2, v3⟩ := ze hV;have := qP v1 ht; subst this;obtain ⟨ad, rfl⟩ := QE v2;cases v3;refine ⟨_, ?_, jfR g rt _ t⟩;simp only [Jy];rw [Qu];simp only [Sem.run_bind, z9 (.inl hf), Result.andThen, z3 hk]
     . cases h
   . cases h
 . -- vIsNil
   rename_i G tab hd r c f;split at h
   . rename_i t ht;split at h
     . rename_i hf;obtain ⟨hf, hc⟩ := hf;simp only [Jz, zA, beq_iff_eq, rD, tT] at hk;obtain ⟨rfl, hk⟩ := hk;obtain ⟨hp, hT⟩ := hk t (List.contains_iff_mem.1 hc);obtain ⟨u, rfl, hV⟩ := vO rfl hl hv;obtain ⟨hv', pv, qv, rfl, v1, v2, v3⟩ := ze hV;have := qP v1 ht; subst this;obtain ⟨b, o, cv, rfl, vc, hcell, hM, -⟩ := Vz v2;cases v3;obtain ⟨lu, hlu, vlu⟩ := JU (w := w) hT vc hcell (hm _ _ _ hM);have e : ∀ p, lu = .pointer p -> (Jy (.vIsNil P.globals.size tab) [Value.agg #[.pointer (some ⟨P.globals.size, t, none⟩), .pointer (some ⟨b, o, none⟩), .int .u64 f]].toArray).run P w = .ok (.bool p.isNone) w := by
         intro p hp';simp only [Jy];rw [Qv];subst hf hp';simp only [Sem.run_bind, zy (.inl rfl) hp, Result.andThen, ReflectliteValue.isNil];simp [hlu, Result.andThen];cases p <;> rfl
       split at h
       . simp only [zO] at h; subst h;cases vlu;exact ⟨_, e _ rfl, .bool _, rfl⟩
       . simp only [zO] at h; subst h;cases vlu;exact ⟨_, e _ rfl, .bool _, rfl⟩
       . simp only [zO] at h; subst h;obtain ⟨ad, rfl⟩ := QE vlu;exact ⟨_, e _ rfl, .bool _, rfl⟩
       . cases h
     . cases h
   . cases h
 . -- vElem
   rename_i G tab hd r c f;split at h
   . rename_i t ht;split at h
     . rename_i hf;split at h
       . rename_i t' e k hfind;split at h
         . rename_i id off;simp only [zO] at h;subst h;simp only [Jz, zA, beq_iff_eq, rD, tT] at hk;obtain ⟨rfl, hk⟩ := hk;obtain ⟨hmem, he⟩ := qU hfind;have := eq_of_beq he; subst this;obtain ⟨hp, hT, hE, hK⟩ := hk _ hmem;obtain ⟨u, rfl, hV⟩ := vO rfl hl hv;obtain ⟨hv', pv, qv, rfl, v1, v2, v3⟩ := ze hV;have := qP v1 ht; subst this;obtain ⟨b, o, cv, rfl, vc, hcell, hM, -⟩ := Vz v2;cases v3;obtain ⟨lu, hlu, vlu⟩ := JU (w := w) hT vc hcell (hm _ _ _ hM);subst hf
           cases vlu with
           | ptr _ _ b' hb' =>
           refine ⟨.agg #[.pointer (some ⟨P.globals.size, e, none⟩), .pointer (some ⟨b', off, none⟩), .int .u64 (k + 384 : Nat)], ?_, .agg _ _ rfl (fun i x v hx hv' => ?_) (by simp [V3, IVal.isCell]), rfl⟩
           . simp only [Jy];rw [Qv];simp only [Sem.run_bind, zy (.inl rfl) hp, Result.andThen, ReflectliteValue.elem];have e1 : ((150 : Int).toNat % 32 != 20 && (150 : Int).toNat % 32 != 22) = false := rfl;simp only [e1, r8, if_false, Sem.run_bind, hlu, Result.andThen, Xj hE];show (ReflectliteValue.mk e ⟨b', off, none⟩ ReflectliteValue.flagAddr).run P w = _;simp [ReflectliteValue.mk, z0, Jm hK, Result.andThen, ReflectliteValue.flagIndir, ReflectliteValue.flagAddr];omega
           . match i with
             | 0 => simp at hx hv'; subst hx hv'; exact .prim _ rfl
             | 1 => simp at hx hv'; subst hx hv'; exact .ptr _ _ _ hb'
             | 2 => simp at hx hv'; subst hx hv'; exact .int _ _
             | i + 3 => simp at hx
         . cases h
       . cases h
     . cases h
   . cases h
 . -- rElem
   rename_i rt G tab hd;split at h
   . rename_i t ht;split at h
     . rename_i u e hf;simp only [zO] at h;subst h;simp only [Jz, zA, beq_iff_eq, rD, tT] at hk;obtain ⟨rfl, hcut, hk⟩ := hk;obtain ⟨hmem, he⟩ := qU hf;have := eq_of_beq he; subst this;obtain ⟨hp, hE⟩ := hk _ hmem;obtain ⟨u', rfl, hV⟩ := vO rfl hl hv;obtain ⟨hv', rfl, v1⟩ := yA hV;have := qP v1 ht; subst this;refine ⟨_, ?_, jfR g rt _ e⟩;simp only [Jy];rw [JQ];simp only [Sem.run_bind, qC hp, Result.andThen, ReflectliteType.elem, Xj hE, z3 hcut]
     . cases h
   . cases h
 . -- rCmp
   rename_i G tab hd;split at h
   . rename_i t ht;split at h
     . rename_i u b hf;simp only [zO] at h;subst h;simp only [Jz, zA, beq_iff_eq, rD, tT] at hk;obtain ⟨rfl, hk⟩ := hk;obtain ⟨hmem, he⟩ := qU hf;have := eq_of_beq he; subst this;obtain ⟨hp, hH, hE⟩ := hk _ hmem;split at hE
       . rename_i i hi;have hE := eq_of_beq hE;simp only at hE;subst hE;obtain ⟨u', rfl, hV⟩ := vO rfl hl hv;obtain ⟨hv', rfl, v1⟩ := yA hV;have := qP v1 ht; subst this;refine ⟨.bool i.comparable, ?_, .bool _, rfl⟩;simp only [Jy];rw [JQ];simp only [Sem.run_bind, qC hp, Result.andThen, Kb hH, typeInfo, run_program, hi, Sem.run_pure]
       . cases hE
     . cases h
   . cases h
 . -- rImpl
   rename_i G tab hd u0 hd';split at h
   . rename_i t t' ht ht';split at h
     . rename_i p b hf;simp only [zO] at h;subst h;simp only [Jz, zA, beq_iff_eq, rD, tT] at hk;obtain ⟨rfl, hk⟩ := hk;obtain ⟨hmem, he⟩ := qU hf;simp only [zA, beq_iff_eq] at he;obtain ⟨e1, e2⟩ := he;subst e1 e2;obtain ⟨hp, hp', hM, hM', hK, hI⟩ := hk _ hmem;obtain ⟨x, y, rfl, hV, hV'⟩ := Jr rfl hl hv;obtain ⟨hv1, rfl, v1⟩ := yA hV;obtain ⟨y', rfl, hV', -⟩ := iface_inv hV';obtain ⟨hv2, rfl, v2⟩ := yA hV';have := qP v1 ht; subst this;have := qP v2 ht'; subst this;refine ⟨.bool b, ?_, .bool _, rfl⟩;simp only [Jy];show (ReflectliteType.relation _ _ #[_, _]).run P w = _;rw [JN];have e20 : ((20 : Nat) != 20) = false := rfl;have hrun : (ReflectliteType.implements_ p.2 p.1).run P w = .ok b w := by
         simp only [ReflectliteType.implements_, Sem.run_bind, Jm hK, Result.andThen, e20, r8, if_false, qB hM, yH hp', K2 hI hM' hM]
       simp only [Sem.run_bind, qC hp, qC hp', Result.andThen, hrun, Sem.run_pure]
     . cases h
   . cases h
 . -- rAsg
   rename_i G tab hd u0 hd';split at h
   . rename_i t t' ht ht';split at h
     . rename_i p b hf;simp only [zO] at h;subst h;simp only [Jz, zA, beq_iff_eq, rD, tT] at hk;obtain ⟨rfl, hk⟩ := hk;obtain ⟨hmem, he⟩ := qU hf;simp only [zA, beq_iff_eq] at he;obtain ⟨e1, e2⟩ := he;subst e1 e2;obtain ⟨hp, hp', hM, hM', hI⟩ := hk _ hmem;split at hI
       . rename_i b1 b2 hd1 hd2;have hI := eq_of_beq hI;simp only at hI;subst hI;obtain ⟨x, y, rfl, hV, hV'⟩ := Jr rfl hl hv;obtain ⟨hv1, rfl, v1⟩ := yA hV;obtain ⟨y', rfl, hV', -⟩ := iface_inv hV';obtain ⟨hv2, rfl, v2⟩ := yA hV';have := qP v1 ht; subst this;have := qP v2 ht'; subst this;refine ⟨.bool (b1 || b2), ?_, .bool _, rfl⟩;simp only [Jy];show (ReflectliteType.relation _ _ #[_, _]).run P w = _;rw [JN];have hrun : (ReflectliteType.assignableTo p.2 p.1).run P w = .ok (b1 || b2) w := by
           simp only [ReflectliteType.assignableTo];split
           . simp only [Sem.run_bind, qB hM, qB hM', Result.andThen, Zx hd1, K2 hd2 hM' hM, Sem.run_pure]
           . simp only [Sem.run_bind, Result.andThen, Zx hd1, K2 hd2 hM' hM, Sem.run_pure]
         simp only [Sem.run_bind, qC hp, qC hp', Result.andThen, hrun, Sem.run_pure]
       . cases hI
     . cases h
   . cases h
 . -- aKind
   rename_i G tab hd;split at h
   . rename_i t ht;split at h
     . rename_i u n hf;simp only [zO] at h;subst h;simp only [Jz, zA, beq_iff_eq, rD, tT] at hk;obtain ⟨rfl, hk⟩ := hk;obtain ⟨hmem, he⟩ := qU hf;have := eq_of_beq he; subst this;obtain ⟨hp, hK⟩ := hk _ hmem;obtain ⟨u', rfl, hV⟩ := vO rfl hl hv;have := qP hV ht; subst this;refine ⟨.int .u8 n, ?_, .int _ _, rfl⟩;simp only [Jy];rw [jdJ];simp only [Sem.run_bind, yt, yH hp, Result.andThen, Jm hK, Sem.run_pure]
     . cases h
   . cases h
 . -- cntS
   rename_i sb c;simp only [zO] at h;subst h;obtain ⟨u, v, rfl, hV, hW⟩ := Jr rfl hl hv
   cases hV with
   | str bs =>
   cases hW;refine ⟨_, Lib.run_countString bs c w, ?_⟩;have e : c.toNat % 256 = c.toNat.toUInt8.toNat := by simp
   rw [e, jcc, tS];exact ⟨.int _ _, rfl⟩
 . -- idxBS
   rename_i sb c;simp only [zO] at h;subst h;obtain ⟨u, v, rfl, hV, hW⟩ := Jr rfl hl hv
   cases hV with
   | str bs =>
   cases hW;refine ⟨_, Lib.run_indexByteString bs c w, ?_⟩;have e : c.toNat % 256 = c.toNat.toUInt8.toNat := by simp
   rw [e, jcq];have e2 : (if Lib.indexByte bs.data.toList c.toNat.toUInt8 = -1 then (-1 : Int) else Lib.indexByte bs.data.toList c.toNat.toUInt8 + (0 : Nat)) = Lib.indexByte bs.data.toList c.toNat.toUInt8 := by
     split <;> simp_all
   rw [e2];exact ⟨.int _ _, rfl⟩
 . -- mk0
   rename_i a;simp only [zO] at h;subst h;refine ⟨.tuple #[], ?_, .tup _ _ rfl (by simp) (by simp), rfl⟩;cases a <;> rfl
 . -- mk1
   rename_i a id off;simp only [zO] at h;subst h;obtain ⟨u, rfl, hV⟩ := vO rfl hl hv;obtain ⟨b, rfl, -⟩ := hV.ptr_inv;refine ⟨.tuple #[], ?_, .tup _ _ rfl (by simp) (by simp), rfl⟩;cases a <;> rfl
 . cases h
end Go.Idl
namespace Go.Idl
open Go.Extern Go.Extern.Rtype
variable [Globs]
variable {P : Program} {o : Oper} {a : Act} {g : Gh} {O : List Nat} {w : World} {s : St} {res : Res} {cf : kt}
def ja0 (P : Program) (t : TypeId) (ptr : Bool) : Bool :=
 match P.underlying t with
 | some (.pointer _) => ptr
 | some _ => !ptr
 | none => false
theorem yU {t : TypeId} {ptr : Bool} {v : Value} {wr : Option String} (h : ja0 P t ptr = true) : (receiverAt t (.val v) ptr wr).run P w = .ok v w := by
 unfold ja0 at h;split at h
 . rename_i e hu;subst h;simp [receiverAt, run_underlying hu, Result.andThen, Place.get]
 . rename_i d hne hu
   cases ptr with
   | true => simp at h
   | false =>
     simp only [receiverAt, Sem.run_bind, run_underlying hu, Result.andThen]; rfl
 . cases h
def JM (P : Program) (t : TypeId) (name : String) (f : FuncId) (rk : RecvK) : Bool :=
 match P.info? t with
 | some i => match i.methods.find? (fun m => m.name == name) with
   | some m => match m.func with
     | some (f', ptr) => f == f' && (match rk, m.path.toList with
       | .same, [] => ja0 P t ptr
       | .fld off n, [s] => !s.deref && (match P.underlying s.struct with
         | some (.struct fs) => match fs[s.index]? with
           | some fd => fd.offset == off && (tyN P fd.type n && ja0 P fd.type ptr)
           | none => false
         | _ => false)
       | _, _ => false)
     | none => false
   | none => false
 | none => false
theorem Kv {fuel : Nat} {t : TypeId} {name : String} {f : FuncId} {rk : RecvK} {x y : IVal} {v : Value} (h : JM P t name f rk = true) (hV : V g x v) (hf : vl x) (hy : J8 rk x = some y) :
   ∃ u, (Go.method (fuel + 1) t v name).run P w = .ok (f, u) w /\ V g y u /\ kl y u = [] := by
 unfold JM at h;split at h
 . rename_i i hi;split at h
   . rename_i m hm;split at h
     . rename_i f' ptr hfn;simp only [zA, beq_iff_eq] at h;obtain ⟨rfl, h⟩ := h;split at h
       . rename_i hp;simp only [J8, zO] at hy;subst hy;refine ⟨v, ?_, hV, kx hf v⟩;simp only [Go.method, typeInfo, Sem.run_bind, run_program, Result.andThen, hi, Sem.run_pure, hm, hp, follow, hfn, yU h]
       . rename_i off n st hp;simp only [zA, tT] at h;obtain ⟨hd, h⟩ := h;split at h
         . rename_i fs hs;split at h
           . rename_i fd hfd;simp only [zA, beq_iff_eq] at h;obtain ⟨ho, hT, hr⟩ := h;subst ho
             cases x with
             | agg cs =>
               simp only [J8] at hy;obtain ⟨vs, rfl, hl', hv, hc⟩ := hV.agg_inv;obtain ⟨u, hu, hVu, hou⟩ := zx (P := P) (w := w) hT hl' hv hc hy;refine ⟨u, ?_, hVu, ?_⟩
               . simp only [Go.method, typeInfo, Sem.run_bind, run_program, Result.andThen, hi, Sem.run_pure, hm, hp, follow, run_underlying hs, hfd, hd, r8, if_false, hu, hfn, yU hr]
               . have := kx hf (.agg vs);simp only [kl, yg] at this;rw [this] at hou;exact List.sublist_nil.1 hou
             | _ => simp [J8] at hy
           . cases h
         . cases h
       . cases h
     . cases h
   . cases h
 . cases h
theorem JA (x : Value) (us : Array Value) : (#[x] ++ us).extract 1 (#[x] ++ us).size = us := by
 apply Array.ext';simp
def XJ (P : Program) (f : FuncId) (k : ExtK) : Bool := match P.funcs[f]? with
 | some fn => fn.name == YE k && (fn.origin == "" && (fn.body.isNone && Jz P k))
 | none => false
theorem Zy {f : FuncId} {k : ExtK} (h : XJ P f k = true) {vs : List IVal} {us : Array Value} (hl : vs.length = us.toList.length) (hv : ∀ (i : Nat) x u, vs[i]? = some x -> us.toList[i]? = some u -> V g x u)
   (hm : ∀ b o c, g.M b o = some c -> w.cell? ⟨b, o, none⟩ = some c) {v : IVal} (he : j5 k vs = some v) : ∃ u, (callFunc f us).run P w = .ok (.value u) w /\ V g v u /\ kl v u = [] := by
 unfold XJ at h;split at h
 . rename_i fn hf;simp only [zA, beq_iff_eq] at h;obtain ⟨h1, h2, h3, h4⟩ := h;obtain ⟨e1, e2⟩ := jan h1 h2;obtain ⟨u, q1, q2, q3⟩ := jcl (w := w) h4 hl hv hm he;refine ⟨u, ?_, q2, q3⟩;rw [run_callFunc_extern hf (by rw [h1]; cases k <;> first | rfl | (rename_i a; cases a <;> rfl)) h3 e1 e2];have e : us.toList.toArray = us := by simp
   rw [e] at q1;rw [q1]; rfl
 . cases h
theorem jc7 {k : ExtK} {c : Call} {f : FuncId} (hop : o.op = .call c) (hc : c.callee = .value (.func f)) (h : XJ P f k = true) : q9 P o a (.ext k) c.args.toList := by
 intro g w vs v hl hv hm he;obtain ⟨u, q1, q2, q3⟩ := Zy (w := w) (us := c.args.map a.eval) h (by simpa using hl) (fun i x u hx hu => by
   simp only [Array.toList_map, rJ, rT] at hu;obtain ⟨r, hr, rfl⟩ := hu;exact hv i x r hx hr) hm he
 refine ⟨u, ?_, q2, q3⟩;simp only [execOp, hop, resolve, hc, Act.eval, Deferred.ofValue, Sem.run_bind, Sem.run_pure, Result.andThen, invoke];simpa using q1
theorem jaS {tab : List (TypeId × ExtK × RecvK)} {c : Call} {r : Operand} {name : String} (hop : o.op = .call c) (hc : c.callee = .invoke r name)
   (h : ∀ p ∈ tab, ∃ f, JM P p.1 name f p.2.2 = true /\ XJ P f p.2.1 = true) : q9 P o a (.invX tab) (r :: c.args.toList) := by
 intro g w vs v hl hv hm he
 cases vs with
 | nil => simp [jS] at he
 | cons x0 vs =>
 cases x0 with
 | iface t x =>
   simp only [jS] at he;split at he
   . rename_i t' k rk hfind;split at he
     . rename_i y hy;obtain ⟨hmem, ht⟩ := qU hfind;have := eq_of_beq ht; subst this;obtain ⟨f, hr, hx⟩ := h _ hmem;obtain ⟨xv, hxv, hVx, hfx⟩ := iface_inv (hv 0 _ r rfl rfl);obtain ⟨u, q1, q2, q3⟩ := Kv (w := w) (fuel := P.types.size + (Made.depth - 1)) hr hVx hfx hy;obtain ⟨u', p1, p2, p3⟩ := Zy (w := w) (us := #[u] ++ c.args.map a.eval) hx (by simpa using hl) (fun i x u' hx hu => by
         cases i with
         | zero => simp at hx hu; subst hx hu; exact q2
         | succ i =>
           simp only [List.getElem?_cons_succ] at hx;have hu' : (c.args.toList.map a.eval)[i]? = some u' := by simpa using hu
           simp only [rJ, rT] at hu';obtain ⟨r', hr', rfl⟩ := hu';exact hv (i + 1) x r' (by rw [List.getElem?_cons_succ]; exact hx) (by rw [List.getElem?_cons_succ]; exact hr')) hm he
       refine ⟨u', ?_, p2, p3⟩;have hfu : P.types.size + Made.depth = P.types.size + (Made.depth - 1) + 1 := rfl;have harg : (#[Value.iface t' xv] ++ c.args.map a.eval)[0]? = some (.iface t' xv) := by rw [Array.getElem?_append_left (by simp)]; rfl
       simp only [execOp, hop, resolve, hc, Sem.run_bind, Sem.run_pure, Result.andThen, invoke, hxv];rw [harg];simp only [JA, callMethod, Sem.run_bind, run_program, Result.andThen, hfu, q1];exact p1
     . cases he
   . cases he
 | _ => simp [jS] at he
end Go.Idl
namespace Go.Idl
open Go.Extern Go.Extern.Rtype
variable [Globs]
variable {P : Program} {o : Oper} {a : Act} {g : Gh} {O : List Nat} {w : World} {s : St} {res : Res} {cf : kt}
theorem Zj {tab : List (TypeId × FuncId × RecvK)} {c : Call} {r : Operand} {name : String} {x : Opd} {xs : List Opd} {C0 : Q5} (hcf : CallOK P C0 cf) (hC : g.C = C0) (hop : o.op = .call c) (hc : c.callee = .invoke r name)
   (hr : jL x r = true) (hx : ka xs c.args.toList = true) (ht : ∀ p ∈ tab, JM P p.1 name p.2.1 p.2.2 = true) (hs : ja cf (.inv tab x xs) s = some res)
   (hl : WT s.ts a.tmps) (hR : R g O (s.ts.roots a.tmps) s.σ w) : OpRes P o a g O w s res := by
 simp only [ja] at hs;split at hs
 . rename_i t v ts h;split at hs
   . rename_i t' f rk hfind;split at hs
     . rename_i y hy;split at hs
       . rename_i vs ts' h';obtain ⟨hmem, he⟩ := qU hfind;have := eq_of_beq he; subst this;obtain ⟨h1, h2⟩ := jI (l := []) hr h hl hR;obtain ⟨h3, h4, h5⟩ := kD (l := [(.iface t' v, a.eval r)]) hx h' h2 h1;have hV : V g (.iface t' v) (a.eval r) := h3.vals (.iface t' v, a.eval r) (by simp);obtain ⟨xv, hxv, hVx, hfx⟩ := iface_inv hV;obtain ⟨u, q1, q2, q3⟩ := Kv (w := w) (fuel := P.types.size + (Made.depth - 1)) (ht _ hmem) hVx hfx hy;have hbase : R g O (vs.zip (c.args.toList.map a.eval) ++ ts'.roots a.tmps) s.σ w := by
           have hp : (vs.zip (c.args.toList.map a.eval) ++ ([(IVal.iface t' v, a.eval r)] ++ ts'.roots a.tmps)).Perm ((IVal.iface t' v, a.eval r) :: (vs.zip (c.args.toList.map a.eval) ++ ts'.roots a.tmps)) := tW;exact (h3.perm hp).drop
         refine zW (rargs := #[u] ++ c.args.map a.eval) hcf hC (fun c' h => by rw [hop] at h; cases h) (fun hf => ?_) (by simp at h5 ⊢; omega) ?_ h4 hs
         . obtain ⟨fn, f1, f2, f3⟩ := hf;have hfu : P.types.size + Made.depth = P.types.size + (Made.depth - 1) + 1 := rfl;have harg : (#[Value.iface t' xv] ++ c.args.map a.eval)[0]? = some (.iface t' xv) := by rw [Array.getElem?_append_left (by simp)]; rfl
           simp only [execOp, hop, resolve, hc, Sem.run_bind, Sem.run_pure, Result.andThen, invoke, hxv];rw [harg];simp only [JA, callMethod, Sem.run_bind, run_program, Result.andThen, hfu, q1];simp [callFunc, f1, f2, f3]
         . have e : (y :: vs).zip (#[u] ++ c.args.map a.eval).toList = (y, u) :: vs.zip (c.args.toList.map a.eval) := by simp
           rw [e];exact hbase.push q2 q3
       . cases hs
     . cases hs
   . cases hs
 . cases hs
def jcI (P : Program) (f : FuncId) (G : Nat) (tab : List (TypeId × Nat)) : Bool := match P.funcs[f]? with
 | some fn => fn.name == "internal/reflectlite.ValueOf" && (fn.origin == "" && (fn.body.isNone && (G == P.globals.size && tab.all fun p => J6 P p.1 == some p.2)))
 | none => false
theorem jbl {fn : Func} (h : fn.name = "internal/reflectlite.ValueOf") (ho : fn.origin = "") : Extern.findNext fn = none /\ Extern.find fn = some (fun args => ReflectliteValue.unpack (args.getD 0 (.tuple #[]))) := by
 unfold Extern.findNext Extern.find;rw [h, ho];exact ⟨by kernel_rfl, by kernel_rfl⟩
theorem jdn {G : Nat} {tab : List (TypeId × Nat)} {c : Call} {f : FuncId} {r : Operand} {x : Opd} (hop : o.op = .call c) (hc : c.callee = .value (.func f)) (ha : c.args = #[r]) (hf : jcI P f G tab = true) (hx : jL x r = true)
   (hs : ja cf (.vOf G tab x) s = some res) (hl : WT s.ts a.tmps) (hR : R g O (s.ts.roots a.tmps) s.σ w) : SimV P o a g O w s res := by
 unfold jcI at hf;split at hf
 . rename_i fn hfn;simp only [zA, beq_iff_eq, rD] at hf;obtain ⟨f1, f2, f3, f4, f5⟩ := hf;obtain ⟨e1, e2⟩ := jbl f1 f2;simp only [ja] at hs;split at hs
   . rename_i t v ts h;split at hs
     . rename_i t' k hfind;split at hs
       . rename_i hcell;simp only [rv, zO] at hs;subst hs;obtain ⟨hmem, he⟩ := qU hfind;have := eq_of_beq he; subst this;have hk := f5 _ hmem;obtain ⟨h1, h2⟩ := jI (l := []) hx h hl hR;obtain ⟨xv, hxv, hVx, hfx⟩ := iface_inv h1.head;subst f4;have hrun : (execOp a.eval o).run P w = .ok (.value (.agg #[.pointer (some ⟨P.globals.size, t', none⟩), .pointer (some ⟨w.heap.size, 0, none⟩), .int .u64 (k + 128 : Nat)])) (w.alloc (.cells xv.cells t')) := by
           have : (callFunc f #[.iface t' xv]).run P w = .ok (.value (.agg #[.pointer (some ⟨P.globals.size, t', none⟩), .pointer (some ⟨w.heap.size, 0, none⟩), .int .u64 (k + 128 : Nat)])) (w.alloc (.cells xv.cells t')) := by
             rw [run_callFunc_extern hfn (by rw [f1]; rfl) f3 e1 e2];show ((ReflectliteValue.unpack (.iface t' xv)).run P w).andThen _ = _;simp [ReflectliteValue.unpack, ReflectliteValue.mk, qZ, z0, Jm hk, Result.andThen, ReflectliteValue.flagIndir]
           simp only [execOp, hop, resolve, hc, Act.eval, Deferred.ofValue, Sem.run_bind, Sem.run_pure, Result.andThen, invoke, ha];have e : (#[] : Array Value) ++ (#[r].map a.eval) ++ #[] = #[.iface t' xv] := by simp [<- hxv]
           simpa [<- hxv] using this
         obtain ⟨q1, q2⟩ := hVx.cells;obtain ⟨g', hR', hg, hι⟩ := h1.drop.newPv (cs := v.cells.map un1) (vs := xv.cells) (rf := ext v.cells) (el := t') (by simpa using q1) (fun i y u hy hu => by
             simp only [rJ, rT] at hy;obtain ⟨y', hy', rfl⟩ := hy;exact (q2 i y' u hy' hu).un1) (fun y hy => by
             simp only [tO] at hy;obtain ⟨y', hy', rfl⟩ := hy;exact ⟨yy y', by rw [qz]; exact List.all_eq_true.1 hcell y' hy'⟩) (fun hrf y hy => by
             simp only [tO] at hy;obtain ⟨y', hy', rfl⟩ := hy;simp only [ext, Bool.not_eq_false', rD] at hrf;have := hrf y' hy';have hcell := List.all_eq_true.1 hcell y' hy';cases y' <;> simp_all [nr2, nr1, nr0, un1, IVal.isCell])
         refine ⟨rfl, _, _, _, hrun, rfl, g', O, [], hg, ?_, h2, rfl, Keep.refl _⟩;refine hR'.swap (fun hVp => ?_) (List.nil_sublist _);refine .agg _ _ rfl (fun i x v hx hv' => ?_) (by simp [V3, IVal.isCell])
         match i with
         | 0 => simp at hx hv'; subst hx hv'; exact .prim _ rfl
         | 1 => simp at hx hv'; subst hx hv'; exact hVp
         | 2 => simp at hx hv'; subst hx hv'; exact .int _ _
         | i + 3 => simp at hx
       . cases hs
     . cases hs
   . cases hs
 . cases hf
theorem R.putAt {l : ke} {σ : List IObj} {v : IVal} {uv : Value} {id off b : Nat} {cs : List IVal} (hroot : R g O ((v, uv) :: l) σ w) (hι : g.ι[id]? = some (Blk.bk b)) (hσ : σ[id]? = some (.cells cs)) (hput : off + v.cells.length <= cs.length) (hcell : v.cells.all IVal.isCell = true) :
   ∃ w', (storeCells ⟨b, off, none⟩ uv.cells.toList).run P w = .ok () w' /\ R g O ((jl, undef) :: l) (σ.set id (.cells (jb cs off v.cells))) w' /\ Grow O g w O g w' /\ Keep σ (σ.set id (.cells (jb cs off v.cells))) [(id, !(v.cells.all nr1))] := by
 obtain ⟨c, el, fz, hh, hnf, hsz, hc⟩ := hroot.objs id b _ hι hσ;have hV := hroot.head;obtain ⟨p1, p2⟩ := hV.cells;have hun : uv.cells.toList.length = v.cells.length := by rw [Array.length_toList, <- p1]
 have hput' : off + uv.cells.toList.length <= c.toList.length := by
   rw [hun];have h0 : c.toList.length = c.size := by simp
   omega
 have hones : ∀ u ∈ uv.cells.toList, u.oneCell' = true := by
   intro u hu;obtain ⟨j, hj⟩ := kc hu;have hj' : uv.cells[j]? = some u := by simpa using hj
   obtain ⟨x, hx⟩ : ∃ x, v.cells[j]? = some x := by
     have := (Array.getElem?_eq_some_iff.1 hj').1;exact ⟨v.cells[j]'(by omega), by simp⟩
   have hVj := p2 j x u hx hj';exact vF (by rw [<- hVj.isCell]; exact List.all_eq_true.1 hcell x (zM hx))
 let row := (c.toList.take off ++ uv.cells.toList ++ c.toList.drop (off + uv.cells.toList.length)).toArray
 have hst : (storeCells ⟨b, off, none⟩ uv.cells.toList).run P w = .ok () (w.setRow b row) := by
   have := kL P b off el fz uv.cells.toList 0 c w hh hnf (by simpa using hput') hones;simpa [row] using this
 have hrow : (w.setRow b row).heap[b]? = some (.cells row el fz) := setRow_heap w b c row el _ hh;have hOB : OBJ g (w.setRow b row) b (.cells (jb cs off v.cells)) := by
   refine ⟨row, el, fz, hrow, hnf.of_size (by simp [row]; simp at hput'; omega), ?_, fun j x u hxj huj => ?_⟩
   . rw [qo hput]; simp [row]; simp at hput' hun; omega
   . rw [qn hput] at hxj;have huj' : (c.toList.take off ++ uv.cells.toList ++ c.toList.drop (off + uv.cells.toList.length))[j]? = some u := by simpa [row] using huj
     rw [Jk hput', hun] at huj';split at hxj
     . rename_i hj;rw [if_pos hj] at huj';have huj'' : uv.cells[j - off]? = some u := by simpa using huj'
       exact ⟨p2 _ _ _ hxj huj'', List.all_eq_true.1 hcell x (zM hxj)⟩
     . rename_i hj;rw [if_neg hj] at huj';exact hc j x u hxj (by simpa using huj')
 have hf := qg w b row;have hR' := hroot.upd (y := jl) (u := undef) (id := id) (b := b) (ob := .cells cs) (ob' := .cells (jb cs off v.cells)) (w' := w.setRow b row) (kJ g) hι hσ (by simp) (fun k hk => setRow_other w b k row hk) hf.2.2.2 (fun c' el' fz' hc' => by
   rw [hh] at hc'; cases hc';exact ⟨row, hrow, by simp [row]; simp at hput'; omega⟩) hOB (by
   simp only [kR, ko, hh, hrow];obtain ⟨A, C, e1, e2⟩ := JJ (cs := cs) (ws := v.cells) (c := c.toList) (us := uv.cells.toList) (off := off) (by simpa using hsz) (by rw [hun]) hput;rw [show row.toList = c.toList.take off ++ uv.cells.toList ++ c.toList.drop (off + uv.cells.toList.length) from rfl, e1, e2, zw hV hcell];show SubP (b :: (A ++ kl v uv ++ C)) (kl v uv ++ b :: (A ++ _ ++ C));refine SubP.perm_right (List.perm_middle.symm) ?_;refine SubP.append_left [b] ?_;refine SubP.perm_left (a := kl v uv ++ (A ++ C)) ?_ ?_
   . rw [<- zS]; exact List.perm_append_comm.append_right C
   . refine SubP.append_left _ (SubP.of_sub ?_);rw [zS];exact List.Sublist.append (.refl _) (List.sublist_append_right _ _))
 refine ⟨_, hst, hR', ?_, Keep.set fun m hid hm ho => ?_⟩
 . exact Grow.of_setRow g w (hroot.sub b (rW _ (kB hι hσ (by simp [kR])))) _ (fun k hk => setRow_other w b k row hk) hf.2.2.2 hf.1 hf.2.1 hf.2.2.1
 . refine Jp hput (ho _ hσ) (fun x hx => ?_);obtain ⟨j, hj⟩ := kc hx;obtain ⟨u, hu⟩ := kH p1 hj;have hVx := p2 j x u hj hu
   by_cases hnr : v.cells.all nr1 = true
   . exact hVx.norl m (qa (qY (List.all_eq_true.1 hnr x hx)))
   . exact absurd (hm (by simpa using hnr)) (by omega)
def YW (P : Program) (f : FuncId) (G : Nat) (tab : List TypeId) : Bool := match P.funcs[f]? with
 | some fn => fn.name == "(internal/reflectlite.Value).Set" && (fn.origin == "" && (fn.body.isNone && (G == P.globals.size && tab.all fun t => !P.packed t && tyN P t none)))
 | none => false
theorem ZV {fn : Func} (h : fn.name = "(internal/reflectlite.Value).Set") (ho : fn.origin = "") : Extern.findNext fn = none /\ Extern.find fn = some ReflectliteValue.set := by
 unfold Extern.findNext Extern.find;rw [h, ho];exact ⟨by kernel_rfl, by kernel_rfl⟩
theorem jeT (v x : Value) : ReflectliteValue.set #[v, x] = (do
   let (some (dst, a, fl), some (src, b, _)) := (<- ReflectliteValue.parts v, <- ReflectliteValue.parts x)
     | unsupported (.noEntry "extern/(internal/reflectlite.Value).Set.zeroValue")
   if fl / ReflectliteValue.flagAddr % 2 == 0 then unsupported (.noEntry "extern/(internal/reflectlite.Value).Set.unaddressable")
   let val <- loadVar src b
   if <- directlyAssignable dst src then storeVar dst a val
   else if <- implements dst src then
     if (<- kind src) == 20 then
       match val with
       | .nilIface => unsupported (.noEntry "extern/reflectlite: a nil value of one interface type handed on as a value of another")
       | _ => storeVar dst a val
     else storeVar dst a (.iface src val)
   else panicString ("reflectlite.Set: value of type " ++ (<- spelt src) ++ " is not assignable to type " ++ (<- spelt dst))
   pure (.tuple #[])) := rfl
theorem jbf {G : Nat} {tab : List TypeId} {c : Call} {f : FuncId} {rx ry : Operand} {x y : Opd} (hop : o.op = .call c) (hc : c.callee = .value (.func f)) (ha : c.args = #[rx, ry]) (hf : YW P f G tab = true) (hx : jL x rx = true) (hy : jL y ry = true)
   (hs : ja cf (.vSet G tab x y) s = some res) (hl : WT s.ts a.tmps) (hR : R g O (s.ts.roots a.tmps) s.σ w) : SimV P o a g O w s res := by
 unfold YW at hf;split at hf
 . rename_i fn hfn;simp only [zA, beq_iff_eq, rD, tT] at hf;obtain ⟨f1, f2, f3, rfl, f5⟩ := hf;obtain ⟨e1, e2⟩ := ZV f1 f2;simp only [ja] at hs;split at hs
   . rename_i hd id off fl ts h;split at hs
     . rename_i hd' rr v fl' ts' h';split at hs
       . rename_i t t' ht ht';split at hs
         . rename_i hcond;obtain ⟨rfl, rfl, rfl, hcon⟩ := hcond;split at hs
           . rename_i cs hcs;split at hs
             . rename_i hoff;simp only [zO] at hs;subst hs;obtain ⟨hp, hT⟩ := f5 t (List.contains_iff_mem.1 hcon);obtain ⟨h1, h2⟩ := jI (l := []) hx h hl hR;have hVx : V g (.agg [hd, .ptr id off, .int .u64 406]) (a.eval rx) := h1.head;obtain ⟨h3, h4⟩ := jI (l := [(.agg [hd, .ptr id off, .int .u64 406], a.eval rx)]) hy h' h2 h1;obtain ⟨x1, x2, x3, ex, v1, v2, v3⟩ := ze hVx;have := qP v1 ht; subst this;obtain ⟨b, rfl, hι⟩ := v2.ptr_inv;cases v3;obtain ⟨y1, y2, y3, ey, u1, u2, u3⟩ := ze h3.head;have := qP u1 ht'; subst this;obtain ⟨b', o', cv, rfl, vc, hcell, hM, hun1⟩ := Vz u2;cases u3;obtain ⟨lu, hlu, vlu⟩ := JU (w := w) hT vc hcell (h3.claim _ _ _ hM);have hroot : R g O ((v, lu) :: ts'.roots a.tmps) s.σ w := by
                 have hb : R g O (ts'.roots a.tmps) s.σ w := by
                   have := h3.drop;exact R.drop (by simpa using this)
                 have hfl : vl v := ⟨by cases v <;> simp_all [IVal.isCell, un2], by cases v <;> simp_all [IVal.isCell, nt]⟩;exact hb.push vlu (kx hfl lu)
               have hσ := j9 hcs;have hvc : v.cells = [v] := by cases v <;> simp [IVal.isCell] at hcell <;> rfl
               obtain ⟨w', hst, hR', hg, hk⟩ := R.putAt (P := P) (off := off) hroot hι hσ (by rw [hvc]; simp; omega) (by rw [hvc]; simpa using hcell);rw [hvc] at hR' hk;obtain ⟨i, hi, hisz⟩ : ∃ i, P.info? t = some i /\ i.size = 1 := by
                 obtain ⟨-, i, q1, q2⟩ := JT (w := w) hT;exact ⟨i, q1, by simpa using q2⟩
               have hlsz : lu.cells.size = 1 := by
                 have := vlu.cells.1;rw [hvc] at this;simpa using this.symm
               have hrun : (execOp a.eval o).run P w = .ok (.value (.tuple #[])) w' := by
                 have hset : (ReflectliteValue.set #[a.eval rx, a.eval ry]).run P w = .ok (.tuple #[]) w' := by
                   rw [ex, ey, jeT];have hda : (directlyAssignable t t).run P w = .ok true w := Zx (by simp [daP]);have hfl : ((406 : Int).toNat / ReflectliteValue.flagAddr % 2 == 0) = false := rfl;have hsv : (storeVar t ⟨b, off, none⟩ lu).run P w = .ok () w' := by
                     simp [storeVar, kw hi, hlsz, hisz, hst]
                   simp only [Sem.run_bind, zy (.inr rfl) hp, zy (.inl rfl) hp, Result.andThen, hfl, r8, if_false, hlu, hda, if_true, hsv, Sem.run_pure]
                 have : (callFunc f #[a.eval rx, a.eval ry]).run P w = .ok (.value (.tuple #[])) w' := by
                   rw [run_callFunc_extern hfn (by rw [f1]; rfl) f3 e1 e2, hset]; rfl
                 simp only [execOp, hop, resolve, hc, Deferred.ofValue, Sem.run_bind, Sem.run_pure, Result.andThen, invoke, ha];simpa [Act.eval] using this
               refine ⟨rfl, undef, _, _, hrun, rfl, g, O, [(id, !([v].all nr1))], hg, hR', h4, rfl, hk⟩
             . cases hs
           . cases hs
         . cases hs
       . cases hs
     . cases hs
   . cases hs
 . cases hf
end Go.Idl
namespace Go.Idl
open Go.Extern
variable [Globs]
variable {P : Program} {o : Oper} {a : Act} {g : Gh} {O : List Nat} {w : World} {s : St} {res : Res} {cf : kt}
def kn : IntKind -> Option String
 | .i32 => some "Int32"
 | .i64 => some "Int64"
 | .u32 => some "Uint32"
 | .u64 => some "Uint64"
 | _ => none
def kN : MemK -> Option String
 | .aload k => (kn k).map fun n => "sync/atomic.Load" ++ n
 | .astore k => (kn k).map fun n => "sync/atomic.Store" ++ n
 | .acas k => (kn k).map fun n => "sync/atomic.CompareAndSwap" ++ n
 | .aadd k => (kn k).map fun n => "sync/atomic.Add" ++ n
 | .mclone => some "maps.clone"
 | .noesc => some "internal/abi.NoEscape"
 | _ => none
def jfL : MemK -> Array Value -> Sem Value
 | .aload k => Atomic.loadT (.int k)
 | .astore _ => Atomic.storeT
 | .acas k => Atomic.casT (.int k)
 | .aadd k => Atomic.update (Op.intArith .add) k true
 | .mclone => MapsClone.clone
 | .noesc => AbiNoEscape.same
 | _ => fun _ => pure undef
theorem jaB {fn : Func} {k : MemK} (h : kN k = some fn.name) (ho : fn.origin = "") : Extern.findNext fn = none /\ Extern.find fn = some (jfL k) := by
 unfold Extern.findNext Extern.find
 cases k with
 | aload k => cases k <;> simp only [kN, kn, tU, Option.map_none, zO, reduceCtorEq] at h <;> (rw [<- h, ho]; exact ⟨by kernel_rfl, by kernel_rfl⟩)
 | astore k => cases k <;> simp only [kN, kn, tU, Option.map_none, zO, reduceCtorEq] at h <;> (rw [<- h, ho]; exact ⟨by kernel_rfl, by kernel_rfl⟩)
 | acas k => cases k <;> simp only [kN, kn, tU, Option.map_none, zO, reduceCtorEq] at h <;> (rw [<- h, ho]; exact ⟨by kernel_rfl, by kernel_rfl⟩)
 | aadd k => cases k <;> simp only [kN, kn, tU, Option.map_none, zO, reduceCtorEq] at h <;> (rw [<- h, ho]; exact ⟨by kernel_rfl, by kernel_rfl⟩)
 | mclone => simp only [kN, zO] at h; rw [<- h, ho]; exact ⟨by kernel_rfl, by kernel_rfl⟩
 | noesc => simp only [kN, zO] at h; rw [<- h, ho]; exact ⟨by kernel_rfl, by kernel_rfl⟩
 | _ => cases h
theorem jaD {fn : Func} {k : MemK} (h : kN k = some fn.name) : (fn.name == "runtime.NumGoroutine") = false := by
 cases k with
 | aload k => cases k <;> simp only [kN, kn, tU, Option.map_none, zO, reduceCtorEq] at h <;> (rw [<- h]; rfl)
 | astore k => cases k <;> simp only [kN, kn, tU, Option.map_none, zO, reduceCtorEq] at h <;> (rw [<- h]; rfl)
 | acas k => cases k <;> simp only [kN, kn, tU, Option.map_none, zO, reduceCtorEq] at h <;> (rw [<- h]; rfl)
 | aadd k => cases k <;> simp only [kN, kn, tU, Option.map_none, zO, reduceCtorEq] at h <;> (rw [<- h]; rfl)
 | mclone => simp only [kN, zO] at h; rw [<- h]; rfl
 | noesc => simp only [kN, zO] at h; rw [<- h]; rfl
 | _ => cases h
def jel (P : Program) (f : FuncId) (k : MemK) : Bool := match P.funcs[f]? with
 | some fn => kN k == some fn.name && (fn.origin == "" && fn.body.isNone)
 | none => false
theorem jbh {b off : Nat} {x u : Value} (hx : x.oneCell' = true) (hc : w.cell? ⟨b, off, none⟩ = some u) (hz : w.frozen? ⟨b, off, none⟩ = false) :
   (storeCells ⟨b, off, none⟩ [x]).run P w = .ok () (w.setCell ⟨b, off, none⟩ x) := by
 simp only [storeCells, Sem.run_bind, Sem.run_pure];rw [show (Addr.add ⟨b, off, none⟩ 0) = ⟨b, off, none⟩ from rfl, run_store P w _ x _ hx, hc, hz];rfl
theorem vn {l : ke} {σ : List IObj} {id b off : Nat} {cs : List IVal} {x : IVal} (hR : R g O l σ w) (hι : g.ι[id]? = some (Blk.bk b)) (hσ : σ[id]? = some (.cells cs)) (hx : cs[off]? = some x) :
   ∃ u, w.cell? ⟨b, off, none⟩ = some u /\ V g x u /\ w.frozen? ⟨b, off, none⟩ = false := by
 obtain ⟨c, el, fz, hh, hnf, hsz, hc⟩ := hR.objs id b _ hι hσ;have hlt := jk hx;obtain ⟨u, hu⟩ : ∃ u, c[off]? = some u := ⟨c[off]'(by omega), by simp⟩;refine ⟨u, by simp [World.cell?, hh, hu], (hc off x u hx hu).1, ?_⟩;obtain ⟨lo, hi⟩ := fz;simp only [World.frozen?, hh, Bool.and_eq_false_iff, decide_eq_false_iff_not];have hnf : hi = 0 \/ c.size <= lo := hnf;omega
theorem XV {r : Nat} {es : Array MapEntry} {clock : Nat} (t : TypeId) (hb : w.heap[r]? = some (.map es clock)) :
   (MapsClone.clone #[.iface t (.map (some r))]).run P w = .ok (.iface t (.map (some w.heap.size))) (w.alloc (.map es clock)) := by
 have e : MapsClone.clone #[.iface t (.map (some r))] = (getObj r >>= fun o => match o with
     | .map entries clock => (newObj (.map entries clock) >>= fun n => pure (.iface t (.map (some n))))
     | _ => stuck "maps.clone: a map expected") := rfl
 rw [e];simp [MapKept.run_getObj_map hb, Result.andThen, go_sem]
theorem R.putInt {l : ke} {σ : List IObj} {id b off : Nat} {cs : List IVal} {k : IntKind} {y : Int} (hR : R g O l σ w) (hι : g.ι[id]? = some (Blk.bk b)) (hσ : σ[id]? = some (.cells cs)) (hoff : off < cs.length) :
   R g O ((jl, undef) :: l) (σ.set id (.cells (jb cs off [.int k y]))) (w.setCell ⟨b, off, none⟩ (.int k y)) /\ Grow O g w O g (w.setCell ⟨b, off, none⟩ (.int k y)) /\ Keep σ (σ.set id (.cells (jb cs off [.int k y]))) [(id, false)] := by
 obtain ⟨u, h1, -, h3⟩ := vn hR hι hσ (show cs[off]? = some cs[off] by simp);obtain ⟨w', q1, q2, q3, q4⟩ := R.putAt (P := default) (off := off) (hR.push (x := .int k y) (v := .int k y) (.int k y) rfl) hι hσ (by simp [IVal.cells]; omega) (by simp [IVal.cells, IVal.isCell]);have e : (storeCells ⟨b, off, none⟩ (Value.int k y).cells.toList).run (default : Program) w = .ok () (w.setCell ⟨b, off, none⟩ (.int k y)) := by
   simp only [Value.cells];exact jbh rfl h1 h3
 rw [e] at q1;simp only [Result.ok.injEq, true_and] at q1;subst q1;exact ⟨q2, q3, by simpa [IVal.cells, nr1, nr0] using q4⟩
theorem V.int_run {k : IntKind} {n : Int} {v : Value} (h : V g (.int k n) v) : v = .int k n := by cases h; rfl
def vm (P : Program) (g : Gh) (O : List Nat) (w : World) (σ : List IObj) (l : ke) (m : Sem Next) (v : IVal) (σ' : List IObj) (wr : List (Nat × Bool)) : Prop :=
 ∃ v' w' g' O', m.run P w = .ok (.value v') w' /\ Grow O g w O' g' w' /\ R g' O' ((v, v') :: l) σ' w' /\ Keep σ σ' wr
theorem jaA {k : MemK} {fn : Func} {f : FuncId} {l : ke} {σ σ' : List IObj} {wr : List (Nat × Bool)} {vs : List IVal} {us : List Value} {v : IVal} (hf : P.funcs[f]? = some fn) (hn : kN k = some fn.name) (ho : fn.origin = "") (hb : fn.body.isNone = true)
   (hR : R g O (vs.zip us ++ l) σ w) (hl : vs.length = us.length) (h : jO k vs σ = some (v, σ', wr)) : vm P g O w σ l (callFunc f us.toArray) v σ' wr := by
 obtain ⟨e1, e2⟩ := jaB hn ho;have hname := jaD hn;have hv : ∀ (i : Nat) x u, vs[i]? = some x -> us[i]? = some u -> V g x u := fun i x u hx hu => hR.vals (x, u) (rZ _ (zM (List.getElem?_zip_eq_some.2 ⟨hx, hu⟩)));have hRl : R g O l σ w := R.drops (l := vs.zip us) hR;unfold jO at h;split at h
 . rename_i k0 id off;obtain ⟨u, rfl, hV⟩ := vO rfl hl hv;obtain ⟨b, rfl, hι⟩ := hV.ptr_inv;split at h
   . rename_i cs hcs;have hσ := j9 hcs;split at h
     . rename_i k' n hx;split at h
       . rename_i hk;subst hk;simp only [zO, zP] at h;obtain ⟨rfl, rfl, rfl⟩ := h;obtain ⟨u, c1, c2, c3⟩ := vn hRl hι hσ hx;have := c2.int_run; subst this;exact ⟨_, _, g, O, run_call_load hf hname hb e1 _ e2 c1, .refl _ _ _, hRl.push (.int _ _) rfl, .refl _⟩
       . cases h
     . cases h
   . cases h
 . rename_i k0 id off k1 y;obtain ⟨u, v2, rfl, hV, hW⟩ := Jr rfl hl hv;obtain ⟨b, rfl, hι⟩ := hV.ptr_inv;have := hW.int_run; subst this;split at h
   . rename_i cs hcs;have hσ := j9 hcs;split at h
     . rename_i hk;obtain ⟨hoff, rfl⟩ := hk;simp only [zO, zP] at h;obtain ⟨rfl, rfl, rfl⟩ := h;obtain ⟨u, c1, c2, c3⟩ := vn hRl hι hσ (show cs[off]? = some cs[off] by simp);obtain ⟨p1, p2, p3⟩ := hRl.putInt (k := k0) (y := y) hι hσ hoff;exact ⟨_, _, g, O, run_call_store hf hname hb e1 e2 c1 c3, p2, p1, p3⟩
     . cases h
   . cases h
 . rename_i k0 id off k1 x k2 y;obtain ⟨u, v2, v3, rfl, hV, hW, hX⟩ : ∃ u v2 v3, us = [u, v2, v3] /\ V g (.ptr id off) u /\ V g (.int k1 x) v2 /\ V g (.int k2 y) v3 := by
     match us, hl with
     | [u, v2, v3], _ => exact ⟨u, v2, v3, rfl, hv 0 _ _ rfl rfl, hv 1 _ _ rfl rfl, hv 2 _ _ rfl rfl⟩
   obtain ⟨b, rfl, hι⟩ := hV.ptr_inv;have := hW.int_run; subst this;have := hX.int_run; subst this;split at h
   . rename_i cs hcs;have hσ := j9 hcs;split at h
     . rename_i k' n hx;split at h
       . rename_i hk;obtain ⟨rfl, rfl, rfl⟩ := hk;obtain ⟨u, c1, c2, c3⟩ := vn hRl hι hσ hx;have := c2.int_run; subst this;split at h
         . rename_i hnx;subst hnx;simp only [zO, zP] at h;obtain ⟨rfl, rfl, rfl⟩ := h;obtain ⟨p1, p2, p3⟩ := hRl.putInt (k := k0) (y := y) hι hσ (jk hx);exact ⟨_, _, g, O, run_call_cas_hit hf hname hb e1 _ e2 c1 c3, p2, p1.drop.push (.bool true) rfl, p3⟩
         . rename_i hnx;simp only [zO, zP] at h;obtain ⟨rfl, rfl, rfl⟩ := h;exact ⟨_, _, g, O, run_call_cas_miss hf hname hb e1 _ e2 c1 c3 hnx, .refl _ _ _, hRl.push (.bool false) rfl, .refl _⟩
       . cases h
     . cases h
   . cases h
 . rename_i k0 id off k1 y;obtain ⟨u, v2, rfl, hV, hW⟩ := Jr rfl hl hv;obtain ⟨b, rfl, hι⟩ := hV.ptr_inv;have := hW.int_run; subst this;split at h
   . rename_i cs hcs;have hσ := j9 hcs;split at h
     . rename_i k' n hx;split at h
       . rename_i hk;obtain ⟨rfl, rfl⟩ := hk;simp only [zO, zP] at h;obtain ⟨rfl, rfl, rfl⟩ := h;obtain ⟨u, c1, c2, c3⟩ := vn hRl hι hσ hx;have := c2.int_run; subst this;obtain ⟨p1, p2, p3⟩ := hRl.putInt (k := k0) (y := k0.wrap (n + y)) hι hσ (jk hx);exact ⟨_, _, g, O, run_call_add hf hname hb e1 _ e2 c1 c3 rfl, p2, p1.drop.push (.int _ _) rfl, p3⟩
       . cases h
     . cases h
   . cases h
 . cases hn
 . cases hn
 . cases hn
 . rename_i t id;obtain ⟨u, rfl, hV⟩ := vO rfl hl hv
   cases hV with
   | iface _ _ v0 hV0 hF0 =>
   obtain ⟨b, rfl, hι⟩ := hV0.map_inv;split at h
   . rename_i es hσ;simp only [zO, zP] at h;obtain ⟨rfl, rfl, rfl⟩ := h;obtain ⟨mes, clock, m1, m2, m3, m4⟩ := hRl.objs id b _ hι hσ;have hpre : ∀ (id b : Nat), g.ι[id]? = some (Blk.bk b) -> (g.fresh w.heap.size).ι[id]? = some (Blk.bk b) := fun id b hb => by simp only [Gh.fresh]; rw [zL (jk hb)]; exact hb
     have hnew := (hRl.push (kJ g) rfl).new (obr := .map mes clock) (ob := .map es) (fun _ => ⟨mes, clock, jW w _, m2, fun i e me he hm => by
       obtain ⟨⟨r1, r2⟩, r3, r4⟩ := m3 i e me he hm;exact ⟨⟨r1.mono hpre (fun _ _ _ h => h) (by rw [kx r3]; simp), r2.mono hpre (fun _ _ _ h => h) (by rw [kx r4]; simp)⟩, r3, r4⟩, m4⟩) ⟨[], rfl, by simp⟩
     refine ⟨_, _, g.fresh w.heap.size, w.heap.size :: O, ?_, kK hRl _, hnew.push (.iface t _ _ (.map _ w.heap.size ?_) ⟨rfl, rfl⟩) rfl, Keep.snoc _ _⟩
     . rw [run_callFunc_extern hf hname hb e1 e2];show ((MapsClone.clone #[.iface t (.map (some b))]).run P w).andThen _ = _;rw [XV t m1]; rfl
     . simp [Gh.fresh, <- hRl.len]
   . cases h
 . simp [kN] at hn
 . simp [kN] at hn
 . simp [kN] at hn
 . simp [kN] at hn
 . simp [kN] at hn
 . simp only [zO, zP] at h;obtain ⟨rfl, rfl, rfl⟩ := h;obtain ⟨u, rfl, hV⟩ := vO rfl hl hv;refine ⟨u, w, g, O, ?_, .refl _ _ _, hRl.push hV rfl, .refl _⟩;rw [run_callFunc_extern hf hname hb e1 e2];show ((AbiNoEscape.same #[u]).run P w).andThen _ = _;rw [Lib.run_noEscape]; rfl
 all_goals first | (cases h; done) | (simp [kN] at hn; done)
theorem R.putObj {l : ke} {σ : List IObj} {id b : Nat} {ob ob' : IObj} {x : Obj} (h : R g O l σ w) (hι : g.ι[id]? = some (Blk.bk b)) (hσ : σ[id]? = some ob) (hlive : ¬ ob.live = false) (hb : b < w.heap.size) (hnc : ∀ c el fz, w.heap[b]? ≠ some (.cells c el fz))
   (hob : OBJ g (w.putObj b x) b ob') (ho : kR (w.putObj b x) b ob' = [b] \/ kR (w.putObj b x) b ob' = []) (ho' : kR w b ob = [b]) :
   R g O l (σ.set id ob') (w.putObj b x) /\ Grow O g w O g (w.putObj b x) := by
 have hs : (w.putObj b x).heap.size = w.heap.size := by simp
 have hw : ∀ k, k ≠ b -> (w.putObj b x).heap[k]? = w.heap[k]? := fun k hk => World.putObj_heap_other hk;have hbO : b ∈ O := h.sub b (rW _ (kB hι hσ (by rw [ho']; simp)));refine ⟨?_, Grow.of_setRow g w hbO _ hw hs rfl rfl rfl⟩;have h1 := h.push (kJ g) rfl;have h2 := h1.upd (y := jl) (u := undef) (id := id) (b := b) (ob := ob) (ob' := ob') (w' := w.putObj b x) (kJ g) hι hσ hlive hw hs (fun c el fz hc => absurd hc (hnc c el fz)) hob (by
   rw [ho'];have e0 : kl jl undef = [] := rfl;rw [e0, tJ, tJ]
   rcases ho with ho | ho
   . rw [ho]; exact SubP.refl _
   . rw [ho]; exact SubP.of_sub (by simp))
 exact h2.drop
theorem Y5 {l : ke} {σ σ' : List IObj} {wr : List (Nat × Bool)} {vs : List IVal} {us : List Value} {v : IVal} {T : TypeId} (hT : P.underlying T = some .string)
   (hR : R g O (vs.zip us ++ l) σ w) (hl : vs.length = us.length) (h : jO .iter vs σ = some (v, σ', wr)) : ∃ u, us = [u] /\ vm P g O w σ l (do pure (.value (<- Instr.range T u))) v σ' wr := by
 have hv : ∀ (i : Nat) x u, vs[i]? = some x -> us[i]? = some u -> V g x u := fun i x u hx hu => hR.vals (x, u) (rZ _ (zM (List.getElem?_zip_eq_some.2 ⟨hx, hu⟩)));have hRl : R g O l σ w := R.drops (l := vs.zip us) hR;simp only [jO] at h;split at h
 all_goals try contradiction
 rename_i sb σ0;simp only [zO, zP] at h;obtain ⟨rfl, rfl, rfl⟩ := h;obtain ⟨u, rfl, hV⟩ := vO rfl hl hv
 cases hV with
 | str bs =>
 refine ⟨_, rfl, ?_⟩;have hnew := (hRl.push (kJ g) rfl).new (obr := .stringIter bs 0) (ob := .it bs.data.toList 0) (fun _ => ⟨bs, jW w _, rfl⟩) ⟨[], rfl, by simp⟩;refine ⟨_, _, g.fresh w.heap.size, w.heap.size :: O, ?_, kK hRl _, hnew.push (.ptr _ 0 w.heap.size ?_) rfl, Keep.snoc _ _⟩
 . simp only [Sem.run_bind, run_range_string w T bs hT, Result.andThen, Sem.run_pure]; rfl
 . simp [Gh.fresh, <- hRl.len]
theorem XW {b pos : Nat} {bs : ByteArray} {ty : TypeId} (h : w.heap[b]? = some (.stringIter bs pos)) (hp : pos < bs.size) (ha : (bs[pos]'hp).toNat < 128) :
   (Instr.next (.pointer (some ⟨b, 0, none⟩)) true ty).run P w = .ok (.tuple #[.bool true, .int .i64 pos, .int .i32 (bs[pos]'hp).toNat]) (w.putObj b (.stringIter bs (pos + 1))) := by
 simp only [Instr.next, getObj, setObj, Sem.run_bind, Sem.run, h, Result.andThen, hp, if_true, decode_ascii bs pos hp ha];simp [goInt, Sem.run, h, World.putObj]
theorem QL {b pos : Nat} {bs : ByteArray} {ty : TypeId} (h : w.heap[b]? = some (.stringIter bs pos)) (hp : pos < bs.size) :
   (Instr.next (.pointer (some ⟨b, 0, none⟩)) true ty).run P w = .ok (.tuple #[.bool true, .int .i64 pos, .int .i32 (Utf8.decode bs pos).1]) (w.putObj b (.stringIter bs (pos + (Utf8.decode bs pos).2))) := by
 simp only [Instr.next, getObj, setObj, Sem.run_bind, Sem.run, h, Result.andThen, hp, if_true];simp [goInt, Sem.run, h, World.putObj]
theorem VI {b pos : Nat} {bs : ByteArray} {ty : TypeId} (h : w.heap[b]? = some (.stringIter bs pos)) (hp : ¬ pos < bs.size) :
   (Instr.next (.pointer (some ⟨b, 0, none⟩)) true ty).run P w = .ok (.tuple #[.bool false]) w := by
 simp [Instr.next, getObj, Sem.run, h, hp]
theorem Y6 {l : ke} {σ σ' : List IObj} {wr : List (Nat × Bool)} {vs : List IVal} {us : List Value} {v : IVal} {ty : TypeId}
   (hR : R g O (vs.zip us ++ l) σ w) (hl : vs.length = us.length) (h : jO .next vs σ = some (v, σ', wr)) : ∃ u, us = [u] /\ vm P g O w σ l (do pure (.value (<- Instr.next u true ty))) v σ' wr := by
 have hv : ∀ (i : Nat) x u, vs[i]? = some x -> us[i]? = some u -> V g x u := fun i x u hx hu => hR.vals (x, u) (rZ _ (zM (List.getElem?_zip_eq_some.2 ⟨hx, hu⟩)));have hRl : R g O l σ w := R.drops (l := vs.zip us) hR;simp only [jO] at h;split at h
 all_goals try contradiction
 rename_i id σ0;obtain ⟨u, rfl, hV⟩ := vO rfl hl hv;obtain ⟨b, rfl, hι⟩ := hV.ptr_inv;refine ⟨_, rfl, ?_⟩;split at h
 . rename_i sb pos hσ;obtain ⟨bs, hh, hbs⟩ := hRl.objs id b _ hι hσ;split at h
   . rename_i c hc;split at h
     . rename_i h128;simp only [zO, zP] at h;obtain ⟨rfl, rfl, rfl⟩ := h;subst hbs;have hp : pos < bs.size := by
         have := jk hc;rw [<- Lib.size_eq] at this; exact this
       have hbc : (bs[pos]'hp) = c := by
         have := (List.getElem?_eq_some_iff.1 hc).2;rw [<- this]; rfl
       have hlt : b < w.heap.size := (Array.getElem?_eq_some_iff.1 hh).1;have hrun := XW (P := P) (ty := ty) hh hp (by rw [hbc]; exact h128);obtain ⟨p1, p2⟩ := hRl.putObj (ob' := .it bs.data.toList (pos + 1)) (x := .stringIter bs (pos + 1)) hι hσ (by simp) hlt (by rw [hh]; simp) ⟨bs, World.putObj_heap_same hlt, rfl⟩ (.inl rfl) rfl;refine ⟨_, _, g, O, ?_, p2, p1.push (v := .tuple #[.bool true, .int .i64 pos, .int .i32 c.toNat]) ?_ rfl, Keep.set fun _ _ _ _ => trivial⟩
       . simp only [Sem.run_bind, hrun, Result.andThen, Sem.run_pure, hbc]
       . refine .tup _ _ rfl (fun i x v hx hu => ?_) (by simp [nt])
         match i with
         | 0 => simp at hx hu; subst hx hu; exact .bool _
         | 1 => simp at hx hu; subst hx hu; exact .int _ _
         | 2 => simp at hx hu; subst hx hu; exact .int _ _
         | i + 3 => simp at hx
     . simp only [zO, zP] at h;obtain ⟨rfl, rfl, rfl⟩ := h;subst hbs;have hp : pos < bs.size := by
         have := jk hc;rw [<- Lib.size_eq] at this; exact this
       have hlt : b < w.heap.size := (Array.getElem?_eq_some_iff.1 hh).1;have hself : (⟨bs.data.toList.toArray⟩ : ByteArray) = bs := rfl;have hrun := QL (P := P) (ty := ty) hh hp;obtain ⟨p1, p2⟩ := hRl.putObj (ob' := .it bs.data.toList (pos + (Utf8.decode bs pos).2)) (x := .stringIter bs (pos + (Utf8.decode bs pos).2)) hι hσ (by simp) hlt (by rw [hh]; simp) ⟨bs, World.putObj_heap_same hlt, rfl⟩ (.inl rfl) rfl;refine ⟨_, _, g, O, ?_, p2, p1.push (v := .tuple #[.bool true, .int .i64 pos, .int .i32 (Utf8.decode bs pos).1]) ?_ rfl, Keep.set fun _ _ _ _ => trivial⟩
       . simp only [Sem.run_bind, hrun, Result.andThen, Sem.run_pure]
       . refine .tup _ _ rfl (fun i x v hx hu => ?_) (by simp [nt])
         match i with
         | 0 => simp at hx hu; subst hx hu; exact .bool _
         | 1 => simp at hx hu; subst hx hu; exact .int _ _
         | 2 => simp at hx hu; subst hx hu; exact .int _ _
         | i + 3 => simp at hx
   . rename_i hc;simp only [zO, zP] at h;obtain ⟨rfl, rfl, rfl⟩ := h;subst hbs;have hp : ¬ pos < bs.size := by
       have := List.getElem?_eq_none_iff.1 hc;rw [<- Lib.size_eq] at this; omega
     have hrun := VI (P := P) (ty := ty) hh hp;refine ⟨_, _, g, O, ?_, .refl _ _ _, hRl.push (v := .tuple #[.bool false]) ?_ rfl, .refl _⟩
     . simp only [Sem.run_bind, hrun, Result.andThen, Sem.run_pure]
     . refine .tup _ _ rfl (fun i x v hx hu => ?_) (by simp [nt])
       match i with
       | 0 => simp at hx hu; subst hx hu; exact .bool _
       | i + 1 => simp at hx
 . cases h
theorem Y9 {l : ke} {σ σ' : List IObj} {wr : List (Nat × Bool)} {vs : List IVal} {us : List Value} {v : IVal} {S T t : TypeId} (hS : P.underlying S = some (.pointer t)) (hT : P.underlying T = some .unsafePointer)
   (hsz : (P.info? t).map (fun i => decide (i.size = 0)) = some false)
   (hR : R g O (vs.zip us ++ l) σ w) (hl : vs.length = us.length) (h : jO .uptr vs σ = some (v, σ', wr)) : ∃ u, us = [u] /\ vm P g O w σ l (do pure (.value (<- convert S T u))) v σ' wr := by
 have hv : ∀ (i : Nat) x u, vs[i]? = some x -> us[i]? = some u -> V g x u := fun i x u hx hu => hR.vals (x, u) (rZ _ (zM (List.getElem?_zip_eq_some.2 ⟨hx, hu⟩)));have hRl : R g O l σ w := R.drops (l := vs.zip us) hR;simp only [jO] at h;split at h
 all_goals try contradiction
 rename_i id off σ0;obtain ⟨u, rfl, hV⟩ := vO rfl hl hv;obtain ⟨b, rfl, hι⟩ := hV.ptr_inv;refine ⟨_, rfl, ?_⟩;split at h
 . rename_i cs hcs;split at h
   . rename_i hoff;simp only [zO, zP] at h;obtain ⟨rfl, rfl, rfl⟩ := h;obtain ⟨u, c1, -, -⟩ := vn hRl hι (j9 hcs) (show cs[off]? = some cs[off] by simp);refine ⟨_, _, g, O, ?_, .refl _ _ _, hRl.push (.ptr id off b hι) rfl, .refl _⟩;simp only [Sem.run_bind, run_convert_to_unsafe hS hT hsz c1, Result.andThen, Sem.run_pure]
   . cases h
 . cases h
theorem Vn {l : ke} {σ σ' : List IObj} {wr : List (Nat × Bool)} {vs : List IVal} {us : List Value} {v : IVal} {S T e : TypeId} (hS : P.underlying S = some .string) (hT : P.underlying T = some (.slice e)) (he : P.underlying e = some (.int .u8))
   (hR : R g O (vs.zip us ++ l) σ w) (hl : vs.length = us.length) (h : jO .bytesR vs σ = some (v, σ', wr)) : ∃ u, us = [u] /\ vm P g O w σ l (do pure (.value (<- convert S T u))) v σ' wr := by
 have hv : ∀ (i : Nat) x u, vs[i]? = some x -> us[i]? = some u -> V g x u := fun i x u hx hu => hR.vals (x, u) (rZ _ (zM (List.getElem?_zip_eq_some.2 ⟨hx, hu⟩)));have hRl : R g O l σ w := R.drops (l := vs.zip us) hR;simp only [jO] at h;split at h
 all_goals try contradiction
 rename_i sb σ0;simp only [zO, zP] at h;obtain ⟨rfl, rfl, rfl⟩ := h;obtain ⟨u, rfl, hV⟩ := vO rfl hl hv
 cases hV with
 | str t =>
 refine ⟨_, rfl, ?_⟩;have hrun := run_bytes_of_string (P := P) w S T e t hS hT he;have hge := grownCap_ge w t.size 0 e;generalize grownCap w t.size 0 e = cap at hrun hge;have hR0 := hRl.world (w' := w.drew) (rP _) (fun _ _ => rfl);have hG0 : Grow O g w O g w.drew := ⟨rP _, fun _ _ _ => ⟨rfl, rfl, fun _ => rfl⟩, fun _ _ _ h => h, fun _ _ h => h, fun _ h => .inl h, rfl, rfl, rfl, rfl, fun _ => ⟨rP _, fun _ h => h⟩⟩;have hsz : (bytesRow t cap).size = cap := by
   have : t.data.size = t.size := rfl;simp [bytesRow, this]; omega
 have hlen : t.data.toList.length = t.size := by simp
 have hcells : ∀ (j : Nat) x v, (t.data.toList.map fun c => IVal.int .u8 c.toNat)[j]? = some x -> (bytesRow t cap)[j]? = some v -> V (g.fresh w.heap.size) x v /\ qb x v = [] /\ x.isCell = true := by
   intro j x v hx hv;simp only [rJ, rT] at hx;obtain ⟨c, hc, rfl⟩ := hx;have hj : j < t.data.size := by have := jk hc; simpa using this
   rw [bytesRow_at t cap j hj] at hv;have : t.data[j] = c := rY ((Array.getElem?_eq_getElem hj).symm.trans (by simpa using hc));rw [this] at hv;obtain rfl := rY hv;exact ⟨.int _ _, rfl, rfl⟩
 have hnew := (hR0.push (kJ g) rfl).new (obr := .cells (bytesRow t cap) e ((bytesRow t cap).size, (bytesRow t cap).size + 1)) (ob := .cells (t.data.toList.map fun c => .int .u8 c.toNat)) (fun _ =>
   ⟨_, e, _, jW _ _, .inr (rP _), by rw [hsz]; simp; exact hge, fun j x v hx hv => ⟨(hcells j x v hx hv).1, (hcells j x v hx hv).2.2⟩⟩) ⟨[], by
   simp only [kR];rw [flatten_nil];intro cc hcm;obtain ⟨j, x, y, h1, h2, rfl⟩ := kh hcm;have hbk : ko (w.drew.alloc (.cells (bytesRow t cap) e ((bytesRow t cap).size, (bytesRow t cap).size + 1))) w.drew.heap.size = _ := kq ..;rw [hbk] at h2;exact (hcells j x y h1 (by rw [<- Array.getElem?_toList]; exact h2)).2.1, by simp⟩
 refine ⟨_, _, _, w.heap.size :: O, ?_, hG0.trans ((kK hR0 _).trans (Grow.setZ _ _ _ _ _)), (hnew.setZ (z := cap) (jW _ _) (by rw [hsz]; exact rP _)).push (v := .slice (some ⟨w.heap.size, 0, none⟩) t.size cap) ?_ rfl, Keep.snoc _ _⟩
 . simp only [Sem.run_bind, hrun, Result.andThen, Sem.run_pure]
 . rw [hlen];refine .rs _ _ _ _ _ _ ?_ (by omega) (by rw [tS, Nat.mul_one]; exact yu _ _ _);simp [Gh.fresh, Gh.setZ, <- hRl.len]
theorem XO {l : ke} {σ σ' : List IObj} {wr : List (Nat × Bool)} {vs : List IVal} {us : List Value} {v : IVal} {S T e : TypeId} (hS : P.underlying S = some (.slice e)) (he : P.underlying e = some (.int .u8)) (hT : P.underlying T = some .string)
   (hR : R g O (vs.zip us ++ l) σ w) (hl : vs.length = us.length) (h : jO .textR vs σ = some (v, σ', wr)) : ∃ u, us = [u] /\ vm P g O w σ l (do pure (.value (<- convert S T u))) v σ' wr := by
 have hv : ∀ (i : Nat) x u, vs[i]? = some x -> us[i]? = some u -> V g x u := fun i x u hx hu => hR.vals (x, u) (rZ _ (zM (List.getElem?_zip_eq_some.2 ⟨hx, hu⟩)));have hRl : R g O l σ w := R.drops (l := vs.zip us) hR;simp only [jO] at h;split at h
 all_goals try contradiction
 rename_i id off len σ0;obtain ⟨u, rfl, hV⟩ := vO rfl hl hv;obtain ⟨b, cap, rfl, hι, hcap⟩ := hV.rs_inv;refine ⟨_, rfl, ?_⟩;split at h
 . rename_i cs hcs;split at h
   . rename_i lb hb;split at h
     . rename_i hoff;simp only [zO, zP] at h;obtain ⟨rfl, rfl, rfl⟩ := h;obtain ⟨ns, hns, rfl⟩ := yx hb;have hnl : ns.length = len := by
         have := congrArg List.length hns;simp at this; omega
       have hload : (loadCells ⟨b, off, none⟩ len).run P w = .ok (ns.map (Value.int .u8)).toArray w := by
         have hlen : len = (ns.map (Value.int .u8)).length := by simp [hnl]
         rw [hlen];refine run_loadCells_list (P := P) (w := w) ⟨b, off, none⟩ (ns.map (Value.int .u8)) (fun j c hj => ?_);have hj2 : j < len := by have := jk hj; simp at this; omega
         rw [kA];have hx : cs[off + j]? = some (.int .u8 ns[j]) := by
           have := congrArg (fun l => l[j]?) hns;simp only [List.getElem?_take_of_lt hj2, tA, rJ] at this;rw [this, rG (by omega)]; rfl
         obtain ⟨u, c1, c2, -⟩ := vn hRl hι (j9 hcs) hx;have hu := c2.int_run;subst hu;rw [rJ, rG (by omega)] at hj;rw [c1]; exact hj
       have h1 := run_convert_bytes_string (P := P) w S T e (some ⟨b, off, none⟩) len cap hS he hT;have h2 := run_bytesToString (P := P) w ⟨b, off, none⟩ len cap ns hload;refine ⟨.string (ns.foldl (fun r n => r.push (UInt8.ofNat n.toNat)) ByteArray.empty), _, g, O, ?_, .refl _ _ _, hRl.push ?_ rfl, .refl _⟩
       . simp only [Sem.run_bind, h1, h2, Result.andThen, Sem.run_pure]
       . have : (ns.foldl (fun r n => r.push (UInt8.ofNat n.toNat)) ByteArray.empty).data.toList = ns.map (fun n => UInt8.ofNat n.toNat) := by rw [Kl]; rfl
         rw [<- this]; exact .str _
     . cases h
   . cases h
 . cases h
theorem Vo {l : ke} {σ σ' : List IObj} {wr : List (Nat × Bool)} {v : IVal} {T : TypeId} {zs : List IVal} {i : TypeInfo} {z : Value} (hi : P.info? T = some i) (hz : i.zero = some z) (hc : Jh zs z.cells.toList = true)
   (hR : R g O l σ w) (h : jO (.talloc T zs) [] σ = some (v, σ', wr)) {m : Sem Next} (hrun : m.run P w = .ok (.value (.pointer (some ⟨w.heap.size, 0, none⟩))) (w.alloc (.cells z.cells T))) : vm P g O w σ l m v σ' wr := by
 simp only [jO, zO, zP] at h;obtain ⟨rfl, rfl, rfl⟩ := h;have hlen : z.cells.size = zs.length := by
   have := (qS g hc).1; simp at this; omega
 have hnew := (hR.push (kJ g) rfl).new (obr := .cells z.cells T) (ob := .cells zs) (fun _ => by
     obtain ⟨h1, h2⟩ := qS (g.fresh w.heap.size) hc;exact ⟨z.cells, T, (0, 0), jW w _, .inl rfl, by omega, fun i x v hx hv => by
       obtain ⟨q1, _, q3⟩ := h2 i x v hx (by simpa using hv);exact ⟨q1, q3⟩⟩) ⟨[], by
     simp only [kR, kq];rw [flatten_nil];intro c hcm;obtain ⟨i, x, y, h1, h2, rfl⟩ := kh hcm;exact ((qS g hc).2 i x y h1 h2).2.1, by simp⟩
 have hι : (g.fresh w.heap.size).ι[σ.length]? = some (.bk w.heap.size) := by simp [Gh.fresh, <- hR.len]
 have hty := hnew.addTy zs.length hι (jW w _) hlen (fun _ => rfl);refine ⟨_, _, _, w.heap.size :: O, hrun, (kK hR _).trans (Grow.addTy hnew (jW w _) hlen), hty.push (.ptr _ 0 w.heap.size ?_) rfl, (Keep.snoc _ _).trans (Keep.snoc _ _)⟩;simp only [Gh.addTy]; rw [zL (jk hι)]; exact hι
theorem jaz {l : ke} {σ σ' : List IObj} {wr : List (Nat × Bool)} {vs : List IVal} {us : List Value} {v : IVal} {S T u e : TypeId} {n : Nat} {j : TypeInfo} (hS : P.underlying S = some .unsafePointer) (hT : P.underlying T = some (.pointer u)) (hu : P.info? u = some j)
   (hlies : liesAt P P.depth e (n / P.cellsOf e) 0 u 1 = true)
   (hR : R g O (vs.zip us ++ l) σ w) (hl : vs.length = us.length) (h : jO (.unp e n) vs σ = some (v, σ', wr)) : ∃ u, us = [u] /\ vm P g O w σ l (do pure (.value (<- convert S T u))) v σ' wr := by
 have hv : ∀ (i : Nat) x u, vs[i]? = some x -> us[i]? = some u -> V g x u := fun i x u hx hu => hR.vals (x, u) (rZ _ (zM (List.getElem?_zip_eq_some.2 ⟨hx, hu⟩)));have hRl : R g O l σ w := R.drops (l := vs.zip us) hR;obtain ⟨id, rfl⟩ : ∃ id, vs = [.ptr id 0] := by
   unfold jO at h;split at h
   all_goals first | exact ⟨_, rfl⟩ | (rename_i q; cases q; done) | (rename_i q _; cases q; done) | (cases h; done) | skip
   all_goals contradiction
 simp only [jO] at h;obtain ⟨u', rfl, hV⟩ := vO rfl hl hv;refine ⟨_, rfl, ?_⟩;split at h
 . rename_i T' n' k hσ;split at h
   . rename_i hk;obtain ⟨rfl, rfl, hn0, rfl⟩ := hk;simp only [zO, zP] at h;obtain ⟨rfl, rfl, rfl⟩ := h;obtain ⟨b, rfl, hι⟩ := hV.ptr_inv;have hlt : k + 1 < g.ι.length := by rw [hRl.len]; exact jk hσ
     have hob := hRl.objo (k + 1) g.ι[k + 1] _ (by simp [hlt]) hσ;have hty : ∃ b', g.ι[k]? = some (.bk b') /\ ∃ n2, g.E b' = some (T', n2) /\ (n' ≠ 0 -> n2 = n') := by
       cases hb : g.ι[k + 1] with
       | un zs => rw [hb] at hob; cases hob.1
       | bk b2 => rw [hb] at hob; exact hob
     obtain ⟨b', q1, n2, q2, q5⟩ := hty;rw [q5 hn0] at q2;rw [hι] at q1; cases q1;obtain ⟨c, fz, q3, q4⟩ := (hRl.zs b).2 _ _ q2;have hsh : w.shape? b = some (T', n') := by simp [World.shape?, q3, q4]
     refine ⟨_, _, g, O, ?_, .refl _ _ _, hRl.push (.ptr k 0 b hι) rfl, .refl _⟩;simp only [Sem.run_bind, Lib.run_from_unsafe w ⟨b, 0, none⟩ hS hT hu hsh hlies, Result.andThen, Sem.run_pure]
   . cases h
 . cases h
def Qh (P : Program) (c : Call) : MemK -> Bool
 | .extN e b zs => match c.argTypes.toList with
   | [T, U] => (match P.underlying T, P.underlying U with
     | some (.slice E), some (.int .i64) => (match P.info? E with
       | some i => (match i.zero with
         | some z => (i.size == e && i.bytes == b) && (z.cells.size == e && Jh zs z.cells.toList)
         | none => false)
       | none => false)
     | _, _ => false)
   | _ => false
 | _ => false
theorem jam {c : Call} {k : MemK} (h : Qh P c k = true) : ∃ e b zs, k = .extN e b zs := by
 cases k <;> simp [Qh] at h;exact ⟨_, _, _, rfl⟩
theorem J9 {T U ty E : TypeId} {i : TypeInfo} {z : Value} {n : Nat} (hT : P.underlying T = some (.slice E)) (hU : P.underlying U = some (.int .i64)) (hi : P.info? E = some i) (hz : i.zero = some z) (h0 : 0 < n) (hs0 : 0 < i.size)
   (hb : n * i.bytes <= 140737488355328) (hn : n <= 1099511627776) (hfit : Builtin.nextslicecap n 0 * i.bytes <= 281474976710656) :
   (Builtin.append_ #[T, U] ty #[.slice none 0 0, .int .i64 n]).run P w = .ok (.slice (some ⟨w.heap.size, 0, none⟩) n (grownCap w n 0 E)) (w.drew.alloc (.cells (Builtin.zeroCells z.cells n ++ Builtin.zeroCells z.cells (grownCap w n 0 E - n)) E)) := by
 have hw : IntKind.i64.wrap (n : Int) = n := by simp only [IntKind.wrap, IntKind.bits, IntKind.signed]; simp; omega
 have h1 : ¬ ((n : Int) < 0) := by omega
 have h2 : ¬ (281474976710656 < (n : Int) * i.bytes) := by rw [<- Int.natCast_mul]; omega
 have h3 : ¬ (n <= 0) := by omega
 have h4 : ¬ (9223372036854775807 < (n : Int)) := by omega
 have h5 : ¬ (281474976710656 < Builtin.nextslicecap n 0 * i.bytes) := by omega
 have h6 : ¬ (n * i.size = 0) := by
   intro h; rcases Nat.mul_eq_zero.1 h with h | h <;> omega
 have h7 : ¬ (n = 0 \/ i.size = 0) := by omega
 simp [Builtin.append_, jM hT, jM hU, sizeOf, typeInfo, zeroValue, hi, hz, asInt, asIntOf, hw, h1, h2, h3, h4, h5, h6, h7, (show ¬ n = 0 by omega), Question.forced, Builtin.firstCells, newRow, grownCap]
theorem jcQ {l : ke} {e b : Nat} {zs : List IVal} {σ σ' : List IObj} {wr : List (Nat × Bool)} {vs : List IVal} {us : List Value} {v : IVal} {c : Call} (hk : Qh P c (.extN e b zs) = true) (hR : R g O (vs.zip us ++ l) σ w) (hl : vs.length = us.length) (h : jO (.extN e b zs) vs σ = some (v, σ', wr)) {m : Sem Next}
   (hexec : ∀ r w', (Builtin.append_ c.argTypes o.type us.toArray).run P w = .ok r w' -> m.run P w = .ok (.value r) w') : vm P g O w σ l m v σ' wr := by
 have hv : ∀ (i : Nat) x u, vs[i]? = some x -> us[i]? = some u -> V g x u := fun i x u hx hu => hR.vals (x, u) (rZ _ (zM (List.getElem?_zip_eq_some.2 ⟨hx, hu⟩)));have hroot : R g O l σ w := R.drops (l := vs.zip us) hR;obtain ⟨own, n, rfl⟩ : ∃ own n, vs = [.sl own true [], .int .i64 n] := by
   unfold jO at h;split at h
   all_goals first | exact ⟨_, _, rfl⟩ | (rename_i q; cases q; done) | (rename_i q _; cases q; done) | (cases h; done) | skip
   all_goals contradiction
 simp only [jO] at h;split at h
 . rename_i hcond;obtain ⟨c1, c2, c3, c4, c5⟩ := hcond;simp only [zO, zP] at h;obtain ⟨rfl, rfl, rfl⟩ := h;obtain ⟨u, u2, rfl, hV, hW⟩ := Jr rfl hl hv;have := hW.int_run; subst this;obtain ⟨cn, rfl⟩ := Int.eq_ofNat_of_zero_le (show 0 <= n by omega);have hu : u = .slice none 0 0 := by
     cases hV with
     | nil => rfl
     | sl _ _ _ _ _ _ _ _ _ _ _ _ _ _ _ _ hn => exact absurd (hn rfl) (by simp)
   subst hu;simp only [Qh] at hk;split at hk
   . rename_i T U hta;split at hk
     . rename_i E hT hU;split at hk
       . rename_i i hi;split at hk
         . rename_i z hz;simp only [zA, beq_iff_eq] at hk;obtain ⟨⟨k1, k2⟩, k3, k4⟩ := hk;subst k1 k2;have hta' : c.argTypes = #[T, U] := by rw [<- Array.toList_inj, hta]
           have hcn : 0 < cn := by omega
           have hb1 : cn * i.bytes <= 140737488355328 := by
             have h9 := c2;rw [<- Int.natCast_mul] at h9;omega
           have hfit : Builtin.nextslicecap cn 0 * i.bytes <= 281474976710656 := by
             have : Builtin.nextslicecap cn 0 = cn := by unfold Builtin.nextslicecap; rw [if_pos (by omega)]
             rw [this]; omega
           have hrun := J9 (P := P) (w := w) (ty := o.type) hT hU hi hz hcn c5 hb1 (by omega) hfit;have hge := grownCap_ge w cn 0 E;generalize hcapd : grownCap w cn 0 E = cap' at hrun hge;obtain ⟨z1, z2⟩ := qS ((g.fresh w.heap.size)) k4;have hzl : zs.length = z.cells.size := by omega
           have hR0 : R g O l σ w.drew := hroot.world (rP _) (fun _ _ => rfl);have hG0 : Grow O g w O g w.drew := ⟨rP _, fun _ _ _ => ⟨rfl, rfl, fun _ => rfl⟩, fun _ _ _ h => h, fun _ _ h => h, fun _ h => .inl h, rfl, rfl, rfl, rfl, fun _ => ⟨rP _, fun _ h => h⟩⟩;have hA : (Builtin.zeroCells z.cells cn).size = cn * i.size := by simp [Builtin.zeroCells, k3]
           have hB : (Builtin.zeroCells z.cells (cap' - cn)).size = (cap' - cn) * i.size := by simp [Builtin.zeroCells, k3]
           have hcs : (Builtin.zeroCells z.cells cn ++ Builtin.zeroCells z.cells (cap' - cn)).size = cap' * i.size := by
             rw [Array.size_append, hA, hB, <- tH]; congr 1; omega
           have hcells : ∀ (j : Nat) x v, (J1 cn zs)[j]? = some x -> (Builtin.zeroCells z.cells cn ++ Builtin.zeroCells z.cells (cap' - cn))[j]? = some v -> V (g.fresh w.heap.size) x v /\ qb x v = [] /\ x.isCell = true := by
             intro j x v hx hv;have hj : j < cn * zs.length := by rw [<- yF]; exact jk hx
             rw [KY (by omega) cn j hj] at hx;rw [c4] at hj;rw [Array.getElem?_append_left (by rw [hA]; exact hj)] at hv;simp only [Builtin.zeroCells, Array.getElem?_map, Array.getElem?_range] at hv;rw [if_pos (by rw [k3]; exact hj)] at hv;simp only [tU, zO] at hv;have hmod : j % z.cells.size < z.cells.size := Nat.mod_lt _ (by omega);refine z2 (j % zs.length) x v hx ?_;rw [<- hv, hzl];simp [getElem!_pos, hmod]
           have hnew := (hR0.push (kJ g) rfl).new (obr := .cells (Builtin.zeroCells z.cells cn ++ Builtin.zeroCells z.cells (cap' - cn)) E) (ob := .cells (J1 cn zs)) (fun _ =>
             ⟨_, E, (0, 0), jW _ _, .inl rfl, by rw [yF, c4, hcs]; exact tV _ (by omega), fun j x v hx hv => ⟨(hcells j x v hx hv).1, (hcells j x v hx hv).2.2⟩⟩) ⟨[], by
             simp only [kR];rw [flatten_nil];intro cc hcm;obtain ⟨j, x, y, h1, h2, rfl⟩ := kh hcm;have hbk : ko (w.drew.alloc (.cells (Builtin.zeroCells z.cells cn ++ Builtin.zeroCells z.cells (cap' - cn)) E)) w.drew.heap.size = _ := kq ..;rw [hbk] at h2;exact (hcells j x y h1 (by rw [<- Array.getElem?_toList]; exact h2)).2.1, by simp⟩
           refine ⟨_, _, _, w.heap.size :: O, hexec _ _ (by rw [hta']; exact hrun), hG0.trans ((kK hR0 _).trans (Grow.setZ _ _ _ _ _)), (hnew.setZ (z := cap' * i.size) (jW _ _) (by rw [hcs]; exact rP _)).push (.rs _ _ _ _ _ _ ?_ (by omega) (by rw [tS]; exact yu _ _ _)) rfl, Keep.snoc _ _⟩;simp [Gh.fresh, Gh.setZ, <- hR.len]
         . cases hk
       . cases hk
     . cases hk
   . cases hk
 . cases h
def jcP (P : Program) : Op -> MemK -> List Opd -> Bool
 | .call c, k, xs => (match c.callee with | .value (.func f) => jel P f k | .builtin .append => Qh P c k | _ => false) && ka xs c.args.toList
 | .convert S T r, .uptr, xs => (match P.underlying S, P.underlying T with | some (.pointer t), some .unsafePointer => (P.info? t).map (fun i => decide (i.size = 0)) == some false | _, _ => false) && ka xs [r]
 | .convert S T r, .bytesR, xs => (match P.underlying S, P.underlying T with | some .string, some (.slice e) => (match P.underlying e with | some (.int .u8) => true | _ => false) | _, _ => false) && ka xs [r]
 | .convert S T r, .textR, xs => (match P.underlying S, P.underlying T with | some (.slice e), some .string => (match P.underlying e with | some (.int .u8) => true | _ => false) | _, _ => false) && ka xs [r]
 | .range T r, .iter, xs => (match P.underlying T with | some .string => true | _ => false) && ka xs [r]
 | .next r is, .next, xs => is && ka xs [r]
 | .alloc T, .talloc T' zs, xs => T == T' && (xs.isEmpty && (match P.info? T with | some i => (match i.zero with | some z => Jh zs z.cells.toList | none => false) | none => false))
 | .convert S T r, .unp e n, xs => (match P.underlying S, P.underlying T with | some .unsafePointer, some (.pointer u) => (P.info? u).isSome && liesAt P P.depth e (n / P.cellsOf e) 0 u 1 | _, _ => false) && ka xs [r]
 | _, _, _ => false
theorem jcR {k : MemK} {xs : List Opd} (h : jcP P o.op k xs = true) (hs : ja cf (.mem k xs) s = some res) (hl : WT s.ts a.tmps) (hR : R g O (s.ts.roots a.tmps) s.σ w) : OpRes P o a g O w s res := by
 simp only [ja] at hs;split at hs
 . rename_i vs ts hga;split at hs
   . rename_i v σ' wr hm;simp only [zO] at hs;subst hs;have key : ∀ (rs : List Operand), ka xs rs = true -> (∀ c, o.op ≠ .defer c) -> (R g O (vs.zip (rs.map a.eval) ++ ts.roots a.tmps) s.σ w -> vs.length = (rs.map a.eval).length -> vm P g O w s.σ (ts.roots a.tmps) (execOp a.eval o) v σ' wr) -> OpRes P o a g O w s ⟨false, v, { ts := ts, σ := σ', wr := wr ++ s.wr }⟩ := by
       intro rs hx hd hrun;obtain ⟨h1, h2, h3⟩ := kD (l := []) hx hga hl hR;obtain ⟨v', w', g', O', q1, q2, q3, q4⟩ := hrun (by simpa using h1) h3;exact .of_val ⟨rfl, v', w', _, q1, rfl, g', O', wr, q2, q3, h2, rfl, q4⟩ hd
     unfold jcP at h;split at h
     . rename_i c hop;simp only [zA] at h;obtain ⟨h1, h2⟩ := h;split at h1
       . rename_i f hc;unfold jel at h1;split at h1
         . rename_i fn hf;simp only [zA, beq_iff_eq] at h1;refine key _ h2 (fun c h => by rw [hop] at h; cases h) (fun hR' hl' => ?_);have := jaA hf h1.1 h1.2.1 h1.2.2 hR' hl' hm;have e : execOp a.eval o = callFunc f ((c.args.toList.map a.eval).toArray) := by
             have ea : (c.args.toList.map a.eval).toArray = c.args.map a.eval := by apply Array.ext'; simp
             rw [ea];simp [execOp, hop, resolve, hc, Act.eval, Deferred.ofValue, invoke]
           rw [e]; exact this
         . cases h1
       . rename_i hc;refine key _ h2 (fun c h => by rw [hop] at h; cases h) (fun hR' hl' => ?_);obtain ⟨e, b, zs, rfl⟩ := jam h1
         . refine jcQ (o := o) h1 hR' hl' hm (fun r w' hr => ?_);have ea : (c.args.toList.map a.eval).toArray = c.args.map a.eval := by apply Array.ext'; simp
           rw [ea] at hr;simp [execOp, hop, resolve, hc, invoke, builtin, hr]
       . cases h1
     . rename_i S T r hop;simp only [zA] at h;obtain ⟨h1, h2⟩ := h;split at h1
       . rename_i t hS hT;refine key _ h2 (fun c h => by rw [hop] at h; cases h) (fun hR' hl' => ?_);obtain ⟨u, hu, this⟩ := Y9 hS hT (eq_of_beq h1) hR' hl' hm;simp only [rR, List.map_nil, tP, and_true] at hu;have e : execOp a.eval o = (do pure (.value (<- convert S T (a.eval r)))) := by simp only [execOp, hop]
         rw [e, hu]; exact this
       . cases h1
     . rename_i S T r hop;simp only [zA] at h;obtain ⟨h1, h2⟩ := h;split at h1
       . rename_i e hS hT;split at h1
         . rename_i he;refine key _ h2 (fun c h => by rw [hop] at h; cases h) (fun hR' hl' => ?_);obtain ⟨u, hu, this⟩ := Vn hS hT he hR' hl' hm;simp only [rR, List.map_nil, tP, and_true] at hu;have e : execOp a.eval o = (do pure (.value (<- convert S T (a.eval r)))) := by simp only [execOp, hop]
           rw [e, hu]; exact this
         . cases h1
       . cases h1
     . rename_i S T r hop;simp only [zA] at h;obtain ⟨h1, h2⟩ := h;split at h1
       . rename_i e hS hT;split at h1
         . rename_i he;refine key _ h2 (fun c h => by rw [hop] at h; cases h) (fun hR' hl' => ?_);obtain ⟨u, hu, this⟩ := XO hS he hT hR' hl' hm;simp only [rR, List.map_nil, tP, and_true] at hu;have e : execOp a.eval o = (do pure (.value (<- convert S T (a.eval r)))) := by simp only [execOp, hop]
           rw [e, hu]; exact this
         . cases h1
       . cases h1
     . rename_i T r hop;simp only [zA] at h;obtain ⟨h1, h2⟩ := h;split at h1
       . rename_i hT;refine key _ h2 (fun c h => by rw [hop] at h; cases h) (fun hR' hl' => ?_);obtain ⟨u, hu, this⟩ := Y5 hT hR' hl' hm;simp only [rR, List.map_nil, tP, and_true] at hu;have e : execOp a.eval o = (do pure (.value (<- Instr.range T (a.eval r)))) := by simp only [execOp, hop]
         rw [e, hu]; exact this
       . cases h1
     . rename_i r is hop;simp only [zA] at h;obtain ⟨h1, h2⟩ := h;subst h1;refine key _ h2 (fun c h => by rw [hop] at h; cases h) (fun hR' hl' => ?_);obtain ⟨u, hu, this⟩ := Y6 (ty := o.type) hR' hl' hm;simp only [rR, List.map_nil, tP, and_true] at hu;have e : execOp a.eval o = (do pure (.value (<- Instr.next (a.eval r) true o.type))) := by simp only [execOp, hop]
       rw [e, hu]; exact this
     . rename_i T xs T' zs hop;simp only [zA, beq_iff_eq, List.isEmpty_iff] at h;obtain ⟨rfl, rfl, h1⟩ := h;split at h1
       . rename_i i z1;split at h1
         . rename_i z z2;simp only [getAll, zO, zP] at hga;obtain ⟨rfl, rfl⟩ := hga;refine key [] rfl (fun c h => by rw [hop] at h; cases h) (fun hR' hl' => ?_);exact Vo z1 z2 h1 (by simpa using hR') hm (by simp [execOp, hop, Instr.alloc, zeroValue, typeInfo, z1, z2, qZ])
         . cases h1
       . cases h1
     . rename_i S T r e n hop;simp only [zA] at h;obtain ⟨h1, h2⟩ := h;split at h1
       . rename_i u hS hT;simp only [zA, Option.isSome_iff_exists] at h1;obtain ⟨⟨j, hj⟩, h1⟩ := h1;refine key _ h2 (fun c h => by rw [hop] at h; cases h) (fun hR' hl' => ?_);obtain ⟨u, hu, this⟩ := jaz hS hT hj h1 hR' hl' hm;simp only [rR, List.map_nil, tP, and_true] at hu;have e : execOp a.eval o = (do pure (.value (<- convert S T (a.eval r)))) := by simp only [execOp, hop]
         rw [e, hu]; exact this
       . cases h1
     . cases h
   . cases hs
 . cases hs
theorem Zp {x : Opd} {r : Operand} (hop : o.op = .panic r) (hx : jL x r = true) (hs : ja cf (.panic x) s = some res) (hl : WT s.ts a.tmps) (hR : R g O (s.ts.roots a.tmps) s.σ w) : OpRes P o a g O w s res := by
 simp only [ja] at hs;split at hs
 . rename_i t v ts h;simp only [zO] at hs;subst hs;obtain ⟨h1, h2⟩ := jI (l := []) hx h hl hR;obtain ⟨u, hu, -, -⟩ := iface_inv h1.head;intro ρ n next Q _ hp;refine ⟨fun _ _ => trivial, ?_⟩;rw [Oper.semAt_eq _ _ _ (fun c h => by rw [hop] at h; cases h)];have e : (execOp a.eval o).run P w = .halt (.panic (.iface t u)) w := by
     simp only [execOp, hop, hu]; rfl
   rw [e];refine hp rfl (.iface t u) w ⟨g, O, [], .refl _ _ _, ?_, h2, rfl, .refl _⟩;have := h1; rw [hu] at this; simpa using this
 . cases hs
end Go.Idl
namespace Go.Idl
variable [Globs]
variable {P : Program} {g : Gh} {O : List Nat} {w : World}
theorem R.free_of {l : ke} {σ : List IObj} {b : Nat} (h : R g O l σ w) (hb : b ∉ ky l ++ kY w g.ι σ) : R g (O.filter (fun k => k != b)) l σ w := by
 have hm : ∀ k, k ∈ O.filter (fun k => k != b) -> k ∈ O := fun k hk => (List.mem_filter.1 hk).1;refine ⟨h.len, h.vals, h.objo, h.nodup, fun k hk => List.mem_filter.2 ⟨h.sub k hk, ?_⟩, fun k hk => h.lt k (hm k hk), h.claim, h.apart, fun k hk => h.spare k (hm k hk), h.glob, h.zs⟩;have : k ≠ b := fun e => hb (e ▸ hk);simpa using this
def Gh.renew (g : Gh) (b : Nat) : Gh := { g with ι := g.ι ++ [.bk b], T := fun k => if k = b then none else g.T k }
theorem R.renew {x y : IVal} {v u : Value} {l : ke} {σ : List IObj} {id b : Nat} {ob ob' : IObj} {w' : World} (h : R g O ((x, v) :: l) σ w) (hι : g.ι[id]? = some (.bk b)) (hσ : σ[id]? = some ob) (hlive : ¬ ob.live = false)
   (hw : ∀ k, k ≠ b -> w'.heap[k]? = w.heap[k]?) (hs : w'.heap.size = w.heap.size) (hsp : ∀ c el fz, w.heap[b]? = some (.cells c el fz) -> ∃ c', w'.heap[b]? = some (.cells c' el fz) /\ c'.size = c.size)
   (hy : V g y u) (hyo : SubP (kl y u) (kl x v ++ kR w b ob)) (hyb : b ∉ kl y u) (hob : OBJ (g.renew b) w' b ob') (hown : ∃ r, kR w' b ob' = b :: r /\ r.Sublist (kl y u)) (h1 : w'.os = w.os) (h2 : w'.tape = w.tape) (h3 : w'.output = w.output) :
   ∃ O', R (g.renew b) O' l ((σ.set id .dead) ++ [ob']) w' /\ Grow O g w O' (g.renew b) w' := by
 have hbO : b ∈ O := h.sub b (rW _ (kB hι hσ (kv hlive)));have hM : ∀ o, g.M b o = none := h.apart id b ob hι hσ (kv hlive);have hd := h.upd (ob' := .dead) (w' := w') hy hι hσ hlive hw hs hsp trivial (by
   simp only [kR, rM];exact hyo)
 -- nothing owns the block now
 have hnb : b ∉ ky ((y, u) :: l) ++ kY w' g.ι (σ.set id .dead) := by
   intro hm;have hn := h.nodup;have hin : b ∈ kY w g.ι σ := kB hι hσ (kv hlive);have e : ky ((y, u) :: l) = kl y u ++ ky l := by simp [ky]
   have e' : ky ((x, v) :: l) = kl x v ++ ky l := by simp [ky]
   rcases List.mem_append.1 hm with hm | hm
   . rw [e] at hm
     rcases List.mem_append.1 hm with hm | hm
     . exact hyb hm
     . exact (List.nodup_append.1 hn).2.2 b (by rw [e']; exact rW _ hm) b hin rfl
   . simp only [kY, List.mem_flatten] at hm;obtain ⟨c, hc, hbc⟩ := hm;obtain ⟨j, k, z, q1, q2, rfl⟩ := kh hc
     cases k with
     | un zs => cases hbc
     | bk k =>
     have hbc : b ∈ kR w' k z := hbc
     by_cases hj : j = id
     . subst hj;rw [rH (jk hσ)] at q2; cases q2;simp [kR] at hbc
     . rw [rA (by omega)] at q2;have hk : kR w' k z = kR w k z \/ k = b := by
         by_cases e : k = b
         . exact .inr e
         . exact .inl (qL (hw k e) z)
       have hnS := (List.nodup_append.1 hn).2.1;have g1 : (List.zipWith (qk w) g.ι σ)[id]? = some (kR w b ob) := by simp [tL, hι, hσ, qk]
       have g2 : (List.zipWith (qk w) g.ι σ)[j]? = some (kR w k z) := by simp [tL, q1, q2, qk]
       rcases hk with hk | hk
       . rw [hk] at hbc;exact qV hnS g1 g2 (by omega) (kv hlive) hbc
       . subst hk
         by_cases hyd : z.live = false
         . rw [kW hyd] at hbc; cases hbc
         . exact qV hnS g1 g2 (by omega) (kv hlive) (kv hyd)
 have hf := hd.free_of hnb;have hkf : b ∉ O.filter (fun k => k != b) := by simp
 have hg : R { g with T := fun k => if k = b then none else g.T k } (O.filter (fun k => k != b)) ((y, u) :: l) (σ.set id .dead) w' := by
   refine hf.ghost hkf rfl rfl (fun _ _ _ => rfl) (fun _ _ h => h) (fun k hk => by simp [hk]) (fun o v hm => ?_);rw [hM o] at hm; cases hm
 have ha := hg.addObj (k := b) (ob := ob') hkf (by rw [hs]; exact h.lt b hbO) hM (by simp) hob hown;refine ⟨_, ha, ⟨by omega, fun k hk hkO => ⟨hw k (fun e => hkO (e ▸ hbO)), ?_, fun _ => rfl⟩, fun _ _ _ h => h, fun j k hj => ?_, fun k hk => ?_, rfl, h1, h2, h3, fun _ => ⟨rP _, fun _ h => h⟩⟩⟩
 . have : k ≠ b := fun e => hkO (e ▸ hbO);simp [Gh.renew, this]
 . simp only [Gh.renew]; rw [zL (jk hj)]; exact hj
 . rcases List.mem_cons.1 hk with rfl | hk
   . exact .inl hbO
   . exact .inl (List.mem_filter.1 hk).1
end Go.Idl
namespace Go.Idl
variable [Globs]
variable {P : Program} {o : Oper} {a : Act} {g : Gh} {O : List Nat} {w : World} {s : St} {res : Res} {cf : kt}
theorem zg : ∀ {ys : List IVal} {us : List Value}, ys.length = us.length -> (∀ (j : Nat) y u, ys[j]? = some y -> us[j]? = some u -> V g y u) -> (∀ y ∈ ys, nt y = true) ->
   (ys.flatMap fun v => (un2 v).cells).length = (jJ us).length /\ ∀ (j : Nat) x v, (ys.flatMap fun v => (un2 v).cells)[j]? = some x -> (jJ us)[j]? = some v -> V g x v /\ un1 x = x /\ x.isCell = true := by
 intro ys
 induction ys with
 | nil => intro us h _ _; have : us = [] := List.length_eq_zero_iff.1 h.symm; subst this; simp [jJ]
 | cons y ys ih =>
   intro us h hv hn
   cases us with
   | nil => simp at h
   | cons u us =>
     have hV := hv 0 y u rfl rfl;obtain ⟨h1, h2⟩ := ih (us := us) (by simpa using h) (fun j y u hy hu => hv (j + 1) y u (by simpa using hy) (by simpa using hu)) (fun y hy => hn y (by simp [hy]));have e : jJ (u :: us) = u.cells.toList ++ jJ us := by simp [jJ]
     obtain ⟨c1, c2⟩ := hV.un2.cells;have hfl := YJ hV (hn y (by simp));have el : (un2 y).cells.length = u.cells.toList.length := by simpa using c1
     simp only [rO];rw [e];refine ⟨by simp only [rF, h1, el], fun j x v hx hv' => ?_⟩
     by_cases hj : j < (un2 y).cells.length
     . rw [zL hj] at hx;rw [zL (by omega)] at hv';obtain ⟨q1, q2⟩ := hfl x (zM hx);exact ⟨c2 j x v hx (by simpa using hv'), q1, q2⟩
     . rw [zR (by omega)] at hx;rw [zR (by omega), <- el] at hv';exact h2 _ x v hx hv'
theorem Xc {ys : List IVal} {us : List Value} (hl : ys.length = us.length) (hv : ∀ (j : Nat) y u, ys[j]? = some y -> us[j]? = some u -> V g y u) (hn : ∀ y ∈ ys, nt y = true) : ∀ v ∈ jJ us, v.oneCell' = true := by
 obtain ⟨h1, h2⟩ := zg hl hv hn;intro v hv';obtain ⟨j, hj⟩ := kc hv';obtain ⟨x, hx⟩ := ku h1.symm hj;obtain ⟨q1, _, q3⟩ := h2 j x v hx hj;exact vF (by rw [<- q1.isCell]; exact q3)
theorem QB {A : List IVal} {c : List Value} (n : Nat) : (List.zipWith qb (A.take n) (c.take n)).flatten.Sublist (List.zipWith qb A c).flatten := by
 rw [<- List.take_zipWith];generalize List.zipWith qb A c = l;have : l.flatten = (l.take n).flatten ++ (l.drop n).flatten := by rw [<- List.flatten_append, List.take_append_drop]
 rw [this]; exact List.sublist_append_left _ _
theorem Xg {A B : List IVal} {C D : List Value} (hl : A.length = C.length) (hB : ∀ (j : Nat) x v, B[j]? = some x -> D[j]? = some v -> qb x v = []) : (List.zipWith qb (A ++ B) (C ++ D)).flatten = (List.zipWith qb A C).flatten := by
 rw [List.zipWith_append hl, List.flatten_append];rw [show (List.zipWith qb B D).flatten = [] from flatten_nil (fun x hx => by
   obtain ⟨j, y, v, h1, h2, rfl⟩ := kh hx;exact hB j y v h1 h2)]
 simp
theorem VN {isS : Bool} {x y : Opd} {rx ry : Operand} {c : Call} {T U E : TypeId} {du : TypeDesc} {i : TypeInfo} {z : Value} (hop : o.op = .call c) (hc : c.callee = .builtin .append) (ha : c.args = #[rx, ry]) (hta : c.argTypes = #[T, U]) (hx : jL x rx = true) (hy : jL y ry = true)
   (hT : P.underlying T = some (.slice E)) (hU : P.underlying U = some du) (hdu : ∀ k, du ≠ .int k) (hi : P.info? E = some i) (hz : i.zero = some z) (hzs : z.cells.size = i.size)
   (hs : ja cf (.append true isS i.size i.bytes x y) s = some res) (hl : WT s.ts a.tmps) (hR : R g O (s.ts.roots a.tmps) s.σ w) : SimV P o a g O w s res := by
 simp only [ja] at hs;split at hs
 . rename_i base ts h;split at hs
   . rename_i yv ts' h';split at hs
     . rename_i ys hys;have hexec : ∀ r w', (Builtin.append_ #[T, U] o.type #[a.eval rx, a.eval ry]).run P w = .ok r w' -> (execOp a.eval o).run P w = .ok (.value r) w' := by
         intro r w' hr;simp [execOp, hop, resolve, hc, ha, hta, invoke, builtin, hr]
       obtain ⟨h1, h2⟩ := jI (l := []) hx h hl hR;obtain ⟨h3, h4⟩ := jI (l := [(base, a.eval rx)]) hy h' h2 h1;obtain ⟨us, u1, u2, u3, u4, u5, u6⟩ := vP (P := P) h3 h3.head hys;obtain ⟨k1, k2⟩ := zg u1 u2 u3;have hflen : (jJ us).length = ys.length * i.size := by rw [kC u4, u1]
       have hroot : R g O ((base, a.eval rx) :: ts'.roots a.tmps) s.σ w := h3.drop;have hroot := hroot.nilOwn i.size;have hV := hroot.head;generalize nilOwn i.size base = base at hs hV hroot;generalize hrx : a.eval rx = rxv at hV hroot;split at hs
       . rename_i own rf xs;split at hs
         . rename_i hcond;obtain ⟨hown, h0, hb1, hb2⟩ := hcond;subst hown;simp only [if_true] at hs;split at hs
           . rename_i hxs;have hxs : xs = [] := List.length_eq_zero_iff.1 hxs;subst hxs;have hlenx : ∃ ad, rxv = .slice ad 0 0 := by
               cases hV with
               | nil => exact ⟨none, rfl⟩
               | sl _ _ _ vs ad cap _ _ hc' hl' hv' hf' hr' hz' hcl ho hn =>
                 have := (ho (by omega)).2.1 rfl;subst this;exact ⟨some ad, rfl⟩
             obtain ⟨ad, rfl⟩ := hlenx;split at hs
             . rename_i hys0;have hys0 : ys = [] := List.length_eq_zero_iff.1 hys0;subst hys0;simp only [rv, zO] at hs;subst hs;have hus : us = [] := List.length_eq_zero_iff.1 (by simpa using u1.symm);subst hus;have hrun : (Builtin.append_ #[T, U] o.type #[.slice ad 0 0, a.eval ry]).run P w = .ok (.slice ad (0 + 0) 0) w := by
                 refine kT hT hU hdu hi u5 (u6 w rfl) (by simp) ?_;cases ad <;> simp [jJ, storeCells]
               exact SimV.same (hexec _ _ (by rw [hrx]; exact hrun)) hroot h4
             . rename_i hys0;simp only [zO] at hs;subst hs;have hneed : (0 + ys.length) * i.bytes <= 140737488355328 := by simp only [List.length_nil] at hb1; omega
               have hrun := k8 (ty := o.type) (base := ad) (sLen := 0) (sCap := 0) (olds := []) hT hU hdu hi hz u5 u6 (fun W _ => by
                 cases ad with
                 | none => simp [Builtin.firstCells]
                 | some ad => exact run_firstCells_some (P := P) W i.size 0 ad 0 0 [] (by simp) (by simp)) (by omega) (by simp only [List.length_nil] at hb2; omega) (growslice_fits (by omega) hneed)
               have hge := grownCap_ge w (0 + ys.length) 0 E;generalize hcapd : grownCap w (0 + ys.length) 0 E = cap' at hrun hge;simp only [tS] at hrun hge;have hzc : (Builtin.zeroCells z.cells (cap' - ys.length)).size = (cap' - ys.length) * i.size := by
                 simp [Builtin.zeroCells, hzs]
               have hR0 : R g O ((.sl i.size rf [], .slice ad 0 0) :: ts'.roots a.tmps) s.σ w.drew := hroot.world (rP _) (fun _ _ => rfl);have hG0 : Grow O g w O g w.drew := ⟨rP _, fun _ _ _ => ⟨rfl, rfl, fun _ => rfl⟩, fun _ _ _ h => h, fun _ _ h => h, fun _ h => .inl h, rfl, rfl, rfl, rfl, fun _ => ⟨rP _, fun _ h => h⟩⟩;have hcs : (([] : List Value).toArray ++ (jJ us).toArray ++ Builtin.zeroCells z.cells (cap' - ys.length)).size = cap' * i.size := by
                 simp only [Array.size_append, hzc, List.size_toArray, hflen, List.length_nil, tS];rw [<- tH]; congr 1; omega
               have hget : ∀ (j : Nat) v, (([] : List Value).toArray ++ (jJ us).toArray ++ Builtin.zeroCells z.cells (cap' - ys.length))[j]? = some v -> j < ys.length * i.size -> (jJ us)[j]? = some v := by
                 intro j v hj hlt;rw [Array.getElem?_append_left (by simp [hflen]; exact hlt)] at hj;simpa using hj
               have hι : ∀ (id b : Nat), g.ι[id]? = some (Blk.bk b) -> (g.fresh w.heap.size).ι[id]? = some (Blk.bk b) := fun (id b : Nat) hb => by simp only [Gh.fresh]; rw [zL (jk hb)]; exact hb
               have hcl : ∀ (j : Nat) x v, (ys.flatMap fun v => (un2 v).cells)[j]? = some x -> (([] : List Value).toArray ++ (jJ us).toArray ++ Builtin.zeroCells z.cells (cap' - ys.length))[j]? = some v -> V g x v /\ un1 x = x /\ x.isCell = true := by
                 intro j x v hxj hvj;have := jk hxj;rw [k1, hflen] at this;exact k2 j x v hxj (hget j v hvj this)
               have hnew := hR0.new (obr := .cells (([] : List Value).toArray ++ (jJ us).toArray ++ Builtin.zeroCells z.cells (cap' - ys.length)) E) (ob := .cells (ys.flatMap fun v => (un2 v).cells)) (fun _ =>
                 ⟨_, E, (0, 0), jW _ _, .inl rfl, by rw [k1, hflen, hcs]; exact tV _ (by omega), fun j x v hxj hvj => by
                   obtain ⟨q1, q2, q3⟩ := hcl j x v hxj hvj;exact ⟨q1.mono hι (fun _ _ _ h => h) (by rw [kQ q3, kP q2]; simp), q3⟩⟩) ⟨[], by
                 simp only [kR];rw [flatten_nil];intro cc hcm;obtain ⟨j, x, y, q1, q2, rfl⟩ := kh hcm;have hb : ko (w.drew.alloc (.cells (([] : List Value).toArray ++ (jJ us).toArray ++ Builtin.zeroCells z.cells (cap' - ys.length)) E)) w.drew.heap.size = _ := kq ..;rw [hb] at q2;exact kP (hcl j x y q1 (by rw [<- Array.getElem?_toList]; exact q2)).2.1 _, by simp⟩
               refine ⟨rfl, _, _, _, hexec _ _ (by rw [hrx]; exact hrun), rfl, _, w.heap.size :: O, [], hG0.trans ((kK hR0 _).trans (Grow.setZ _ _ _ _ _)), (hnew.setZ (z := cap' * i.size) (jW _ _) (by rw [hcs]; exact rP _)).push (.rs _ _ _ _ _ _ ?_ (by omega) (by rw [tS]; exact yu _ _ _)) rfl, h4, rfl, Keep.snoc _ _⟩;simp [Gh.fresh, Gh.setZ, <- hR.len]
           . cases hs
         . cases hs
       . rename_i e id off len;split at hs
         . rename_i hcond;obtain ⟨-, he, ho, h0, hb1, hb2⟩ := hcond;subst he ho;split at hs
           . rename_i cs hcs;split at hs
             . rename_i hlen;simp only [zO] at hs;subst hs;obtain ⟨b, cap, rfl, hι, hcap, hz0⟩ := hV.rs_inv';have hσ := j9 hcs;obtain ⟨c, el, fz, hh, hnf, hsz, hc'⟩ := hroot.objs id b _ hι hσ;have hA : (cs.take (len * i.size)).length = len * i.size := by simp; omega
               have hC : (c.toList.take (len * i.size)).length = len * i.size := by simp; omega
               have hVA : ∀ (j : Nat) x v, (cs.take (len * i.size))[j]? = some x -> (c.toList.take (len * i.size))[j]? = some v -> V g x v /\ x.isCell = true := by
                 intro j x v hx hv;have hj := jk hx;rw [hA] at hj;rw [tD, if_pos hj] at hx hv;exact hc' j x v hx (by simpa using hv)
               have hy : V g (.agg (cs.take (len * i.size))) (.agg (c.toList.take (len * i.size)).toArray) := by
                 refine .agg _ _ (by simp only [List.size_toArray]; rw [hA, hC]) (fun j x v hx hv => (hVA j x v hx (by simpa using hv)).1) (fun x hx => ?_);obtain ⟨j, hj⟩ := kc hx;obtain ⟨v, hv⟩ := ku (hA.trans hC.symm) hj;exact (hVA j x v hj hv).2
               have hoy : kl (.agg (cs.take (len * i.size))) (.agg (c.toList.take (len * i.size)).toArray) = (List.zipWith qb (cs.take (len * i.size)) (c.toList.take (len * i.size))).flatten := rfl;have hob : kR w b (.cells cs) = b :: (List.zipWith qb cs c.toList).flatten := by simp [kR, ko, hh]
               have hsub := QB (A := cs) (c := c.toList) (len * i.size);have hlive : ¬ (IObj.cells cs).live = false := by simp [IObj.live]
               have hnd : (kR w b (.cells cs)).Nodup := by
                 have h5 := (List.nodup_append.1 hroot.nodup).2.1;refine h5.sublist (List.sublist_flatten_of_mem ?_);refine zM (i := id) ?_;simp [tL, hι, hσ, qk]
               have hbA : b ∉ (List.zipWith qb (cs.take (len * i.size)) (c.toList.take (len * i.size))).flatten := by
                 rw [hob, List.nodup_cons] at hnd;exact fun hm => hnd.1 (hsub.mem hm)
               have hyo : SubP (kl (.agg (cs.take (len * i.size))) (.agg (c.toList.take (len * i.size)).toArray)) (kl (.rs i.size id 0 len) (.slice (some ⟨b, 0, none⟩) len cap) ++ kR w b (.cells cs)) := by
                 rw [hoy, hob];exact .of_sub ((hsub.trans (List.sublist_cons_self _ _)).trans (List.sublist_append_right _ _))
               have hBget : ∀ {F : List Value} (j : Nat) x v, (cs.take (len * i.size) ++ ys.flatMap fun v => (un2 v).cells)[j]? = some x -> (c.toList.take (len * i.size) ++ (jJ us ++ F))[j]? = some v ->
                   ((cs.take (len * i.size))[j]? = some x /\ (c.toList.take (len * i.size))[j]? = some v) \/ (V g x v /\ un1 x = x /\ x.isCell = true) := by
                 intro F j x v hx hv
                 by_cases hj : j < len * i.size
                 . rw [zL (by omega)] at hx hv;exact .inl ⟨hx, hv⟩
                 . rw [zR (by omega), hA] at hx;rw [zR (by omega), hC] at hv;have := jk hx;rw [zL (by omega)] at hv;exact .inr (k2 _ x v hx hv)
               have hownB : ∀ {F : List Value}, (List.zipWith qb (cs.take (len * i.size) ++ ys.flatMap fun v => (un2 v).cells) (c.toList.take (len * i.size) ++ (jJ us ++ F))).flatten = (List.zipWith qb (cs.take (len * i.size)) (c.toList.take (len * i.size))).flatten := by
                 intro F;refine Xg (hA.trans hC.symm) (fun j x v hx hv => ?_);have := jk hx;rw [zL (by omega)] at hv;exact kP (k2 j x v hx hv).2.1 v
               have hlenN : (cs.take (len * i.size) ++ ys.flatMap fun v => (un2 v).cells).length = (len + ys.length) * i.size := by
                 rw [rF, hA, k1, hflen, tH]
               have hkeep : Keep s.σ (s.σ.set id .dead ++ [.cells (cs.take (len * i.size) ++ ys.flatMap fun v => (un2 v).cells)]) [(id, false)] :=
                 (Keep.set (ob := .dead) (rf := false) (fun n _ _ _ => (trivial : True))).trans (Keep.snoc _ _)
               by_cases hroom : len + ys.length <= cap
               . have hcapc : cap * i.size <= c.size := by
                   rcases Nat.eq_zero_or_pos (cap * i.size) with h9 | h9
                   . omega
                   . obtain ⟨c2, el2, fz2, q1, q2⟩ := (hroot.zs b).1 (by omega);rw [hh] at q1; cases q1; omega
                 have hmul : len * i.size + ys.length * i.size <= cap * i.size := by rw [<- tH]; exact tV _ hroom
                 have hst := kL P b (0 + len * i.size) el fz (jJ us) 0 c w hh hnf (by omega) (Xc u1 u2 u3);have hrun : (Builtin.append_ #[T, U] o.type #[.slice (some ⟨b, 0, none⟩) len cap, a.eval ry]).run P w = .ok (.slice (some ⟨b, 0, none⟩) (len + ys.length) cap) _ :=
                   kT hT hU hdu hi u5 (u6 w rfl) hroom (by
                     simp only;rw [kA]; exact hst)
                 simp only [Nat.add_zero, tS, zS] at hrun;generalize hcc : (c.toList.take (len * i.size) ++ (jJ us ++ c.toList.drop (len * i.size + (jJ us).length))).toArray = c2 at hrun;have hc2 : c2.toList = c.toList.take (len * i.size) ++ (jJ us ++ c.toList.drop (len * i.size + (jJ us).length)) := by rw [<- hcc]
                 have hc2s : c2.size = c.size := by rw [<- hcc]; simp; omega
                 have hf := qg w b c2;have hrow := setRow_heap w b c c2 el _ hh;obtain ⟨O', hR', hg⟩ := hroot.renew (ob' := .cells (cs.take (len * i.size) ++ ys.flatMap fun v => (un2 v).cells)) hι hσ hlive (fun k hk => setRow_other w b k c2 hk) hf.2.2.2 (fun c0 el0 fz0 h9 => by
                     rw [hh] at h9; cases h9; exact ⟨c2, hrow, hc2s⟩) hy hyo (by rw [hoy]; exact hbA) ⟨c2, el, fz, hrow, hnf.of_size hc2s, by rw [hlenN, hc2s, tH]; omega, fun j x v hx hv => by
                       have hv' : c2.toList[j]? = some v := by simpa using hv
                       rw [hc2] at hv'
                       rcases hBget j x v hx hv' with ⟨q1, q2⟩ | ⟨q1, q2, q3⟩
                       . obtain ⟨p1, p2⟩ := hVA j x v q1 q2;refine ⟨p1.mono (fun id' b' hb' => by simp only [Gh.renew]; rw [zL (jk hb')]; exact hb') (fun _ _ _ h => h) (fun b' hb' => ?_), p2⟩;have : b' ≠ b := fun e => hbA (by
                           subst e;rw [kQ p2] at hb';exact qc (f := qb) q1 q2 hb')
                         simp [Gh.renew, this]
                       . exact ⟨q1.mono (fun id' b' hb' => by simp only [Gh.renew]; rw [zL (jk hb')]; exact hb') (fun _ _ _ h => h) (by rw [kQ q3, kP q2]; simp), q3⟩⟩
                     ⟨_, by simp only [kR, ko, hrow]; rw [hc2], by rw [hownB, hoy]; exact .refl _⟩ hf.1 hf.2.1 hf.2.2.1
                 refine ⟨rfl, _, _, _, hexec _ _ (by rw [hrx]; exact hrun), rfl, _, O', [(id, false)], hg, hR'.push (.rs _ _ _ _ _ _ ?_ hroom hz0) rfl, h4, rfl, hkeep⟩;simp [Gh.renew, <- hR.len]
               . have hneed : (len + ys.length) * i.bytes <= 140737488355328 := by omega
                 have hold : ∀ W : World, W.heap = w.heap -> (Builtin.firstCells i.size len (.slice (some ⟨b, 0, none⟩) len cap)).run P W = .ok (c.toList.take (len * i.size)).toArray W := by
                   intro W hW;refine run_firstCells_some (P := P) W i.size len ⟨b, 0, none⟩ len cap _ hC (fun j v hj => ?_);have hjl := jk hj;rw [hC] at hjl;rw [tD, if_pos hjl] at hj;rw [kA];simp only [World.cell?, hW, hh, tS];simpa using hj
                 have hrun := k8 (ty := o.type) hT hU hdu hi hz u5 u6 hold (by omega : cap < len + ys.length) (by omega) (growslice_fits (by omega) hneed);have hge := grownCap_ge w (len + ys.length) cap E;generalize hcapd : grownCap w (len + ys.length) cap E = cap' at hrun hge;have hzc : (Builtin.zeroCells z.cells (cap' - (len + ys.length))).size = (cap' - (len + ys.length)) * i.size := by
                   simp [Builtin.zeroCells, hzs]
                 have hdead := hroot.upd (ob' := .dead) (w' := w) hy hι hσ hlive (fun _ _ => rfl) rfl (fun c0 el0 fz0 h9 => ⟨c0, h9, rfl⟩) trivial (by simp only [kR, rM]; exact hyo);have hR0 := hdead.world (w' := w.drew) (rP _) (fun _ _ => rfl);have hG0 : Grow O g w O g w.drew := ⟨rP _, fun _ _ _ => ⟨rfl, rfl, fun _ => rfl⟩, fun _ _ _ h => h, fun _ _ h => h, fun _ h => .inl h, rfl, rfl, rfl, rfl, fun _ => ⟨rP _, fun _ h => h⟩⟩;generalize hcc : (c.toList.take (len * i.size)).toArray ++ (jJ us).toArray ++ Builtin.zeroCells z.cells (cap' - (len + ys.length)) = c2 at hrun;have hc2 : c2.toList = c.toList.take (len * i.size) ++ (jJ us ++ (Builtin.zeroCells z.cells (cap' - (len + ys.length))).toList) := by rw [<- hcc]; simp
                 have hc2s : c2.size = cap' * i.size := by
                   have : c2.size = c2.toList.length := by simp
                   rw [this, hc2, rF, rF, hC, hflen];have e9 : (Builtin.zeroCells z.cells (cap' - (len + ys.length))).toList.length = (cap' - (len + ys.length)) * i.size := by simpa using hzc
                   rw [e9, <- tH, <- tH]
                   congr 1; omega
                 have hnew := hR0.new (obr := .cells c2 E) (ob := .cells (cs.take (len * i.size) ++ ys.flatMap fun v => (un2 v).cells)) (fun hVf =>
                   ⟨c2, E, (0, 0), jW _ _, .inl rfl, by rw [hlenN, hc2s]; exact tV _ hge, fun j x v hx hv => by
                     have hv' : c2.toList[j]? = some v := by simpa using hv
                     rw [hc2] at hv'
                     rcases hBget j x v hx hv' with ⟨q1, q2⟩ | ⟨q1, q2, q3⟩
                     . cases hVf with
                       | agg _ _ hl' hv'' hi' => exact ⟨hv'' j x v q1 (by simpa using q2), hi' x (zM q1)⟩
                     . exact ⟨q1.mono (fun id' b' hb' => by simp only [Gh.fresh]; rw [zL (jk hb')]; exact hb') (fun _ _ _ h => h) (by rw [kQ q3, kP q2]; simp), q3⟩⟩)
                   ⟨_, by
                     simp only [kR];have hb : ko (w.drew.alloc (.cells c2 E)) w.drew.heap.size = c2.toList := kq ..;rw [hb, hc2], by rw [hownB, hoy]; exact .refl _⟩
                 refine ⟨rfl, _, _, _, hexec _ _ (by rw [hrx]; exact hrun), rfl, _, w.heap.size :: O, [(id, false)], hG0.trans ((kK hR0 _).trans (Grow.setZ _ _ _ _ _)), (hnew.setZ (z := cap' * i.size) (jW _ _) (by rw [hc2s]; exact rP _)).push (.rs _ _ _ _ _ _ ?_ hge (by rw [tS]; exact yu _ _ _)) rfl, h4, rfl, hkeep⟩;simp [Gh.fresh, Gh.setZ, <- hR.len]
             . cases hs
           . cases hs
         . cases hs
       . cases hs
     . cases hs
   . cases hs
 . cases hs
theorem VM {br isS : Bool} {x y : Opd} {rx ry : Operand} {c : Call} {T U E : TypeId} {du : TypeDesc} {i : TypeInfo} {z : Value} (hop : o.op = .call c) (hc : c.callee = .builtin .append) (ha : c.args = #[rx, ry]) (hta : c.argTypes = #[T, U]) (hx : jL x rx = true) (hy : jL y ry = true)
   (hT : P.underlying T = some (.slice E)) (hU : P.underlying U = some du) (hdu : ∀ k, du ≠ .int k) (hi : P.info? E = some i) (hz : i.zero = some z) (hzs : z.cells.size = i.size)
   (hs : ja cf (.append br isS i.size i.bytes x y) s = some res) (hl : WT s.ts a.tmps) (hR : R g O (s.ts.roots a.tmps) s.σ w) : SimV P o a g O w s res := by
 cases br with
 | false => exact XX hop hc ha hta hx hy hT hU hdu hi hz hzs hs hl hR
 | true => exact VN hop hc ha hta hx hy hT hU hdu hi hz hzs hs hl hR
theorem K3 {x : Opd} {r : Operand} {S T e : TypeId} (hop : o.op = .convert S T r) (hx : jL x r = true) (hS : P.underlying S = some .string) (hT : P.underlying T = some (.slice e)) (he : P.underlying e = some (.int .u8))
   (hs : ja cf (.conv .bytes x) s = some res) (hl : WT s.ts a.tmps) (hR : R g O (s.ts.roots a.tmps) s.σ w) : SimV P o a g O w s res := by
 simp only [ja] at hs;split at hs
 . rename_i av ts h
   cases av with
   | str b =>
     simp only [rv, zO] at hs;subst hs;obtain ⟨h1, h2⟩ := jI (l := []) hx h hl hR;obtain ⟨t, hu, ht⟩ := h1.head.str_inv;have hrun := run_bytes_of_string (P := P) w S T e t hS hT he;have hge := grownCap_ge w t.size 0 e;have hR0 : R g O (ts.roots a.tmps) s.σ w.drew := h1.drop.world (rP _) (fun _ _ => rfl);have hG0 : Grow O g w O g w.drew := ⟨rP _, fun _ _ _ => ⟨rfl, rfl, fun _ => rfl⟩, fun _ _ _ h => h, fun _ _ h => h, fun _ h => .inl h, rfl, rfl, rfl, rfl, fun _ => ⟨rP _, fun _ h => h⟩⟩;have hlen : b.length = t.size := by rw [<- ht]; simp
     have hfl : jJ (t.data.toList.map fun b => Value.int .u8 b.toNat) = t.data.toList.map fun b => Value.int .u8 b.toNat := yC (by simp [Value.cells]);obtain ⟨g', O', hR', hg, hι⟩ := hR0.newSlice (xs := b.map fun c => .int .u8 c.toNat) (vs := t.data.toList.map fun b => .int .u8 b.toNat) (esz := 1) (cap := grownCap w t.size 0 e) (own := 0) (rf := false)
       (c := bytesRow t (grownCap w t.size 0 e)) (el := e) (fz := ((bytesRow t (grownCap w t.size 0 e)).size, (bytesRow t (grownCap w t.size 0 e)).size + 1)) (by rw [<- ht]; simp) (fun j x v hx hv => by
         rw [<- ht] at hx;simp only [rJ, rT] at hx hv;obtain ⟨c, hc, rfl⟩ := hx;obtain ⟨c', hc', rfl⟩ := hv;rw [hc] at hc'; cases hc';exact .int _ _) (fun x hx => by
         simp only [tO] at hx;obtain ⟨c, _, rfl⟩ := hx;exact ⟨rfl, rfl⟩) (fun _ x hx => by
         simp only [tO] at hx;obtain ⟨c, _, rfl⟩ := hx;rfl) (fun v hv => by
         simp only [tO] at hv;obtain ⟨c, _, rfl⟩ := hv;rfl) (fun k v hk => by
         rw [hfl] at hk;simp only [rJ, rT] at hk;obtain ⟨c, hc, rfl⟩ := hk;have hkl : k < t.data.size := by have := jk hc; simpa using this
         rw [bytesRow_at t _ k hkl];have : t.data[k] = c := rY ((Array.getElem?_eq_getElem hkl).symm.trans (by simpa using hc));rw [this]) (by simpa [hlen] using hge) (by
         have : t.data.size = t.size := rfl;simp [bytesRow, this]; omega) (.inl rfl) (by simp) (by rw [hfl, <- ht]; simp)
     have e1 : (b.map fun c => IVal.int .u8 c.toNat).length = t.size := by simpa using hlen
     rw [e1] at hR';have hexec : ∀ r w', (convert S T (.string t)).run P w = .ok r w' -> (execOp a.eval o).run P w = .ok (.value r) w' := by
       intro r w' hr;simp only [execOp, hop, hu];simp only [Sem.run_bind, hr, Result.andThen_ok, Sem.run_pure]
     exact ⟨rfl, _, _, _, hexec _ _ hrun, rfl, g', O', [], hG0.trans hg, hR', h2, rfl, Keep.refl _⟩
   | _ => simp at hs
 . cases hs
theorem ZD {zs : List IVal} {x : Opd} {rx : Operand} {c : Call} {T E : TypeId} {i : TypeInfo} {z : Value} (hop : o.op = .call c) (hc : c.callee = .builtin .clear) (ha : c.args = #[rx]) (hta : c.argTypes[0]? = some T) (hx : jL x rx = true)
   (hT : P.underlying T = some (.slice E)) (hi : P.info? E = some i) (hz : i.zero = some z) (hzc : Jh zs z.cells.toList = true) (hzs : z.cells.size = i.size)
   (hs : ja cf (.clear zs x) s = some res) (hl : WT s.ts a.tmps) (hR : R g O (s.ts.roots a.tmps) s.σ w) : SimV P o a g O w s res := by
 have hexec : ∀ r w', (Builtin.clear_ c.argTypes o.type #[a.eval rx]).run P w = .ok r w' -> (execOp a.eval o).run P w = .ok (.value r) w' := by
   intro r w' hr;simp [execOp, hop, resolve, hc, ha, invoke, builtin, hr]
 simp only [ja] at hs;split at hs
 . rename_i e id off len ts h;split at hs
   . rename_i cs hcs;split at hs
     . rename_i hcond;obtain ⟨he, h0, hle⟩ := hcond;simp only [zO] at hs;subst hs;obtain ⟨h1, h2⟩ := jI (l := []) hx h hl hR;obtain ⟨b, cap, hu, hι, hcap⟩ := h1.head.rs_inv;have hσ := j9 hcs;obtain ⟨cc, el, fz, hh, hnf, hsz, hcl⟩ := h1.objs id b _ hι hσ;obtain ⟨z1, z2⟩ := qS g hzc;have hzl : zs.length = z.cells.size := by simpa using z1
       have hrl : (J1 len zs).length = len * e := by rw [yF, <- he]
       have hzsz : (Builtin.zeroCells z.cells len).toList.length = len * e := by
         simp [Builtin.zeroCells, he, hzl]
       have hpt : ∀ (k : Nat) x v, (J1 len zs)[k]? = some x -> (Builtin.zeroCells z.cells len).toList[k]? = some v -> V g x v /\ qb x v = [] /\ x.isCell = true := by
         intro k x v hxk hvk;have hk := jk hxk;rw [yF] at hk;rw [KY (by omega) len k hk] at hxk;have hv' : (Builtin.zeroCells z.cells len)[k]? = some v := by simpa using hvk
         have hk2 : k < len * z.cells.size := by rw [<- hzl]; exact hk
         simp only [Builtin.zeroCells, Array.getElem?_map, Array.getElem?_range, if_pos hk2, tU, zO] at hv';have hmod : k % z.cells.size < z.cells.size := Nat.mod_lt _ (by omega);refine z2 (k % zs.length) x v hxk ?_;rw [<- hv', hzl];simp [getElem!_pos, hmod]
       have hput : off + (J1 len zs).length <= cs.length := by omega
       have hput' : off + (Builtin.zeroCells z.cells len).toList.length <= cc.toList.length := by rw [hzsz]; simp; omega
       have hones : ∀ u ∈ (Builtin.zeroCells z.cells len).toList, u.oneCell' = true := by
         intro u hu';obtain ⟨j, hj⟩ := kc hu';obtain ⟨x, hx'⟩ := ku (hzsz.trans hrl.symm) hj;obtain ⟨q1, _, q3⟩ := hpt j x u hx' hj;exact vF (by rw [<- q1.isCell]; exact q3)
       let row := (cc.toList.take off ++ (Builtin.zeroCells z.cells len).toList ++ cc.toList.drop (off + (Builtin.zeroCells z.cells len).toList.length)).toArray
       have hst : (storeCells ⟨b, off, none⟩ (Builtin.zeroCells z.cells len).toList).run P w = .ok () (w.setRow b row) := by
         have := kL P b off el fz (Builtin.zeroCells z.cells len).toList 0 cc w hh hnf (by simpa using hput') hones;simpa [row] using this
       have hrun : (Builtin.clear_ c.argTypes o.type #[a.eval rx]).run P w = .ok (.tuple #[]) (w.setRow b row) := by
         rw [hu]
         by_cases hl0 : len = 0
         . subst hl0;have he0 : (Builtin.zeroCells z.cells 0).toList = [] := by simp [Builtin.zeroCells]
           rw [he0] at hst;have hws : w.setRow b row = w := by
             have : (storeCells ⟨b, off, none⟩ []).run P w = .ok () w := by simp [storeCells]
             have h9 := this.symm.trans hst;injection h9 with _ h10
             exact h10.symm
           rw [hws];simp [Builtin.clear_, hta, jM hT]
         . cases len with
           | zero => exact absurd rfl hl0
           | succ n => simp [Builtin.clear_, hta, jM hT, zeroValue, typeInfo, hi, hz, hst]
       have hrow : (w.setRow b row).heap[b]? = some (.cells row el fz) := setRow_heap w b cc row el _ hh;have hOB : OBJ g (w.setRow b row) b (.cells (jb cs off (J1 len zs))) := by
         refine ⟨row, el, fz, hrow, hnf.of_size (by simp [row]; simp at hput'; omega), ?_, fun j x u hxj huj => ?_⟩
         . rw [qo hput]; simp [row]; simp at hput'; omega
         . rw [qn hput] at hxj;have huj' : (cc.toList.take off ++ (Builtin.zeroCells z.cells len).toList ++ cc.toList.drop (off + (Builtin.zeroCells z.cells len).toList.length))[j]? = some u := by simpa [row] using huj
           rw [Jk hput', hzsz, <- hrl] at huj';split at hxj
           . rename_i hj;rw [if_pos hj] at huj';obtain ⟨q1, _, q3⟩ := hpt _ x u hxj huj';exact ⟨q1, q3⟩
           . rename_i hj;rw [if_neg hj] at huj';exact hcl j x u hxj (by simpa using huj')
       have hf := qg w b row;have hR' := h1.upd (y := jl) (u := undef) (id := id) (b := b) (ob := .cells cs) (ob' := .cells (jb cs off (J1 len zs))) (w' := w.setRow b row) (kJ g) hι hσ (by simp) (fun k hk => setRow_other w b k row hk) hf.2.2.2 (fun c' el' fz' hc' => by
         rw [hh] at hc'; cases hc';exact ⟨row, hrow, by simp [row]; simp at hput'; omega⟩) hOB (by
         simp only [kR, ko, hh, hrow];obtain ⟨A, C, e1, e2⟩ := JJ (cs := cs) (ws := J1 len zs) (c := cc.toList) (us := (Builtin.zeroCells z.cells len).toList) (off := off) (by simpa using hsz) (by rw [hzsz, hrl]) hput;have emid : (List.zipWith qb (J1 len zs) (Builtin.zeroCells z.cells len).toList).flatten = [] := flatten_nil (fun x hx => by
           obtain ⟨j, y, v, q1, q2, rfl⟩ := kh hx;exact (hpt j y v q1 q2).2.1)
         rw [show row.toList = cc.toList.take off ++ (Builtin.zeroCells z.cells len).toList ++ cc.toList.drop (off + (Builtin.zeroCells z.cells len).toList.length) from rfl, e1, e2, emid];refine SubP.of_sub ?_;show List.Sublist (b :: (A ++ [] ++ C)) (kl (.rs e id off len) (a.eval rx) ++ (b :: (A ++ _ ++ C)));refine List.Sublist.trans ?_ (List.sublist_append_right _ _);refine List.Sublist.cons_cons _ ?_;refine List.Sublist.append ?_ (.refl _);rw [rM]; exact List.sublist_append_left _ _)
       refine ⟨rfl, undef, _, _, hexec _ _ hrun, rfl, g, O, [(id, !(zs.all nr1))], ?_, hR', h2, rfl, Keep.set fun m hid hm ho => ?_⟩
       . exact Grow.of_setRow g w (h1.sub b (rW _ (kB hι hσ (by simp [kR])))) _ (fun k hk => setRow_other w b k row hk) hf.2.2.2 hf.1 hf.2.1 hf.2.2.1
       . refine Jp hput (ho _ hσ) (fun x hx => ?_);have hxz : x ∈ zs := by
           simp only [J1, List.mem_flatten] at hx;obtain ⟨l, hl', hxl⟩ := hx;rw [List.eq_of_mem_replicate hl'] at hxl; exact hxl
         obtain ⟨j, hj⟩ := kc hxz;obtain ⟨u, hu'⟩ := ku z1 hj;have hVx := (z2 j x u hj hu').1
         by_cases hnr : zs.all nr1 = true
         . exact hVx.norl m (qa (qY (List.all_eq_true.1 hnr x hxz)))
         . exact absurd (hm (by simpa using hnr)) (by omega)
     . cases hs
   . cases hs
 . rename_i own r ts h;simp only [rv, zO] at hs;subst hs;obtain ⟨h1, h2⟩ := jI (l := []) hx h hl hR;have hV := h1.head;have hrun : (Builtin.clear_ c.argTypes o.type #[a.eval rx]).run P w = .ok (.tuple #[]) w := by
     generalize a.eval rx = u at hV
     cases hV with
     | nil => simp [Builtin.clear_, hta, jM hT]
     | sl _ _ _ vs ad cap _ _ hc' hl' => simp [Builtin.clear_, hta, jM hT]
   exact SimV.same (hexec _ _ hrun) (h1.swap (fun _ => kJ g) (by simp [jl, undef, kl])) h2
 . cases hs
end Go.Idl
namespace Go.Idl
open Go.Extern
variable [Globs]
variable {P : Program} {o : Oper} {a : Act} {g : Gh} {O : List Nat} {w : World} {s : St} {res : Res} {cf : kt}
theorem jb8 {l : ke} {σ : List IObj} {own : Nat} {rf : Bool} {ys : List IVal} {us : List Value} {ad : Option Addr} {ryv : Value} {T U ty E : TypeId} {du : TypeDesc} {i : TypeInfo} {z : Value} (hT : P.underlying T = some (.slice E)) (hU : P.underlying U = some du) (hdu : ∀ k, du ≠ .int k) (hi : P.info? E = some i) (hz : i.zero = some z) (hzs : z.cells.size = i.size) (h0 : 0 < i.size)
   (u1 : ys.length = us.length) (u2 : ∀ (i : Nat) x u, ys[i]? = some x -> us[i]? = some u -> V g x u) (u3 : ∀ x ∈ ys, nt x = true) (u4 : ∀ u ∈ us, u.cells.size = i.size) (u5 : (Builtin.lenOf ryv).run P w = .ok ys.length w)
   (u6 : ∀ W : World, W.heap = w.heap -> (Builtin.firstCells i.size ys.length ryv).run P W = .ok (jJ us).toArray W)
   (hys0 : ¬ ys.length = 0) (hb1 : ys.length * i.bytes <= 1099511627776) (hb2 : ys.length <= 1099511627776) (hroot : R g O ((.sl i.size rf [], .slice ad 0 0) :: l) σ w) :
   ∃ v' w' g' O' b n, (Builtin.append_ #[T, U] ty #[.slice ad 0 0, ryv]).run P w = .ok v' w' /\ Grow O g w O' g' w' /\ R g' O' ((.rs i.size σ.length 0 ys.length, v') :: l) (σ ++ [.cells (ys.flatMap fun v => (un2 v).cells)]) w' /\
     Keep σ (σ ++ [.cells (ys.flatMap fun v => (un2 v).cells)]) [] /\ g'.ι[σ.length]? = some (.bk b) /\ ∃ c fz, w'.heap[b]? = some (.cells c E fz) /\ c.size = n := by
 obtain ⟨k1, k2⟩ := zg u1 u2 u3;have hflen : (jJ us).length = ys.length * i.size := by rw [kC u4, u1]
 have hneed : (0 + ys.length) * i.bytes <= 140737488355328 := by rw [tS]; omega
 have hrun := k8 (ty := ty) (base := ad) (sLen := 0) (sCap := 0) (olds := []) hT hU hdu hi hz u5 u6 (fun W _ => by
   cases ad with
   | none => simp [Builtin.firstCells]
   | some ad => exact run_firstCells_some (P := P) W i.size 0 ad 0 0 [] (by simp) (by simp)) (by omega) (by omega) (growslice_fits (by omega) hneed)
 have hge := grownCap_ge w (0 + ys.length) 0 E;generalize hcapd : grownCap w (0 + ys.length) 0 E = cap' at hrun hge;simp only [tS] at hrun hge;have hzc : (Builtin.zeroCells z.cells (cap' - ys.length)).size = (cap' - ys.length) * i.size := by
   simp [Builtin.zeroCells, hzs]
 have hR0 : R g O ((.sl i.size rf [], .slice ad 0 0) :: l) σ w.drew := hroot.world (rP _) (fun _ _ => rfl);have hG0 : Grow O g w O g w.drew := ⟨rP _, fun _ _ _ => ⟨rfl, rfl, fun _ => rfl⟩, fun _ _ _ h => h, fun _ _ h => h, fun _ h => .inl h, rfl, rfl, rfl, rfl, fun _ => ⟨rP _, fun _ h => h⟩⟩;have hcs : (([] : List Value).toArray ++ (jJ us).toArray ++ Builtin.zeroCells z.cells (cap' - ys.length)).size = cap' * i.size := by
   simp only [Array.size_append, hzc, List.size_toArray, hflen, List.length_nil, tS];rw [<- tH]; congr 1; omega
 have hget : ∀ (j : Nat) v, (([] : List Value).toArray ++ (jJ us).toArray ++ Builtin.zeroCells z.cells (cap' - ys.length))[j]? = some v -> j < ys.length * i.size -> (jJ us)[j]? = some v := by
   intro j v hj hlt;rw [Array.getElem?_append_left (by simp [hflen]; exact hlt)] at hj;simpa using hj
 have hι : ∀ (id b : Nat), g.ι[id]? = some (Blk.bk b) -> (g.fresh w.heap.size).ι[id]? = some (Blk.bk b) := fun (id b : Nat) hb => by simp only [Gh.fresh]; rw [zL (jk hb)]; exact hb
 have hcl : ∀ (j : Nat) x v, (ys.flatMap fun v => (un2 v).cells)[j]? = some x -> (([] : List Value).toArray ++ (jJ us).toArray ++ Builtin.zeroCells z.cells (cap' - ys.length))[j]? = some v -> V g x v /\ un1 x = x /\ x.isCell = true := by
   intro j x v hxj hvj;have := jk hxj;rw [k1, hflen] at this;exact k2 j x v hxj (hget j v hvj this)
 have hnew := hR0.new (obr := .cells (([] : List Value).toArray ++ (jJ us).toArray ++ Builtin.zeroCells z.cells (cap' - ys.length)) E) (ob := .cells (ys.flatMap fun v => (un2 v).cells)) (fun _ =>
   ⟨_, E, (0, 0), jW _ _, .inl rfl, by rw [k1, hflen, hcs]; exact tV _ (by omega), fun j x v hxj hvj => by
     obtain ⟨q1, q2, q3⟩ := hcl j x v hxj hvj;exact ⟨q1.mono hι (fun _ _ _ h => h) (by rw [kQ q3, kP q2]; simp), q3⟩⟩) ⟨[], by
   simp only [kR];rw [flatten_nil];intro cc hcm;obtain ⟨j, x, y, q1, q2, rfl⟩ := kh hcm;have hb : ko (w.drew.alloc (.cells (([] : List Value).toArray ++ (jJ us).toArray ++ Builtin.zeroCells z.cells (cap' - ys.length)) E)) w.drew.heap.size = _ := kq ..;rw [hb] at q2;exact kP (hcl j x y q1 (by rw [<- Array.getElem?_toList]; exact q2)).2.1 _, by simp⟩
 refine ⟨_, _, _, w.heap.size :: O, w.heap.size, _, hrun, hG0.trans ((kK hR0 _).trans (Grow.setZ _ _ _ _ _)), (hnew.setZ (z := cap' * i.size) (jW _ _) (by rw [hcs]; exact rP _)).push (.rs _ _ _ _ _ _ ?_ (by omega) (by rw [tS]; exact yu _ _ _)) rfl, Keep.snoc _ _, ?_, _, _, jW _ _, rfl⟩
 . simp [Gh.fresh, Gh.setZ, <- hroot.len]
 . simp [Gh.fresh, Gh.setZ, <- hroot.len]
theorem jdL {l : ke} {σ : List IObj} {id len : Nat} {cs ys : List IVal} {us : List Value} {rxv ryv : Value} {T U ty E : TypeId} {du : TypeDesc} {i : TypeInfo} {z : Value} (hT : P.underlying T = some (.slice E)) (hU : P.underlying U = some du) (hdu : ∀ k, du ≠ .int k) (hi : P.info? E = some i) (hz : i.zero = some z) (hzs : z.cells.size = i.size) (h0 : 0 < i.size)
   (u1 : ys.length = us.length) (u2 : ∀ (i : Nat) x u, ys[i]? = some x -> us[i]? = some u -> V g x u) (u3 : ∀ x ∈ ys, nt x = true) (u4 : ∀ u ∈ us, u.cells.size = i.size) (u5 : (Builtin.lenOf ryv).run P w = .ok ys.length w)
   (u6 : ∀ W : World, W.heap = w.heap -> (Builtin.firstCells i.size ys.length ryv).run P W = .ok (jJ us).toArray W)
   (hb1 : (len + ys.length) * i.bytes <= 1099511627776) (hb2 : len + ys.length <= 1099511627776) (hlen : len * i.size <= cs.length) (hcs : jc σ id = some cs) (hroot : R g O ((.rs i.size id 0 len, rxv) :: l) σ w)
   (hty : ∀ b, g.ι[id]? = some (.bk b) -> ∃ n, g.E b = some (E, n)) :
   ∃ v' w' g' O' b n, (Builtin.append_ #[T, U] ty #[rxv, ryv]).run P w = .ok v' w' /\ Grow O g w O' g' w' /\ R g' O' ((.rs i.size σ.length 0 (len + ys.length), v') :: l) (σ.set id .dead ++ [.cells (cs.take (len * i.size) ++ ys.flatMap fun v => (un2 v).cells)]) w' /\
     Keep σ (σ.set id .dead ++ [.cells (cs.take (len * i.size) ++ ys.flatMap fun v => (un2 v).cells)]) [(id, false)] /\ g'.ι[σ.length]? = some (.bk b) /\ ∃ c fz, w'.heap[b]? = some (.cells c E fz) /\ c.size = n := by
 obtain ⟨k1, k2⟩ := zg u1 u2 u3;have hflen : (jJ us).length = ys.length * i.size := by rw [kC u4, u1]
 obtain ⟨b, cap, rfl, hι, hcap, hz0⟩ := hroot.head.rs_inv';have hσ := j9 hcs;obtain ⟨c, el, fz, hh, hnf, hsz, hc'⟩ := hroot.objs id b _ hι hσ;obtain ⟨n9, hE9⟩ := hty b hι;obtain ⟨c9, fz9, hh9, -⟩ := (hroot.zs b).2 _ _ hE9;rw [hh] at hh9;obtain rfl : E = el := by cases hh9; rfl
 have hA : (cs.take (len * i.size)).length = len * i.size := by simp; omega
 have hC : (c.toList.take (len * i.size)).length = len * i.size := by simp; omega
 have hVA : ∀ (j : Nat) x v, (cs.take (len * i.size))[j]? = some x -> (c.toList.take (len * i.size))[j]? = some v -> V g x v /\ x.isCell = true := by
   intro j x v hx hv;have hj := jk hx;rw [hA] at hj;rw [tD, if_pos hj] at hx hv;exact hc' j x v hx (by simpa using hv)
 have hy : V g (.agg (cs.take (len * i.size))) (.agg (c.toList.take (len * i.size)).toArray) := by
   refine .agg _ _ (by simp only [List.size_toArray]; rw [hA, hC]) (fun j x v hx hv => (hVA j x v hx (by simpa using hv)).1) (fun x hx => ?_);obtain ⟨j, hj⟩ := kc hx;obtain ⟨v, hv⟩ := ku (hA.trans hC.symm) hj;exact (hVA j x v hj hv).2
 have hoy : kl (.agg (cs.take (len * i.size))) (.agg (c.toList.take (len * i.size)).toArray) = (List.zipWith qb (cs.take (len * i.size)) (c.toList.take (len * i.size))).flatten := rfl;have hob : kR w b (.cells cs) = b :: (List.zipWith qb cs c.toList).flatten := by simp [kR, ko, hh]
 have hsub := QB (A := cs) (c := c.toList) (len * i.size);have hlive : ¬ (IObj.cells cs).live = false := by simp [IObj.live]
 have hnd : (kR w b (.cells cs)).Nodup := by
   have h5 := (List.nodup_append.1 hroot.nodup).2.1;refine h5.sublist (List.sublist_flatten_of_mem ?_);refine zM (i := id) ?_;simp [tL, hι, hσ, qk]
 have hbA : b ∉ (List.zipWith qb (cs.take (len * i.size)) (c.toList.take (len * i.size))).flatten := by
   rw [hob, List.nodup_cons] at hnd;exact fun hm => hnd.1 (hsub.mem hm)
 have hyo : SubP (kl (.agg (cs.take (len * i.size))) (.agg (c.toList.take (len * i.size)).toArray)) (kl (.rs i.size id 0 len) (.slice (some ⟨b, 0, none⟩) len cap) ++ kR w b (.cells cs)) := by
   rw [hoy, hob];exact .of_sub ((hsub.trans (List.sublist_cons_self _ _)).trans (List.sublist_append_right _ _))
 have hBget : ∀ {F : List Value} (j : Nat) x v, (cs.take (len * i.size) ++ ys.flatMap fun v => (un2 v).cells)[j]? = some x -> (c.toList.take (len * i.size) ++ (jJ us ++ F))[j]? = some v ->
     ((cs.take (len * i.size))[j]? = some x /\ (c.toList.take (len * i.size))[j]? = some v) \/ (V g x v /\ un1 x = x /\ x.isCell = true) := by
   intro F j x v hx hv
   by_cases hj : j < len * i.size
   . rw [zL (by omega)] at hx hv;exact .inl ⟨hx, hv⟩
   . rw [zR (by omega), hA] at hx;rw [zR (by omega), hC] at hv;have := jk hx;rw [zL (by omega)] at hv;exact .inr (k2 _ x v hx hv)
 have hownB : ∀ {F : List Value}, (List.zipWith qb (cs.take (len * i.size) ++ ys.flatMap fun v => (un2 v).cells) (c.toList.take (len * i.size) ++ (jJ us ++ F))).flatten = (List.zipWith qb (cs.take (len * i.size)) (c.toList.take (len * i.size))).flatten := by
   intro F;refine Xg (hA.trans hC.symm) (fun j x v hx hv => ?_);have := jk hx;rw [zL (by omega)] at hv;exact kP (k2 j x v hx hv).2.1 v
 have hlenN : (cs.take (len * i.size) ++ ys.flatMap fun v => (un2 v).cells).length = (len + ys.length) * i.size := by
   rw [rF, hA, k1, hflen, tH]
 have hkeep : Keep σ (σ.set id .dead ++ [.cells (cs.take (len * i.size) ++ ys.flatMap fun v => (un2 v).cells)]) [(id, false)] :=
   (Keep.set (ob := .dead) (rf := false) (fun n _ _ _ => (trivial : True))).trans (Keep.snoc _ _)
 by_cases hroom : len + ys.length <= cap
 . have hcapc : cap * i.size <= c.size := by
     rcases Nat.eq_zero_or_pos (cap * i.size) with h9 | h9
     . omega
     . obtain ⟨c2, el2, fz2, q1, q2⟩ := (hroot.zs b).1 (by omega);rw [hh] at q1; cases q1; omega
   have hmul : len * i.size + ys.length * i.size <= cap * i.size := by rw [<- tH]; exact tV _ hroom
   have hst := kL P b (0 + len * i.size) E fz (jJ us) 0 c w hh hnf (by omega) (Xc u1 u2 u3);have hrun : (Builtin.append_ #[T, U] ty #[.slice (some ⟨b, 0, none⟩) len cap, ryv]).run P w = .ok (.slice (some ⟨b, 0, none⟩) (len + ys.length) cap) _ :=
     kT hT hU hdu hi u5 (u6 w rfl) hroom (by
       simp only;rw [kA]; exact hst)
   simp only [Nat.add_zero, tS, zS] at hrun;generalize hcc : (c.toList.take (len * i.size) ++ (jJ us ++ c.toList.drop (len * i.size + (jJ us).length))).toArray = c2 at hrun;have hc2 : c2.toList = c.toList.take (len * i.size) ++ (jJ us ++ c.toList.drop (len * i.size + (jJ us).length)) := by rw [<- hcc]
   have hc2s : c2.size = c.size := by rw [<- hcc]; simp; omega
   have hf := qg w b c2;have hrow := setRow_heap w b c c2 E _ hh;obtain ⟨O', hR', hg⟩ := hroot.renew (ob' := .cells (cs.take (len * i.size) ++ ys.flatMap fun v => (un2 v).cells)) hι hσ hlive (fun k hk => setRow_other w b k c2 hk) hf.2.2.2 (fun c0 el0 fz0 h9 => by
       rw [hh] at h9; cases h9; exact ⟨c2, hrow, hc2s⟩) hy hyo (by rw [hoy]; exact hbA) ⟨c2, E, fz, hrow, hnf.of_size hc2s, by rw [hlenN, hc2s, tH]; omega, fun j x v hx hv => by
         have hv' : c2.toList[j]? = some v := by simpa using hv
         rw [hc2] at hv'
         rcases hBget j x v hx hv' with ⟨q1, q2⟩ | ⟨q1, q2, q3⟩
         . obtain ⟨p1, p2⟩ := hVA j x v q1 q2;refine ⟨p1.mono (fun id' b' hb' => by simp only [Gh.renew]; rw [zL (jk hb')]; exact hb') (fun _ _ _ h => h) (fun b' hb' => ?_), p2⟩;have : b' ≠ b := fun e => hbA (by
             subst e;rw [kQ p2] at hb';exact qc (f := qb) q1 q2 hb')
           simp [Gh.renew, this]
         . exact ⟨q1.mono (fun id' b' hb' => by simp only [Gh.renew]; rw [zL (jk hb')]; exact hb') (fun _ _ _ h => h) (by rw [kQ q3, kP q2]; simp), q3⟩⟩
       ⟨_, by simp only [kR, ko, hrow]; rw [hc2], by rw [hownB, hoy]; exact .refl _⟩ hf.1 hf.2.1 hf.2.2.1
   refine ⟨_, _, _, O', b, _, hrun, hg, hR'.push (.rs _ _ _ _ _ _ ?_ hroom hz0) rfl, hkeep, ?_, _, _, hrow, rfl⟩
   . simp [Gh.renew, <- hroot.len]
   . simp [Gh.renew, <- hroot.len]
 . have hneed : (len + ys.length) * i.bytes <= 140737488355328 := by omega
   have hold : ∀ W : World, W.heap = w.heap -> (Builtin.firstCells i.size len (.slice (some ⟨b, 0, none⟩) len cap)).run P W = .ok (c.toList.take (len * i.size)).toArray W := by
     intro W hW;refine run_firstCells_some (P := P) W i.size len ⟨b, 0, none⟩ len cap _ hC (fun j v hj => ?_);have hjl := jk hj;rw [hC] at hjl;rw [tD, if_pos hjl] at hj;rw [kA];simp only [World.cell?, hW, hh, tS];simpa using hj
   have hrun := k8 (ty := ty) hT hU hdu hi hz u5 u6 hold (by omega : cap < len + ys.length) (by omega) (growslice_fits (by omega) hneed);have hge := grownCap_ge w (len + ys.length) cap E;generalize hcapd : grownCap w (len + ys.length) cap E = cap' at hrun hge;have hzc : (Builtin.zeroCells z.cells (cap' - (len + ys.length))).size = (cap' - (len + ys.length)) * i.size := by
     simp [Builtin.zeroCells, hzs]
   have hdead := hroot.upd (ob' := .dead) (w' := w) hy hι hσ hlive (fun _ _ => rfl) rfl (fun c0 el0 fz0 h9 => ⟨c0, h9, rfl⟩) trivial (by simp only [kR, rM]; exact hyo);have hR0 := hdead.world (w' := w.drew) (rP _) (fun _ _ => rfl);have hG0 : Grow O g w O g w.drew := ⟨rP _, fun _ _ _ => ⟨rfl, rfl, fun _ => rfl⟩, fun _ _ _ h => h, fun _ _ h => h, fun _ h => .inl h, rfl, rfl, rfl, rfl, fun _ => ⟨rP _, fun _ h => h⟩⟩;generalize hcc : (c.toList.take (len * i.size)).toArray ++ (jJ us).toArray ++ Builtin.zeroCells z.cells (cap' - (len + ys.length)) = c2 at hrun;have hc2 : c2.toList = c.toList.take (len * i.size) ++ (jJ us ++ (Builtin.zeroCells z.cells (cap' - (len + ys.length))).toList) := by rw [<- hcc]; simp
   have hc2s : c2.size = cap' * i.size := by
     have : c2.size = c2.toList.length := by simp
     rw [this, hc2, rF, rF, hC, hflen];have e9 : (Builtin.zeroCells z.cells (cap' - (len + ys.length))).toList.length = (cap' - (len + ys.length)) * i.size := by simpa using hzc
     rw [e9, <- tH, <- tH]
     congr 1; omega
   have hnew := hR0.new (obr := .cells c2 E) (ob := .cells (cs.take (len * i.size) ++ ys.flatMap fun v => (un2 v).cells)) (fun hVf =>
     ⟨c2, E, (0, 0), jW _ _, .inl rfl, by rw [hlenN, hc2s]; exact tV _ hge, fun j x v hx hv => by
       have hv' : c2.toList[j]? = some v := by simpa using hv
       rw [hc2] at hv'
       rcases hBget j x v hx hv' with ⟨q1, q2⟩ | ⟨q1, q2, q3⟩
       . cases hVf with
         | agg _ _ hl' hv'' hi' => exact ⟨hv'' j x v q1 (by simpa using q2), hi' x (zM q1)⟩
       . exact ⟨q1.mono (fun id' b' hb' => by simp only [Gh.fresh]; rw [zL (jk hb')]; exact hb') (fun _ _ _ h => h) (by rw [kQ q3, kP q2]; simp), q3⟩⟩)
     ⟨_, by
       simp only [kR];have hb : ko (w.drew.alloc (.cells c2 E)) w.drew.heap.size = c2.toList := kq ..;rw [hb, hc2], by rw [hownB, hoy]; exact .refl _⟩
   refine ⟨_, _, _, w.heap.size :: O, w.heap.size, _, hrun, hG0.trans ((kK hR0 _).trans (Grow.setZ _ _ _ _ _)), (hnew.setZ (z := cap' * i.size) (jW _ _) (by rw [hc2s]; exact rP _)).push (.rs _ _ _ _ _ _ ?_ hge (by rw [tS]; exact yu _ _ _)) rfl, hkeep, ?_, _, _, jW _ _, rfl⟩
   . simp [Gh.fresh, Gh.setZ, <- hroot.len]
   . simp [Gh.fresh, Gh.setZ, <- hroot.len]
theorem R.kill {l : ke} {σ : List IObj} {id b : Nat} {cs : List IVal} (h : R g O l σ w) (hι : g.ι[id]? = some (.bk b)) (hσ : σ[id]? = some (.cells cs)) :
   R g (O.filter (fun k => k != b)) l (σ.set id .dead) w /\ ∀ o, g.M b o = none := by
 have hlive : ¬ (IObj.cells cs).live = false := by simp
 have hd := ((h.push (kJ g) rfl).upd (y := jl) (u := undef) (ob' := .dead) (w' := w) (kJ g) hι hσ hlive (fun _ _ => rfl) rfl (fun c el fz h9 => ⟨c, h9, rfl⟩) trivial (.of_sub (by simp [kR, kl, jl, undef, yg, qb]))).drop;refine ⟨hd.free_of ?_, h.apart id b _ hι hσ (kv hlive)⟩;intro hm;have hn := h.nodup;have hin : b ∈ kY w g.ι σ := kB hι hσ (kv hlive)
 rcases List.mem_append.1 hm with hm | hm
 . exact (List.nodup_append.1 hn).2.2 b hm b hin rfl
 . simp only [kY, List.mem_flatten] at hm;obtain ⟨c, hc, hbc⟩ := hm;obtain ⟨j, k, z, q1, q2, rfl⟩ := kh hc
   cases k with
   | un zs => cases hbc
   | bk k =>
   have hbc : b ∈ kR w k z := hbc
   by_cases hj : j = id
   . subst hj;rw [rH (jk hσ)] at q2; cases q2;simp [kR] at hbc
   . rw [rA (by omega)] at q2;have hnS := (List.nodup_append.1 hn).2.1;have g1 : (List.zipWith (qk w) g.ι σ)[id]? = some (kR w b (.cells cs)) := by simp [tL, hι, hσ, qk]
     have g2 : (List.zipWith (qk w) g.ι σ)[j]? = some (kR w k z) := by simp [tL, q1, q2, qk]
     exact qV hnS g1 g2 (by omega) (kv hlive) hbc
theorem R.beside {l : ke} {σ : List IObj} {b : Nat} {w' : World} (h : R g O l σ w) (hb : b ∉ O) (hM : ∀ o, g.M b o = none) (hw : ∀ k, k ≠ b -> w'.heap[k]? = w.heap[k]?) (hs : w'.heap.size = w.heap.size)
   (hz : ∀ c el fz, w.heap[b]? = some (.cells c el fz) -> ∃ c' fz', w'.heap[b]? = some (.cells c' el fz') /\ c'.size = c.size) : R g O l σ w' := by
 have hne : ∀ k ∈ O, k ≠ b := fun k hk e => hb (e ▸ hk);have hlt : ∀ (id k : Nat) x, g.ι[id]? = some (.bk k) -> σ[id]? = some x -> x.live = false \/ k ≠ b := by
   intro id k x h1 h2
   by_cases hd : x.live = false
   . exact .inl hd
   . exact .inr (hne k (h.sub k (rW _ (kB h1 h2 (kv hd)))))
 have hO : ∀ (id k : Nat) x, g.ι[id]? = some (.bk k) -> σ[id]? = some x -> kR w' k x = kR w k x := by
   intro id k x h1 h2
   rcases hlt id k x h1 h2 with hd | hk
   . rw [kW hd, kW hd]
   . exact qL (hw k hk) x
 have hS : kY w' g.ι σ = kY w g.ι σ := by simp only [kY]; rw [qX (vZ hO)]
 refine ⟨h.len, h.vals, fun id k x h1 h2 => ?_, by rw [hS]; exact h.nodup, by rw [hS]; exact h.sub, fun k hk => by rw [hs]; exact h.lt k hk, fun k o v hm => ?_, fun id k x h1 h2 hm => ?_, fun k hk ext top ht => ?_, h.glob, fun k => ?_⟩
 . cases k with
   | un zs => exact h.objo id (.un zs) x h1 h2
   | bk k =>
     rcases hlt id k x h1 h2 with hd | hk
     . exact (h.objs id k x h1 h2).of_dead hd (fun _ _ h => h)
     . exact (h.objs id k x h1 h2).mono (hw k hk) (fun _ _ h => h) (fun _ _ _ h => h) rfl (fun _ _ => rfl)
 . by_cases e : k = b
   . subst e; rw [hM o] at hm; cases hm
   . rw [vo (hw k e)]; exact h.claim k o v hm
 . rw [hO id k x h1 h2] at hm; exact h.apart id k x h1 h2 hm
 . rw [hw k (hne k hk)]; exact h.spare k hk ext top ht
 . by_cases e : k = b
   . subst e;refine ⟨fun h0 => ?_, fun T n ht => ?_⟩
     . obtain ⟨c, el, fz, q1, q2⟩ := (h.zs k).1 h0;obtain ⟨c', fz', q3, q4⟩ := hz c el fz q1;exact ⟨c', el, fz', q3, by omega⟩
     . obtain ⟨c, fz, q1, q2⟩ := (h.zs k).2 T n ht;obtain ⟨c', fz', q3, q4⟩ := hz c T fz q1;exact ⟨c', fz', q3, by omega⟩
   . exact (h.zs k).other (hw k e)
theorem Vf (w : World) (b n : Nat) : (∀ k, k ≠ b -> (w.freeze ⟨b, 0, none⟩ n).heap[k]? = w.heap[k]?) /\ (w.freeze ⟨b, 0, none⟩ n).heap.size = w.heap.size /\ (w.freeze ⟨b, 0, none⟩ n).os = w.os /\ (w.freeze ⟨b, 0, none⟩ n).tape = w.tape /\ (w.freeze ⟨b, 0, none⟩ n).output = w.output /\
   ∀ c el fz, w.heap[b]? = some (.cells c el fz) -> ∃ c' fz', (w.freeze ⟨b, 0, none⟩ n).heap[b]? = some (.cells c' el fz') /\ c'.size = c.size := by
 unfold World.freeze
 by_cases h0 : n = 0
 . rw [if_pos h0]; exact ⟨fun _ _ => rfl, rfl, rfl, rfl, rfl, fun c el fz h => ⟨c, fz, h, rfl⟩⟩
 . rw [if_neg h0];refine ⟨fun k hk => by simp [Array.getElem?_modify, Ne.symm hk], by simp, rfl, rfl, rfl, fun c el fz h => ?_⟩;simp only [Array.getElem?_modify, if_true, h, tU];exact ⟨c, _, rfl, rfl⟩
theorem Kg (s : List UInt8) : ((s.map fun c => IVal.int .u8 c.toNat).flatMap fun v => (un2 v).cells) = s.map fun c => IVal.int .u8 c.toNat := by
 induction s with
 | nil => rfl
 | cons c s ih => simp only [rR, rO, ih]; rfl
theorem Y4 {l : ke} {σ σ' : List IObj} {wr : List (Nat × Bool)} {vs : List IVal} {us : List Value} {v : IVal} {T U ty E : TypeId} {i : TypeInfo} {z : Value} (hT : P.underlying T = some (.slice E)) (hU : P.underlying U = some .string) (hi : P.info? E = some i) (hz : i.zero = some z) (hzs : z.cells.size = i.size) (hi1 : i.size = 1) (hib : i.bytes = 1)
   (hR : R g O (vs.zip us ++ l) σ w) (hl : vs.length = us.length) (h : jO (.bapp E) vs σ = some (v, σ', wr)) {m : Sem Next}
   (hexec : ∀ r w', (Builtin.append_ #[T, U] ty us.toArray).run P w = .ok r w' -> m.run P w = .ok (.value r) w') : vm P g O w σ l m v σ' wr := by
 have hv : ∀ (i : Nat) x u, vs[i]? = some x -> us[i]? = some u -> V g x u := fun i x u hx hu => hR.vals (x, u) (rZ _ (zM (List.getElem?_zip_eq_some.2 ⟨hx, hu⟩)));have hRl : R g O l σ w := R.drops (l := vs.zip us) hR;have hdu : ∀ k, TypeDesc.string ≠ .int k := fun k h => by cases h
 have hvs : (∃ own s, vs = [.sl own true [], .str s]) \/ (∃ id len s, vs = [.rs 1 id 0 len, .str s]) := by
   unfold jO at h;split at h
   all_goals first | exact .inl ⟨_, _, rfl⟩ | exact .inr ⟨_, _, _, rfl⟩ | (rename_i q; cases q; done) | (rename_i q _; cases q; done) | (cases h; done) | skip
   all_goals contradiction
 rcases hvs with ⟨own, s, rfl⟩ | ⟨id, len, s, rfl⟩
 . simp only [jO] at h;obtain ⟨u, u2, rfl, hV, hW⟩ := Jr rfl hl hv;have hu : u = .slice none 0 0 := by
     cases hV with
     | nil => rfl
     | sl _ _ _ _ _ _ _ _ _ _ _ _ _ _ _ _ hn => exact absurd (hn rfl) (by simp)
   subst hu;obtain ⟨us', a1, a2, a3, a4, a5, a6⟩ := vP (P := P) (isS := true) (esz := 1) hRl hW (ys := s.map fun c => .int .u8 c.toNat) (by simp [jh]);split at h
   . rename_i h0;simp only [zO, zP] at h;obtain ⟨rfl, rfl, rfl⟩ := h;have hs0 : s = [] := List.length_eq_zero_iff.1 h0;subst hs0;have hus : us' = [] := List.length_eq_zero_iff.1 (by simpa using a1.symm);subst hus;have hrun : (Builtin.append_ #[T, U] ty #[.slice none 0 0, u2]).run P w = .ok (.slice none (0 + 0) 0) w :=
       kT hT hU hdu hi a5 (by rw [hi1]; exact a6 w rfl) (by simp) rfl
     exact ⟨_, _, g, O, hexec _ _ hrun, .refl _ _ _, hRl.push (.nil own) rfl, .refl _⟩
   . rename_i h0;split at h
     . rename_i h2;simp only [zO, zP] at h;obtain ⟨rfl, rfl, rfl⟩ := h;obtain ⟨v', w', g', O', b, n, q1, q2, q3, q4, q5, c, fz, q6, q7⟩ := jb8 (ty := ty) (ad := none) (own := 0) (rf := true) hT hU hdu hi hz hzs (by omega) a1 a2 a3 (by rw [hi1]; exact a4) a5 (by rw [hi1]; exact a6) (by simpa using h0) (by simp [hib]; exact h2) (by simpa using h2) (hRl.push (.nil _) rfl);rw [Kg] at q3 q4;simp only [hi1, List.length_map] at q3;exact ⟨v', w', _, O', hexec _ _ q1, q2.trans (Grow.addTy q3 q6 q7), q3.addTy 0 q5 q6 q7 (fun h => absurd rfl h), q4.trans (Keep.snoc _ _)⟩
     . cases h
 . simp only [jO] at h;obtain ⟨u, u2, rfl, hV, hW⟩ := Jr rfl hl hv;obtain ⟨us', a1, a2, a3, a4, a5, a6⟩ := vP (P := P) (isS := true) (esz := 1) hRl hW (ys := s.map fun c => .int .u8 c.toNat) (by simp [jh]);split at h
   . rename_i cs hcs;split at h
     . rename_i T' n0 k hσ;split at h
       . rename_i hc;obtain ⟨rfl, rfl, c1, c2⟩ := hc;simp only [zO, zP] at h;obtain ⟨rfl, rfl, rfl⟩ := h;have hty : ∀ b, g.ι[k]? = some (.bk b) -> ∃ n, g.E b = some (T', n) := by
           intro b hb;have hlt : k + 1 < g.ι.length := by rw [hRl.len]; exact jk hσ
           have hob := hRl.objo (k + 1) g.ι[k + 1] _ (by simp [hlt]) hσ
           cases hk : g.ι[k + 1] with
           | un zs => rw [hk] at hob; cases hob.1
           | bk b2 =>
             rw [hk] at hob;obtain ⟨b', r1, n', r2, r3⟩ := hob;rw [hb] at r1; cases r1;exact ⟨n', r2⟩
         obtain ⟨v', w', g', O', b, n, q1, q2, q3, q4, q5, c, fz, q6, q7⟩ := jdL (ty := ty) (id := k) (len := len) (cs := cs) hT hU hdu hi hz hzs (by omega) a1 a2 a3 (by rw [hi1]; exact a4) a5 (by rw [hi1]; exact a6) (by simp [hib]; exact c2) (by simpa using c2) (by rw [hi1]; omega) hcs
           (hRl.push (x := .rs i.size k 0 len) (v := u) (by rw [hi1]; exact hV) rfl) hty
         rw [Kg] at q3 q4;simp only [hi1, List.length_map, Nat.mul_one] at q3 q4;exact ⟨v', w', _, O', hexec _ _ q1, q2.trans (Grow.addTy q3 q6 q7), q3.addTy 0 q5 q6 q7 (fun h => absurd rfl h), q4.trans (Keep.snoc _ _)⟩
       . cases h
     . cases h
   . cases h
theorem yT : ∀ (l : List Int) (a : Addr) (acc : ByteArray), (∀ j x, l[j]? = some x -> w.cell? (a.add j) = some (.int .u8 x)) ->
   (loadBytes a acc l.length).run P w = .ok ⟨acc.data ++ (l.map fun n => UInt8.ofNat n.toNat).toArray⟩ w
 | [], a, acc, _ => by simp [loadBytes]
 | x :: l, a, acc, h => by
   have h0 : w.cell? a = some (.int .u8 x) := by
     have := h 0 x rfl;simpa [Addr.add] using this
   have ih := yT l (a.add 1) (acc.push (UInt8.ofNat x.toNat)) (fun j y hy => by
     have := h (j + 1) y (by simpa using hy);have e : (a.add 1).add j = a.add (j + 1) := by
       unfold Addr.add
       by_cases hj : j = 0
       . subst hj; simp
       . simp [hj]; omega
     rw [e]; exact this)
   have hx : (x.toNat).toUInt8 = UInt8.ofNat x.toNat := rfl;simp only [tB, loadBytes, Sem.run_bind, run_load, h0, Result.andThen, hx];rw [ih]
   congr 1
   apply ByteArray.ext;simp [ByteArray.push]
theorem ja3 (pt it ty e : TypeId) (hp : P.underlying pt = some (.pointer e)) (hc : P.cellsOf e = 1) (g cells : Nat) (hsh : w.shape? g = some (e, cells)) (l : List Int) (h0 : l ≠ []) (hn : l.length <= cells) (h63 : l.length <= 9223372036854775807)
   (hcell : ∀ j x, l[j]? = some x -> w.cell? ((⟨g, 0, none⟩ : Addr).add j) = some (.int .u8 x)) :
   (Builtin.unsafeString_ #[pt, it] ty #[.pointer (some ⟨g, 0, none⟩), .int .i64 l.length]).run P w = .ok (.string ⟨(l.map fun n => UInt8.ofNat n.toNat).toArray⟩) (w.freeze ⟨g, 0, none⟩ l.length) := by
 have hl : l.length ≠ 0 := by simpa using h0
 have hlb := yT (P := P) (w := w) l ⟨g, 0, none⟩ .empty hcell;have hlies := Lib.liesAt_bytes (P := P) hc (cells / P.cellsOf e) l.length (by rw [hc]; simpa using hn);have h63' : ¬ (9223372036854775807 : Int) < (l.length : Int) := by omega
 have hdef : Builtin.unsafeString_ #[pt, it] ty #[.pointer (some ⟨g, 0, none⟩), .int .i64 l.length] =
     (do
       let n <- asInt (.int .i64 l.length)
       if n < 0 then runtimePanic (.error "unsafe.String: len out of range")
       if n > IntKind.i64.max then unsupported (.unsafePointer "String: a length above the largest int")
       if n = 0 then pure (.string .empty)
       else if <- variablesAt ⟨g, 0, none⟩ (<- elemOf pt) n.toNat then do
         let s <- loadBytes ⟨g, 0, none⟩ .empty n.toNat
         freeze ⟨g, 0, none⟩ n.toNat
         pure (.string s)
       else unsupported (.unsafePointer "String: not so many bytes at ptr")) := rfl
 rw [hdef];have hmax : IntKind.i64.max = 9223372036854775807 := rfl;have hneg : ¬ (l.length : Int) < 0 := by omega
 simp [asInt, asIntOf, hmax, h63', hneg, hl, variablesAt, hsh, elemOf, run_underlying hp, hlies, hlb]
theorem Y8 {l : ke} {σ σ' : List IObj} {wr : List (Nat × Bool)} {vs : List IVal} {us : List Value} {v : IVal} {ts : Array TypeId} {ty : TypeId}
   (hR : R g O (vs.zip us ++ l) σ w) (hl : vs.length = us.length) (h : jO .sdat vs σ = some (v, σ', wr)) {m : Sem Next}
   (hexec : ∀ r w', (Builtin.unsafeSliceData_ ts ty us.toArray).run P w = .ok r w' -> m.run P w = .ok (.value r) w') : vm P g O w σ l m v σ' wr := by
 have hv : ∀ (i : Nat) x u, vs[i]? = some x -> us[i]? = some u -> V g x u := fun i x u hx hu => hR.vals (x, u) (rZ _ (zM (List.getElem?_zip_eq_some.2 ⟨hx, hu⟩)));have hRl : R g O l σ w := R.drops (l := vs.zip us) hR;have hvs : (∃ own, vs = [.sl own true []]) \/ (∃ id len, vs = [.rs 1 id 0 len]) := by
   unfold jO at h;split at h
   all_goals first | exact .inl ⟨_, rfl⟩ | exact .inr ⟨_, _, rfl⟩ | (rename_i q; cases q; done) | (rename_i q _; cases q; done) | (cases h; done) | skip
   all_goals contradiction
 rcases hvs with ⟨own, rfl⟩ | ⟨id, len, rfl⟩
 . simp only [jO, zO, zP] at h;obtain ⟨rfl, rfl, rfl⟩ := h;obtain ⟨u, rfl, hV⟩ := vO rfl hl hv;have hu : u = .slice none 0 0 := by
     cases hV with
     | nil => rfl
     | sl _ _ _ _ _ _ _ _ _ _ _ _ _ _ _ _ hn => exact absurd (hn rfl) (by simp)
   subst hu;exact ⟨_, _, g, O, hexec _ _ (Lib.run_unsafeSliceData_nil w ts ty 0 0), .refl _ _ _, hRl.push (.prim _ rfl) rfl, .refl _⟩
 . simp only [jO] at h;obtain ⟨u, rfl, hV⟩ := vO rfl hl hv;split at h
   . rename_i h0;simp only [zO, zP] at h;obtain ⟨rfl, rfl, rfl⟩ := h;obtain ⟨b, cap, rfl, hι, hcap⟩ := hV.rs_inv;exact ⟨_, _, g, O, hexec _ _ (Lib.run_unsafeSliceData_row w ts ty ⟨b, 0, none⟩ len cap (by omega)), .refl _ _ _, hRl.push (.ptr id 0 b hι) rfl, .refl _⟩
   . cases h
theorem Za {l : ke} {σ σ' : List IObj} {wr : List (Nat × Bool)} {vs : List IVal} {us : List Value} {v : IVal} {pt it ty e : TypeId} (hp : P.underlying pt = some (.pointer e)) (hc1 : P.cellsOf e = 1)
   (hR : R g O (vs.zip us ++ l) σ w) (hl : vs.length = us.length) (h : jO (.ustr e) vs σ = some (v, σ', wr)) {m : Sem Next}
   (hexec : ∀ r w', (Builtin.unsafeString_ #[pt, it] ty us.toArray).run P w = .ok r w' -> m.run P w = .ok (.value r) w') : vm P g O w σ l m v σ' wr := by
 have hv : ∀ (i : Nat) x u, vs[i]? = some x -> us[i]? = some u -> V g x u := fun i x u hx hu => hR.vals (x, u) (rZ _ (zM (List.getElem?_zip_eq_some.2 ⟨hx, hu⟩)));have hRl : R g O l σ w := R.drops (l := vs.zip us) hR;have hvs : (∃ n, vs = [.prim (.pointer none), .int .i64 n]) \/ (∃ id n, vs = [.ptr id 0, .int .i64 n]) := by
   unfold jO at h;split at h
   all_goals first | exact .inl ⟨_, rfl⟩ | exact .inr ⟨_, _, rfl⟩ | (rename_i q; cases q; done) | (rename_i q _; cases q; done) | (cases h; done) | skip
   all_goals contradiction
 rcases hvs with ⟨n, rfl⟩ | ⟨id, n, rfl⟩
 . simp only [jO] at h;split at h
   . rename_i h0;subst h0;simp only [zO, zP] at h;obtain ⟨rfl, rfl, rfl⟩ := h;obtain ⟨u, u2, rfl, hV, hW⟩ := Jr rfl hl hv;have := hW.int_run; subst this;have hu : u = .pointer none := by cases hV; rfl
     subst hu;exact ⟨_, _, g, O, hexec _ _ (Lib.run_unsafeString_none w pt it ty none), .refl _ _ _, hRl.push (.str .empty) rfl, .refl _⟩
   . cases h
 . simp only [jO] at h;obtain ⟨u, u2, rfl, hV, hW⟩ := Jr rfl hl hv;have := hW.int_run; subst this;obtain ⟨b, rfl, hι⟩ := hV.ptr_inv;split at h
   . rename_i cs hcs;split at h
     . rename_i T' n0 k lb hσ hb;split at h
       . rename_i hc;obtain ⟨rfl, rfl, c1, c2, c3⟩ := hc;simp only [zO, zP] at h;obtain ⟨rfl, rfl, rfl⟩ := h;obtain ⟨cn, rfl⟩ := Int.eq_ofNat_of_zero_le (show 0 <= n by omega);have hσk := j9 hcs;obtain ⟨ns, hns, rfl⟩ := yx hb;have hcn : (Int.ofNat cn).toNat = cn := rfl;have hnl : ns.length = cn := by
           have := congrArg List.length hns;simp at this; simp at c2; omega
         have hlt : k + 1 < g.ι.length := by rw [hRl.len]; exact jk hσ
         have hob := hRl.objo (k + 1) g.ι[k + 1] _ (by simp [hlt]) hσ;have hty : ∃ n, g.E b = some (T', n) := by
           cases hk : g.ι[k + 1] with
           | un zs => rw [hk] at hob; cases hob.1
           | bk b2 =>
             rw [hk] at hob;obtain ⟨b', r1, n', r2, r3⟩ := hob;rw [hι] at r1; cases r1;exact ⟨n', r2⟩
         obtain ⟨nz, hE⟩ := hty;obtain ⟨c, fz, hh, hsz⟩ := (hRl.zs b).2 _ _ hE;obtain ⟨c', el', fz', hh', hnf, hle, hcells⟩ := hRl.objs k b _ hι hσk;rw [hh] at hh'; cases hh';have hsh : w.shape? b = some (T', c.size) := by simp [World.shape?, hh]
         have hcell : ∀ j x, ns[j]? = some x -> w.cell? ((⟨b, 0, none⟩ : Addr).add j) = some (.int .u8 x) := by
           intro j x hj;have hj2 := jk hj;have hx : cs[j]? = some (.int .u8 x) := by
             have := congrArg (fun l => l[j]?) hns;simp only [rJ, hj, tU] at this;rw [List.getElem?_take_of_lt (by simp; omega)] at this;exact this
           obtain ⟨u, c1, c2, -⟩ := vn hRl hι hσk hx;have hu := c2.int_run;subst hu;rw [kA, tS]; exact c1
         have hrun := ja3 (P := P) (w := w) pt it ty T' hp hc1 b c.size hsh ns (by intro h; rw [h] at hnl; simp at hnl; omega) (by rw [hnl]; simp at c2; omega) (by rw [hnl]; omega) hcell;rw [hnl] at hrun;obtain ⟨hk1, hk2⟩ := hRl.kill hι hσk;obtain ⟨f1, f2, f3, f4, f5, f6⟩ := Vf w b cn;have hR' := hk1.beside (w' := w.freeze ⟨b, 0, none⟩ cn) (by simp) hk2 f1 f2 f6;have hbO : b ∈ O := hRl.sub b (rW _ (kB hι hσk (kv (by simp))));refine ⟨_, _, g, _, hexec _ _ hrun, ⟨by omega, fun k' _ hk' => ⟨f1 k' (fun e => hk' (e ▸ hbO)), rfl, fun _ => rfl⟩, fun _ _ _ h => h, fun _ _ h => h, fun k' hk' => .inl (List.mem_filter.1 hk').1, rfl, f3, f4, f5, fun _ => ⟨rP _, fun _ h => h⟩⟩, hR'.push (V.str (g := g) ⟨(ns.map fun n => UInt8.ofNat n.toNat).toArray⟩) rfl, Keep.set fun _ _ _ _ => trivial⟩
       . cases h
     . cases h
   . cases h
def Zb (P : Program) : Op -> MemK -> List Opd -> Bool
 | .call c, .bapp E, xs => (match c.callee, c.argTypes.toList with
   | .builtin .append, [T, U] => (match P.underlying T, P.underlying U with
     | some (.slice E'), some .string => E' == E && (match P.info? E with
       | some i => (match i.zero with
         | some z => z.cells.size == i.size && (i.size == 1 && i.bytes == 1)
         | none => false)
       | none => false)
     | _, _ => false)
   | _, _ => false) && ka xs c.args.toList
 | .call c, .sdat, xs => (match c.callee with | .builtin .unsafeSliceData => true | _ => false) && ka xs c.args.toList
 | .call c, .ustr e, xs => (match c.callee, c.argTypes.toList with
   | .builtin .unsafeString, [pt, _] => (match P.underlying pt with | some (.pointer e') => e' == e && P.cellsOf e == 1 | _ => false)
   | _, _ => false) && ka xs c.args.toList
 | op, k, xs => jcP P op k xs
theorem Vp {k : MemK} {xs : List Opd} (hs : ja cf (.mem k xs) s = some res) (hl : WT s.ts a.tmps) (hR : R g O (s.ts.roots a.tmps) s.σ w) (rs : List Operand) (hx : ka xs rs = true) (hd : ∀ c, o.op ≠ .defer c)
   (hrun : ∀ (vs : List IVal) (ts : Ts) (v : IVal) (σ' : List IObj) (wr : List (Nat × Bool)), jO k vs s.σ = some (v, σ', wr) -> R g O (vs.zip (rs.map a.eval) ++ ts.roots a.tmps) s.σ w -> vs.length = (rs.map a.eval).length -> vm P g O w s.σ (ts.roots a.tmps) (execOp a.eval o) v σ' wr) : OpRes P o a g O w s res := by
 simp only [ja] at hs;split at hs
 . rename_i vs ts hga;split at hs
   . rename_i v σ' wr hm;simp only [zO] at hs;subst hs;obtain ⟨h1, h2, h3⟩ := kD (l := []) hx hga hl hR;obtain ⟨v', w', g', O', q1, q2, q3, q4⟩ := hrun vs ts v σ' wr hm (by simpa using h1) h3;exact .of_val ⟨rfl, v', w', _, q1, rfl, g', O', wr, q2, q3, h2, rfl, q4⟩ hd
   . cases hs
 . cases hs
theorem jaE {k : MemK} {xs : List Opd} (h : Zb P o.op k xs = true) (hs : ja cf (.mem k xs) s = some res) (hl : WT s.ts a.tmps) (hR : R g O (s.ts.roots a.tmps) s.σ w) : OpRes P o a g O w s res := by
 unfold Zb at h;split at h
 . rename_i c E hop;simp only [zA] at h;obtain ⟨h1, h2⟩ := h;split at h1
   . rename_i T U hc hta;split at h1
     . rename_i E' hT hU;simp only [zA, beq_iff_eq] at h1;obtain ⟨rfl, h1⟩ := h1;split at h1
       . rename_i i hi;split at h1
         . rename_i z hz;simp only [zA, beq_iff_eq] at h1;obtain ⟨k1, k2, k3⟩ := h1;refine Vp hs hl hR _ h2 (fun c h => by rw [hop] at h; cases h) (fun vs ts v σ' wr hm hR' hl' => ?_);refine Y4 (ty := o.type) hT hU hi hz k1 k2 k3 hR' hl' hm (fun r w' hr => ?_);have ea : (c.args.toList.map a.eval).toArray = c.args.map a.eval := by apply Array.ext'; simp
           have hta' : c.argTypes = #[T, U] := by rw [<- Array.toList_inj, hta]
           rw [ea] at hr;simp [execOp, hop, resolve, hc, hta', invoke, builtin, hr]
         . cases h1
       . cases h1
     . cases h1
   . cases h1
 . rename_i c hop;simp only [zA] at h;obtain ⟨h1, h2⟩ := h;split at h1
   . rename_i hc;refine Vp hs hl hR _ h2 (fun c h => by rw [hop] at h; cases h) (fun vs ts v σ' wr hm hR' hl' => ?_);refine Y8 (ts := c.argTypes) (ty := o.type) hR' hl' hm (fun r w' hr => ?_);have ea : (c.args.toList.map a.eval).toArray = c.args.map a.eval := by apply Array.ext'; simp
     rw [ea] at hr;simp [execOp, hop, resolve, hc, invoke, builtin, hr]
   . cases h1
 . rename_i c e hop;simp only [zA] at h;obtain ⟨h1, h2⟩ := h;split at h1
   . rename_i pt it hc hta;split at h1
     . rename_i e' hp;simp only [zA, beq_iff_eq] at h1;obtain ⟨rfl, h1⟩ := h1;refine Vp hs hl hR _ h2 (fun c h => by rw [hop] at h; cases h) (fun vs ts v σ' wr hm hR' hl' => ?_);refine Za (pt := pt) (it := it) (ty := o.type) hp h1 hR' hl' hm (fun r w' hr => ?_);have ea : (c.args.toList.map a.eval).toArray = c.args.map a.eval := by apply Array.ext'; simp
       have hta' : c.argTypes = #[pt, it] := by rw [<- Array.toList_inj, hta]
       rw [ea] at hr;simp [execOp, hop, resolve, hc, hta', invoke, builtin, hr]
     . cases h1
   . cases h1
 . exact jcR h hs hl hR
end Go.Idl
namespace Go.Idl
variable [Globs]
variable {P : Program}
def JE (P : Program) (T : TypeId) : Option (TypeInfo × Value) :=
 match P.info? T with
 | some i => match i.zero with
   | some z => some (i, z)
   | none => none
 | none => none
theorem k9 {T : TypeId} {i : TypeInfo} {z : Value} (h : JE P T = some (i, z)) : P.info? T = some i /\ i.zero = some z := by
 unfold JE at h;split at h
 . split at h
   . simp at h; obtain ⟨rfl, rfl⟩ := h; exact ⟨by assumption, by assumption⟩
   . cases h
 . cases h
def zf (P : Program) (T : TypeId) : Option (Array Value × (Nat -> Option (Nat × Nat))) :=
 match P.info? T, P.underlying T with
 | some it, some (.array _ e) =>
   match it.zero, P.info? e with
   | some z, some ie => some (z.cells, fun i => some (i * ie.size, ie.size))
   | _, _ => none
 | some it, some (.struct fields) =>
   match it.zero, fields.toList.mapM (fun f => (P.info? f.type).map fun i => (f.offset, i.size)) with
   | some z, some places => some (z.cells, fun i => places.toArray[i]?)
   | _, _ => none
 | _, _ => none
theorem J3 {T : TypeId} {zc : Array Value} {place : Nat -> Option (Nat × Nat)} (h : zf P T = some (zc, place)) (w : World) (ps : Array (Nat × Value)) (cells : Array Value) (hf : Instr.fill place zc ps.toList = some cells) :
   (Instr.build T ps).run P w = .ok (.agg cells) w := by
 refine run_build w T ps cells ?_;unfold zf at h;unfold Program.built;split at h
 . rename_i h1 h2;split at h
   . rename_i h3 h4;simp at h; obtain ⟨rfl, rfl⟩ := h;simp only [h1, h2, h3, h4]; exact hf
   . cases h
 . rename_i h1 h2;split at h
   . rename_i h3 h4;simp only [zO, zP] at h; obtain ⟨rfl, rfl⟩ := h;simp only [h1, h2, h3, h4]; exact hf
   . cases h
 . cases h
def jeI (P : Program) (T : TypeId) (k : Nat) : Bool :=
 match P.underlying T with
 | some d => Zg k d && decide (k <= 3)
 | none => false
def yE (k : Nat) : Operand -> Bool
 | .const (.pointer none) => k == 0
 | .const .nilIface => k == 1
 | .const .nilFunc => k == 2
 | .const (.map none) => k == 3
 | _ => false
theorem yo {k : Nat} {r : Operand} (h : yE k r = true) : r = .const (vE k) := by
 unfold yE at h;split at h <;> simp at h <;> subst h <;> rfl
def qe (P : Program) (T : TypeId) : Option (TypeId × TypeInfo) :=
 match P.underlying T with
 | some (.slice E) => match P.info? E with
   | some i => some (E, i)
   | none => none
 | _ => none
theorem kZ {T E : TypeId} {i : TypeInfo} (h : qe P T = some (E, i)) : P.underlying T = some (.slice E) /\ P.info? E = some i := by
 unfold qe at h;split at h
 . split at h
   . simp at h; obtain ⟨rfl, rfl⟩ := h; exact ⟨by assumption, by assumption⟩
   . cases h
 . cases h
def Ky (P : Program) (T : TypeId) (n : Nat) : Bool :=
 match P.info? T with
 | some i => i.size == n
 | none => false
def jcE (d : TypeDesc) : Bool := match d with | .int _ => true | _ => false
def mfn (P : Program) (t : TypeId) (name : String) : Option FuncId := match P.info? t with
 | some i => match i.methods.find? (fun m => m.name == name) with
   | some m => m.func.map (·.1)
   | none => none
 | none => none
def Yi (P : Program) (c : Call) : IOp -> Bool
 | .inv tab x xs => (match c.callee with | .invoke r name => jL x r && tab.all fun p => JM P p.1 name p.2.1 p.2.2 | _ => false) && ka xs c.args.toList
 | .vOf G tab x => (match c.callee, c.args.toList with | .value (.func f), [r] => jcI P f G tab && jL x r | _, _ => false)
 | .vSet G tab x y => (match c.callee, c.args.toList with | .value (.func f), [rx, ry] => YW P f G tab && (jL x rx && jL y ry) | _, _ => false)
 | .call f xs => (match c.callee with | .value (.func f') => f == f' | _ => false) && ka xs c.args.toList
 | .callp f xs => (match c.callee with | .value (.func f') => f == f' | _ => false) && ka xs c.args.toList
 | .callv x xs => (match c.callee with | .value r => jL x r | _ => false) && ka xs c.args.toList
 | .lenS x => (match c.callee, c.args.toList, c.argTypes[0]? with | .builtin .len, [r], some T => jL x r && (match P.underlying T with | some .string => true | _ => false) | _, _, _ => false)
 | .lenL x => (match c.callee, c.args.toList, c.argTypes[0]? with | .builtin .len, [r], some T => jL x r && (match P.underlying T with | some (.slice _) => true | _ => false) | _, _, _ => false)
 | .lenM x => (match c.callee, c.args.toList, c.argTypes[0]? with | .builtin .len, [r], some T => jL x r && (match P.underlying T with | some (.map _ _) => true | _ => false) | _, _, _ => false)
 | .clear zs x => (match c.callee, c.args.toList, c.argTypes[0]? with | .builtin .clear, [r], some T => jL x r && (match qe P T with | some (E, _) => (match JE P E with | some (i, z) => z.cells.size == i.size && Jh zs z.cells.toList | none => false) | none => false) | _, _, _ => false)
 | .minmax mx [x, y] => (match c.callee, c.args.toList with | .builtin b, [rx, ry] => b == (if mx then .max else .min) && jL x rx && jL y ry | _, _ => false)
 | .append _ _ esz bytes x y => (match c.callee, c.args.toList, c.argTypes.toList with
     | .builtin .append, [rx, ry], [T, U] => jL x rx && jL y ry && (match qe P T, P.underlying U with
       | some (E, i), some du => !(jcE du) && i.size == esz && i.bytes == bytes && (match JE P E with | some (_, z) => z.cells.size == esz | none => false)
       | _, _ => false)
     | _, _, _ => false)
 | _ => false
def Km (P : Program) (want : Array (String × TypeId)) (t : TypeId) (b : Bool) : Bool :=
 match P.info? t with
 | some i => (lacking want i.methods).isEmpty == b
 | none => false
def KS (ra rb : Operand) : Option Operand :=
 match ra, rb with
 | _, .const (.slice none 0 0) => some ra
 | .const (.slice none 0 0), _ => some rb
 | _, _ => none
def jc3 (P : Program) : Op -> PurK -> List Opd -> Bool
 | .call c, .ext k, xs => (match c.callee with | .value (.func f) => XJ P f k | _ => false) && ka xs c.args.toList
 | .call c, .invX tab, xs => (match c.callee with
   | .invoke r name => (tab.all fun p => match mfn P p.1 name with | some f => JM P p.1 name f p.2.2 && XJ P f p.2.1 | none => false) && ka xs (r :: c.args.toList)
   | _ => false)
 | .binOp op T ra rb _, .eqa neg ks, xs => op == Ji neg && (yN P 1000 T == some ks && ((pnT P T).isSome && (!P.eqGuardType P.depth T && ka xs [ra, rb])))
 | .binOp op T ra rb _, .isnilS neg, xs => op == Ji neg && ((match P.underlying T with | some (.slice _) => true | _ => false) && (match KS ra rb with | some r => ka xs [r] | none => false))
 | .binOp op T ra rb _, .eqp neg, xs => op == Ji neg && ((match P.underlying T with | some (.pointer e) => (match P.info? e with | some i => i.size != 0 | none => false) | _ => false) && ka xs [ra, rb])
 | .binOp op T ra rb _, .eqi neg ks, xs => op == Ji neg && ((match P.underlying T with | some (.interface _) => true | _ => false) && ((ks.all fun p => match P.info? p.1, P.underlying p.1 with | some i, some d => i.comparable && Vj d p.2 | _, _ => false) && ka xs [ra, rb]))
 | .convert S T r, .text, xs => (match P.underlying S with | some (.slice e) => (match P.underlying e with | some (.int .u8) => true | _ => false) | _ => false) && ((match P.underlying T with | some .string => true | _ => false) && ka xs [r])
 | .makeFunc f rs qs, .mkM n, xs => (match f, rs.toList, qs.toList with | .method n', [r], [] => n == n' && ka xs [r] | _, _, _ => false)
 | .nilCheck r, .nilM ts n, xs => (ts.all fun t => Zf P t n) && ka xs [r]
 | .convert S T r, .rune, xs => (P.underlying S).isSome && ((match P.underlying T with | some .string => true | _ => false) && ka xs [r])
 | .typeAssert r _ A ok, .tyC t ok' z, xs => A == t && (ok == ok' && ((match P.underlying A with | some (.interface _) => false | some _ => true | none => false) && ((match JE P A with | some (_, zv) => cOK z zv | none => false) && ka xs [r])))
 | .typeAssert r _ A ok, .tyI yes no ok', xs => ok == ok' && ((match P.underlying A with | some (.interface want) => yes.all (fun t => Km P want t true) && no.all (fun t => Km P want t false) | _ => false) && ((match JE P A with | some (_, .nilIface) => true | _ => false) && ka xs [r]))
 | .slice T r none none none, .slA n, xs => (match P.underlying T with | some (.array m E) => m == n && Ky P E 1 | _ => false) && ka xs [r]
 | .call c, .cap0, xs => (match c.callee, c.args.toList, c.argTypes[0]? with | .builtin .cap, [r], some T => ka xs [r] && (match P.underlying T with | some (.slice _) => true | _ => false) | _, _, _ => false)
 | _, _, _ => false
def jeK (P : Program) : Op -> IOp -> Bool
 | op, .pur k xs => jc3 P op k xs
 | op, .mem k xs => Zb P op k xs
 | .panic r, .panic x => jL x r
 | .move r, .mv x => jL x r
 | .assign r, .mv x => jL x r
 | .pick rc ra rb, .pick c a b => jL c rc && jL a ra && jL b rb
 | .alloc T, .alloc zs => (match JE P T with | some (_, z) => Jh zs z.cells.toList | none => false)
 | .box _ r, .box x => jL x r
 | .box _ r, .boxv x => jL x r
 | .build T rp, .build zs parts => (match zf P T with | some (zc, place) => Jh zs zc.toList && y7 place parts rp.toList | none => false)
 | .buildSlice T n rp, .buildSl esz xs => (match qe P T with
     | some (E, i) => i.size == esz && decide (0 < esz) && n == rp.size && (rp.toList.map (·.1) == List.range rp.size) && ka xs (rp.toList.map (·.2)) && (match JE P E with | some (_, z) => z.cells.size == esz | none => false)
     | none => false)
 | .buildSlice T n rp, .buildRs esz xs => (match qe P T with
     | some (E, i) => i.size == esz && decide (0 < esz) && n == rp.size && (rp.toList.map (·.1) == List.range rp.size) && ka xs (rp.toList.map (·.2)) && (match JE P E with | some (_, z) => z.cells.size == esz | none => false)
     | none => false)
 | .load T r, .load _ n x => jL x r && tyN P T n
 | .store T rx ry, .store n x y => jL x rx && jL y ry && Ky P T n
 | .nilCheck r, .nilCheck x => jL x r
 | .binOp op _ rx ry _, .bin op' x y => op == op' && jL x rx && jL y ry
 | .binOp op T rx ry _, .eqb neg x y => op == (if neg then .neq else .eql) && jL x rx && jL y ry && (match P.underlying T with | some .bool => true | _ => false)
 | .binOp op T ra rb _, .isnil neg k x => op == (if neg then .neq else .eql) && jeI P T k && ((yE k rb && jL x ra) || (yE k ra && jL x rb))
 | .unOp op _ r, .un op' x => op == op' && jL x r
 | .convert S T r, .conv (.int k) x => jL x r && (P.underlying S).isSome && (match P.underlying T with | some (.int k') => k == k' | _ => false)
 | .convert S T r, .conv .same x => jL x r && (match P.underlying S, P.underlying T with | some .string, some .string => true | _, _ => false)
 | .convert S T r, .conv .bytes x => jL x r && (match P.underlying S, P.underlying T with | some .string, some (.slice e) => (match P.underlying e with | some (.int .u8) => true | _ => false) | _, _ => false)
 | .makeInterface T r, .mkIface T' x => T == T' && jL x r && (match P.underlying T with | some (.interface _) => false | some _ => true | none => false)
 | .makeFunc f rs qs, .mkFn f' xs ys => f == f' && ka xs rs.toList && ka ys qs.toList
 | .makeMap _ none, .mkMap => true
 | .makeSlice T rx ry, .mkSl _ esz bytes zs x y => jL x rx && jL y ry && (match qe P T with
     | some (E, i) => i.size == esz && i.bytes == bytes && (match JE P E with | some (_, z) => z.cells.size == esz && Jh zs z.cells.toList | none => false)
     | none => false)
 | .slice T r lo hi none, .sliceS x l h => jL x r && yp l lo && yp h hi && (match P.underlying T with | some .string => true | _ => false)
 | .slice T r lo hi mx, .sliceL esz x l h m => jL x r && yp l lo && yp h hi && yp m mx && (m.isNone || h.isSome) && (match qe P T with | some (_, i) => i.size == esz | none => false)
 | .fieldAddr T r k, .fieldAddr off x => jL x r && (match P.underlying T with | some (.struct fs) => (match fs[k]? with | some f => f.offset == off && (match P.info? f.type with | some i => i.size != 0 | none => false) | none => false) | _ => false)
 | .field T r k, .field off n x => jL x r && (match P.underlying T with | some (.struct fs) => (match fs[k]? with | some f => f.offset == off && tyN P f.type n | none => false) | _ => false)
 | .indexAddr T rx ry, .idxAddr esz x y => jL x rx && jL y ry && (match qe P T with | some (_, i) => i.size == esz | none => false)
 | .indexAddr T rx ry, .idxAddrA len esz x y => jL x rx && jL y ry && (match P.underlying T with | some (.array n E) => n == len && Ky P E esz | _ => false)
 | .index T rx ry, .idxS x y => jL x rx && jL y ry && (match P.underlying T with | some .string => true | _ => false)
 | .index T rx ry, .idxA len esz n x y => jL x rx && jL y ry && (match P.underlying T with | some (.array m E) => m == len && Ky P E esz && tyN P E n | _ => false)
 | .lookup T rx ry ok, .lookup kk z ok' x y => ok == ok' && jL x rx && jL y ry && nt z && (match P.underlying T with | some (.map K E) => (match P.underlying K, JE P E with | some d, some (_, zv) => Q3 kk d && cOK z zv | _, _ => false) | _ => false)
 | .mapUpdate T rx ry rz, .mapSet kk x y z => jL x rx && jL y ry && jL z rz && (match P.underlying T with | some (.map K _) => (match P.underlying K with | some d => Q3 kk d | none => false) | _ => false)
 | .insert T rx ry rz, .mapSet kk x y z => jL x rx && jL y ry && jL z rz && (match P.underlying T with | some (.map K _) => (match P.underlying K with | some d => Q3 kk d | none => false) | _ => false)
 | .extract r i, .extract x j => i == j && jL x r
 | .call c, io => Yi P c io
 | _, _ => false
end Go.Idl
namespace Go.Idl
variable [Globs]
variable {P : Program} {o : Oper} {a : Act} {g : Gh} {O : List Nat} {w : World} {s : St} {res : Res} {cf : kt}
theorem vL {α : Type} {xs : Array α} {r : α} (h : xs.toList = [r]) : xs = #[r] := Array.toList_inj.1 (by simpa using h)
theorem yK {α : Type} {xs : Array α} {r q : α} (h : xs.toList = [r, q]) : xs = #[r, q] := Array.toList_inj.1 (by simpa using h)
theorem v9 {T : TypeId} {n : Nat} (h : Ky P T n = true) : ∃ i, P.info? T = some i /\ i.size = n := by
 unfold Ky at h;split at h
 . exact ⟨_, by assumption, by simpa using h⟩
 . cases h
theorem Xx {c : Call} {io : IOp} {C0 : Q5} (hcf : CallOK P C0 cf) (hC : g.C = C0) (hop : o.op = .call c) (h : Yi P c io = true) (hs : ja cf io s = some res)
   (hl : WT s.ts a.tmps) (hR : R g O (s.ts.roots a.tmps) s.σ w) : OpRes P o a g O w s res := by
 have hd : ∀ c', o.op ≠ .defer c' := fun c' h => by rw [hop] at h; cases h
 unfold Yi at h;split at h
 . simp only [zA] at h;obtain ⟨h1, h2⟩ := h;split at h1
   . rename_i hc;simp only [zA, rD] at h1;exact Zj hcf hC hop hc h1.1 h2 h1.2 hs hl hR
   . cases h1
 . split at h
   . rename_i h1 h2;simp only [zA] at h;exact .of_val (jdn hop h1 (vL h2) h.1 h.2 hs hl hR) hd
   . cases h
 . split at h
   . rename_i h1 h2;simp only [zA] at h;exact .of_val (jbf hop h1 (yK h2) h.1 h.2.1 h.2.2 hs hl hR) hd
   . cases h
 . simp only [zA] at h;obtain ⟨h1, h2⟩ := h;split at h1
   . rename_i hc;have := eq_of_beq h1;subst this;exact Jg hcf hC hop hc h2 hs hl hR
   . cases h1
 . simp only [zA] at h;obtain ⟨h1, h2⟩ := h;split at h1
   . rename_i hc;have := eq_of_beq h1;subst this;exact Vu hcf hC hop hc h2 hs hl hR
   . cases h1
 . simp only [zA] at h;obtain ⟨h1, h2⟩ := h;split at h1
   . rename_i hc;exact Vv hcf hC hop hc h1 h2 hs hl hR
   . cases h1
 . split at h
   . rename_i h1 h2 h3;simp only [zA] at h;obtain ⟨h4, h5⟩ := h;split at h5
     . rename_i hT; exact .of_val (jba hop h1 (vL h2) h3 h4 hT hs hl hR) hd
     . cases h5
   . cases h
 . split at h
   . rename_i h1 h2 h3;simp only [zA] at h;obtain ⟨h4, h5⟩ := h;split at h5
     . rename_i hT; exact .of_val (ja8 hop h1 (vL h2) h3 h4 hT hs hl hR) hd
     . cases h5
   . cases h
 . split at h
   . rename_i h1 h2 h3;simp only [zA] at h;obtain ⟨h4, h5⟩ := h;split at h5
     . rename_i hT; exact .of_val (ja9 hop h1 (vL h2) h3 h4 hT hs hl hR) hd
     . cases h5
   . cases h
 . split at h
   . rename_i h1 h2 h3;simp only [zA] at h;obtain ⟨h4, h5⟩ := h;split at h5
     . rename_i he;obtain ⟨e1, e2⟩ := kZ he;split at h5
       . rename_i hz;obtain ⟨z1, z2⟩ := k9 hz;simp only [zA] at h5;exact .of_val (ZD hop h1 (vL h2) h3 h4 e1 z1 z2 h5.2 (by simpa using h5.1) hs hl hR) hd
       . cases h5
     . cases h5
   . cases h
 . split at h
   . rename_i h1 h2;simp only [zA] at h;obtain ⟨⟨h3, h4⟩, h5⟩ := h;have := eq_of_beq h3;subst this;exact .of_val (XZ hop h1 (yK h2) h4 h5 hs hl hR) hd
   . cases h
 . split at h
   . rename_i h1 h2 h3;simp only [zA] at h;obtain ⟨⟨h4, h5⟩, h6⟩ := h;split at h6
     . rename_i he hu;obtain ⟨e1, e2⟩ := kZ he;simp only [zA, tT] at h6;obtain ⟨⟨⟨h7, h8⟩, h9⟩, h10⟩ := h6;have q1 := eq_of_beq h8;have q2 := eq_of_beq h9;subst q1 q2;split at h10
       . rename_i hz;obtain ⟨z1, z2⟩ := k9 hz;rw [e2] at z1; cases z1;refine .of_val (VM hop h1 (yK h2) (yK h3) h4 h5 e1 hu (fun k hk => ?_) e2 z2 (by simpa using h10) hs hl hR) hd;subst hk; simp [jcE] at h7
       . cases h10
     . cases h6
   . cases h
 . cases h
theorem JL : ∀ (l : List (Nat × Operand)) (k : Nat), l.map (·.1) = List.range' k l.length -> l = ((l.map (·.2)).zipIdx k).map fun p => (p.2, p.1) := by
 intro l
 induction l with
 | nil => intro k _; rfl
 | cons p l ih =>
   intro k h;simp only [rR, tB, List.range'_succ, tP] at h;simp only [rR, List.zipIdx_cons];rw [<- ih (k + 1) h.2, <- h.1]
theorem Qx {ra rb r : Operand} (h : KS ra rb = some r) : (ra = r /\ rb = .const (.slice none 0 0)) \/ (rb = r /\ ra = .const (.slice none 0 0)) := by
 unfold KS at h;split at h
 . simp at h; exact .inl ⟨h, rfl⟩
 . simp at h; exact .inr ⟨h, rfl⟩
 . cases h
theorem JD {want : Array (String × TypeId)} {t : TypeId} {b : Bool} (h : Km P want t b = true) : ∃ i, P.info? t = some i /\ ((lacking want i.methods).isEmpty = b) := by
 unfold Km at h;split at h
 . exact ⟨_, by assumption, by simpa using h⟩
 . cases h
theorem jc9 {k : PurK} {xs : List Opd} (h : jc3 P o.op k xs = true) (hs : ja cf (.pur k xs) s = some res) (hl : WT s.ts a.tmps) (hR : R g O (s.ts.roots a.tmps) s.σ w) : OpRes P o a g O w s res := by
 unfold jc3 at h;split at h
 . rename_i hop;simp only [zA] at h;obtain ⟨h1, h2⟩ := h;split at h1
   . rename_i hc; exact .of_val (qq h2 (jc7 hop hc h1) hs hl hR) (fun c h => by rw [hop] at h; cases h)
   . cases h1
 . rename_i hop;split at h
   . rename_i hc;simp only [zA, rD] at h;obtain ⟨h1, h2⟩ := h;refine .of_val (qq h2 (jaS hop hc fun p hp => ?_) hs hl hR) (fun c h => by rw [hop] at h; cases h);have := h1 p hp;split at this
     . rename_i f _;simp only [zA] at this;exact ⟨f, this⟩
     . cases this
   . cases h
 . rename_i hop;simp only [zA, tT] at h;obtain ⟨h1, h2, h3, h4, h5⟩ := h;rw [eq_of_beq h1] at hop;exact .of_val (qq h5 (jc4 hop (eq_of_beq h2) h3 h4) hs hl hR) (fun c h => by rw [hop] at h; cases h)
 . rename_i hop;simp only [zA] at h;obtain ⟨h1, h2, h3⟩ := h;rw [eq_of_beq h1] at hop;split at h2
   . rename_i hT;split at h3
     . rename_i hn; exact .of_val (qq h3 (XR hop hT (Qx hn)) hs hl hR) (fun c h => by rw [hop] at h; cases h)
     . cases h3
   . cases h2
 . rename_i hop;simp only [zA] at h;obtain ⟨h1, h2, h3⟩ := h;rw [eq_of_beq h1] at hop;split at h2
   . rename_i hT;split at h2
     . rename_i i hi;exact .of_val (qq h3 (jc6 hop hT hi (by simpa using h2)) hs hl hR) (fun c h => by rw [hop] at h; cases h)
     . cases h2
   . cases h2
 . rename_i hop;simp only [zA, rD] at h;obtain ⟨h1, h2, h3, h4⟩ := h;rw [eq_of_beq h1] at hop;split at h2
   . rename_i hT;refine .of_val (qq h4 (jc5 hop hT fun p hp => ?_) hs hl hR) (fun c h => by rw [hop] at h; cases h);have := h3 p hp;split at this
     . rename_i i d hi hd;simp only [zA] at this;exact ⟨i, d, hi, this.1, hd, this.2⟩
     . cases this
   . cases h2
 . rename_i hop;simp only [zA] at h;obtain ⟨h1, h2, h3⟩ := h;split at h1
   . rename_i hS;split at h1
     . rename_i he;split at h2
       . rename_i hT; exact .of_val (qq h3 (jaV hop hS he hT) hs hl hR) (fun c h => by rw [hop] at h; cases h)
       . cases h2
     . cases h1
   . cases h1
 . rename_i hop;split at h
   . rename_i hr hq;simp only [zA] at h;have e1 := eq_of_beq h.1;subst e1;exact .of_val (qq h.2 (jc8 hop hr hq) hs hl hR) (fun c h => by rw [hop] at h; cases h)
   . cases h
 . rename_i hop;simp only [zA, rD] at h;exact .of_val (qq h.2 (jaT hop h.1) hs hl hR) (fun c h => by rw [hop] at h; cases h)
 . rename_i hop;simp only [zA] at h;obtain ⟨h1, h2, h3⟩ := h;split at h2
   . rename_i hT; exact .of_val (qq h3 (jaU hop h1 hT) hs hl hR) (fun c h => by rw [hop] at h; cases h)
   . cases h2
 . rename_i hop;simp only [zA] at h;obtain ⟨h1, h2, h3, h4, h5⟩ := h;have e1 := eq_of_beq h1;have e2 := eq_of_beq h2;subst e1 e2;split at h4
   . rename_i hz;obtain ⟨z1, z2⟩ := k9 hz;split at h3
     . cases h3
     . rename_i d hne hA; exact .of_val (qq h5 (jdb hop hA (fun ms e => hne ms (by rw [e])) z1 z2 h4) hs hl hR) (fun c h => by rw [hop] at h; cases h)
     . cases h3
   . cases h4
 . rename_i hop;simp only [zA] at h;obtain ⟨h2, h3, h4, h5⟩ := h;have e2 := eq_of_beq h2;subst e2;split at h4
   . rename_i hz;obtain ⟨z1, z2⟩ := k9 hz;split at h3
     . rename_i want hA;simp only [zA, rD] at h3;refine .of_val (qq h5 (jdc hop hA z1 z2 (fun t ht => ?_) (fun t ht => ?_)) hs hl hR) (fun c h => by rw [hop] at h; cases h)
       . obtain ⟨i, hi, hb⟩ := JD (h3.1 t ht); exact ⟨i, hi, List.isEmpty_iff.1 hb⟩
       . obtain ⟨i, hi, hb⟩ := JD (h3.2 t ht); exact ⟨i, hi, fun e => by rw [e] at hb; cases hb⟩
     . cases h3
   . cases h4
 . rename_i hop;simp only [zA] at h;obtain ⟨h1, h2⟩ := h;split at h1
   . rename_i hT;simp only [zA] at h1;obtain ⟨h3, h4⟩ := h1;have q1 := eq_of_beq h3;subst q1;obtain ⟨i, e1, e2⟩ := v9 h4;exact .of_val (qq h2 (jda hop hT e1 e2) hs hl hR) (fun c h => by rw [hop] at h; cases h)
   . cases h1
 . rename_i hop;split at h
   . rename_i hc ha hta;simp only [zA] at h;obtain ⟨h1, h2⟩ := h;split at h2
     . rename_i hT; exact .of_val (qq h1 (jaR hop hc ha hta hT) hs hl hR) (fun c h => by rw [hop] at h; cases h)
     . cases h2
   . cases h
 . cases h
theorem Xd {io : IOp} {C0 : Q5} (hcf : CallOK P C0 cf) (hC : g.C = C0) (h : jeK P o.op io = true) (hs : ja cf io s = some res) (hl : WT s.ts a.tmps) (hR : R g O (s.ts.roots a.tmps) s.σ w) : OpRes P o a g O w s res := by
 unfold jeK at h;split at h
 . exact jc9 h hs hl hR
 . exact jaE h hs hl hR
 . rename_i hop; exact Zp hop h hs hl hR
 . rename_i hop; exact .of_val (jbZ (.inl hop) h hs hl hR) (fun c h => by rw [hop] at h; cases h)
 . rename_i hop; exact .of_val (jbZ (.inr hop) h hs hl hR) (fun c h => by rw [hop] at h; cases h)
 . rename_i hop;simp only [zA] at h;exact .of_val (jbe hop h.1.1 h.1.2 h.2 hs hl hR) (fun c h => by rw [hop] at h; cases h)
 . rename_i hop;split at h
   . rename_i hz;obtain ⟨z1, z2⟩ := k9 hz;exact .of_val (ZB hop z1 z2 h hs hl hR) (fun c h => by rw [hop] at h; cases h)
   . cases h
 . rename_i hop; exact .of_val (jdl hop h hs hl hR) (fun c h => by rw [hop] at h; cases h)
 . rename_i hop; exact .of_val (ja5 hop h hs hl hR) (fun c h => by rw [hop] at h; cases h)
 . rename_i hop;split at h
   . rename_i zc place hb;simp only [zA] at h;exact .of_val (ZC (z := .agg zc) hop h.1 (fun ps cells hf => J3 hb w ps cells hf) h.2 hs hl hR) (fun c h => by rw [hop] at h; cases h)
   . cases h
 . rename_i hop;split at h
   . rename_i he;obtain ⟨e1, e2⟩ := kZ he;simp only [zA] at h;obtain ⟨⟨⟨⟨⟨h1, h2⟩, h3⟩, h4⟩, h5⟩, h6⟩ := h;have q1 := eq_of_beq h1;subst q1;split at h6
     . rename_i hz;obtain ⟨z1, z2⟩ := k9 hz;rw [e2] at z1; cases z1;refine .of_val (VP hop (by rw [eq_of_beq h3]; simp) ?_ h5 e1 e2 z2 (by simpa using h6) (by simpa using h2) hs hl hR) (fun c h => by rw [hop] at h; cases h);have h4' := eq_of_beq h4;refine JL _ 0 ?_;rw [h4', List.range_eq_range']; simp
     . cases h6
   . cases h
 . rename_i hop;split at h
   . rename_i he;obtain ⟨e1, e2⟩ := kZ he;simp only [zA] at h;obtain ⟨⟨⟨⟨⟨h1, h2⟩, h3⟩, h4⟩, h5⟩, h6⟩ := h;have q1 := eq_of_beq h1;subst q1;split at h6
     . rename_i hz;obtain ⟨z1, z2⟩ := k9 hz;rw [e2] at z1; cases z1;refine .of_val (VO hop (by rw [eq_of_beq h3]; simp) ?_ h5 e1 e2 z2 (by simpa using h6) (by simpa using h2) hs hl hR) (fun c h => by rw [hop] at h; cases h);have h4' := eq_of_beq h4;refine JL _ 0 ?_;rw [h4', List.range_eq_range']; simp
     . cases h6
   . cases h
 . rename_i hop;simp only [zA] at h;exact .of_val (jbb hop h.1 h.2 hs hl hR) (fun c h => by rw [hop] at h; cases h)
 . rename_i hop;simp only [zA] at h;obtain ⟨i, i1, i2⟩ := v9 h.2;exact .of_val (ZG hop h.1.1 h.1.2 i1 i2 hs hl hR) (fun c h => by rw [hop] at h; cases h)
 . rename_i hop; exact .of_val (QV hop h hs hl hR) (fun c h => by rw [hop] at h; cases h)
 . rename_i hop;simp only [zA] at h;have q1 := eq_of_beq h.1.1;subst q1;exact .of_val (jdk hop h.1.2 h.2 hs hl hR) (fun c h => by rw [hop] at h; cases h)
 . rename_i hop;simp only [zA] at h;obtain ⟨⟨⟨h1, h2⟩, h3⟩, h4⟩ := h;have q1 := eq_of_beq h1;subst q1;split at h4
   . rename_i hT; exact .of_val (jdm hop h2 h3 hT hs hl hR) (fun c h => by rw [hop] at h; cases h)
   . cases h4
 . rename_i hop;simp only [zA, Bool.or_eq_true] at h;obtain ⟨⟨h1, h2⟩, h3⟩ := h;have q1 := eq_of_beq h1;subst q1;unfold jeI at h2;split at h2
   . rename_i d hT;simp only [zA, decide_eq_true_eq] at h2
     rcases h3 with ⟨h3, h4⟩ | ⟨h3, h4⟩
     . exact .of_val (QU hop (.inl ⟨rfl, yo h3⟩) h4 hT h2.1 hs hl hR) (fun c h => by rw [hop] at h; cases h)
     . exact .of_val (QU hop (.inr ⟨yo h3, rfl⟩) h4 hT h2.1 hs hl hR) (fun c h => by rw [hop] at h; cases h)
   . cases h2
 . rename_i hop;simp only [zA] at h;have q1 := eq_of_beq h.1;subst q1;exact .of_val (jeW hop h.2 hs hl hR) (fun c h => by rw [hop] at h; cases h)
 . rename_i hop;simp only [zA] at h;obtain ⟨⟨h1, h2⟩, h3⟩ := h;obtain ⟨ds, hds⟩ := Option.isSome_iff_exists.1 h2;split at h3
   . rename_i hT;have q1 := eq_of_beq h3;subst q1;exact .of_val (VQ hop h1 hds hT hs hl hR) (fun c h => by rw [hop] at h; cases h)
   . cases h3
 . rename_i hop;simp only [zA] at h;obtain ⟨h1, h3⟩ := h;split at h3
   . rename_i hS hT; exact .of_val (QS hop h1 hS hT hs hl hR) (fun c h => by rw [hop] at h; cases h)
   . cases h3
 . rename_i hop;simp only [zA] at h;obtain ⟨h1, h3⟩ := h;split at h3
   . rename_i hS hT;split at h3
     . rename_i he;exact .of_val (K3 hop h1 hS hT he hs hl hR) (fun c h => by rw [hop] at h; cases h)
     . cases h3
   . cases h3
 . rename_i hop;simp only [zA] at h;obtain ⟨⟨h1, h2⟩, h3⟩ := h;have q1 := eq_of_beq h1;subst q1;split at h3
   . cases h3
   . rename_i d hne hT; exact .of_val (VT hop h2 hT (fun ms e => hne ms (by rw [e])) hs hl hR) (fun c h => by rw [hop] at h; cases h)
   . cases h3
 . rename_i hop;simp only [zA] at h;obtain ⟨⟨h1, h2⟩, h3⟩ := h;have q1 := eq_of_beq h1;subst q1;exact .of_val (jbc hop h2 h3 hs hl hR) (fun c h => by rw [hop] at h; cases h)
 . rename_i hop; exact .of_val (ZF hop hs hl hR) (fun c h => by rw [hop] at h; cases h)
 . rename_i hop;simp only [zA] at h;obtain ⟨⟨h1, h2⟩, h3⟩ := h;split at h3
   . rename_i he;obtain ⟨e1, e2⟩ := kZ he;simp only [zA] at h3;obtain ⟨⟨h4, h5⟩, h6⟩ := h3;have q1 := eq_of_beq h4;have q2 := eq_of_beq h5;subst q1 q2;split at h6
     . rename_i hz;obtain ⟨z1, z2⟩ := k9 hz;rw [e2] at z1; cases z1;simp only [zA] at h6;exact .of_val (jbd hop h1 h2 e1 e2 z2 h6.2 (by simpa using h6.1) hs hl hR) (fun c h => by rw [hop] at h; cases h)
     . cases h6
   . cases h3
 . rename_i hop;simp only [zA] at h;obtain ⟨⟨⟨h1, h2⟩, h3⟩, h4⟩ := h;split at h4
   . rename_i hT; exact .of_val (X1 hop h1 h2 h3 hT hs hl hR) (fun c h => by rw [hop] at h; cases h)
   . cases h4
 . rename_i hop;simp only [zA] at h;obtain ⟨⟨⟨⟨⟨h1, h2⟩, h3⟩, h4⟩, h5⟩, h6⟩ := h;split at h6
   . rename_i he;obtain ⟨e1, e2⟩ := kZ he;have q1 := eq_of_beq h6;subst q1;refine .of_val (X0 hop h1 h2 h3 h4 ?_ e1 e2 hs hl hR) (fun c h => by rw [hop] at h; cases h);simp only [Bool.or_eq_true] at h5
     rcases h5 with h5 | h5
     . left; simpa using h5
     . right; intro e; rw [e] at h5; simp at h5
   . cases h6
 . rename_i hop;simp only [zA] at h;obtain ⟨h1, h2⟩ := h;split at h2
   . rename_i hT;split at h2
     . rename_i hf;simp only [zA] at h2;obtain ⟨h3, h4⟩ := h2;have q1 := eq_of_beq h3;subst q1;split at h4
       . rename_i hi; exact .of_val (K4 hop h1 hT hf hi (by simpa using h4) hs hl hR) (fun c h => by rw [hop] at h; cases h)
       . cases h4
     . cases h2
   . cases h2
 . rename_i hop;simp only [zA] at h;obtain ⟨h1, h2⟩ := h;split at h2
   . rename_i hT;split at h2
     . rename_i hf;simp only [zA] at h2;obtain ⟨h3, h4⟩ := h2;have q1 := eq_of_beq h3;subst q1;exact .of_val (ZE hop h1 hT hf h4 hs hl hR) (fun c h => by rw [hop] at h; cases h)
     . cases h2
   . cases h2
 . rename_i hop;simp only [zA] at h;obtain ⟨⟨h1, h2⟩, h3⟩ := h;split at h3
   . rename_i he;obtain ⟨e1, e2⟩ := kZ he;have q1 := eq_of_beq h3;subst q1;exact .of_val (VS hop h1 h2 e1 e2 hs hl hR) (fun c h => by rw [hop] at h; cases h)
   . cases h3
 . rename_i hop;simp only [zA] at h;obtain ⟨⟨h1, h2⟩, h3⟩ := h;split at h3
   . rename_i hT;simp only [zA] at h3;obtain ⟨h4, h5⟩ := h3;have q1 := eq_of_beq h4;subst q1;obtain ⟨i, i1, i2⟩ := v9 h5;subst i2;exact .of_val (QT hop h1 h2 hT i1 hs hl hR) (fun c h => by rw [hop] at h; cases h)
   . cases h3
 . rename_i hop;simp only [zA] at h;obtain ⟨⟨h1, h2⟩, h3⟩ := h;split at h3
   . rename_i hT; exact .of_val (ja7 hop h1 h2 hT hs hl hR) (fun c h => by rw [hop] at h; cases h)
   . cases h3
 . rename_i hop;simp only [zA] at h;obtain ⟨⟨h1, h2⟩, h3⟩ := h;split at h3
   . rename_i hT;simp only [zA] at h3;obtain ⟨⟨h4, h5⟩, h6⟩ := h3;have q1 := eq_of_beq h4;subst q1;obtain ⟨i, i1, i2⟩ := v9 h5;subst i2;exact .of_val (ja6 hop h1 h2 hT i1 h6 hs hl hR) (fun c h => by rw [hop] at h; cases h)
   . cases h3
 . rename_i hop;simp only [zA] at h;obtain ⟨⟨⟨⟨h1, h2⟩, h3⟩, h4⟩, h5⟩ := h;have q1 := eq_of_beq h1;subst q1;split at h5
   . rename_i hT;split at h5
     . rename_i hK hz;obtain ⟨z1, z2⟩ := k9 hz;simp only [zA] at h5;exact .of_val (XY hop h2 h3 hT hK h5.1 z1 z2 h5.2 h4 hs hl hR) (fun c h => by rw [hop] at h; cases h)
     . cases h5
   . cases h5
 . rename_i hop;simp only [zA] at h;obtain ⟨⟨⟨h1, h2⟩, h3⟩, h4⟩ := h;split at h4
   . rename_i hT;split at h4
     . rename_i hK; exact .of_val (Kx (.inl hop) h1 h2 h3 hT hK h4 hs hl hR) (fun c h => by rw [hop] at h; cases h)
     . cases h4
   . cases h4
 . rename_i hop;simp only [zA] at h;obtain ⟨⟨⟨h1, h2⟩, h3⟩, h4⟩ := h;split at h4
   . rename_i hT;split at h4
     . rename_i hK; exact .of_val (Kx (.inr hop) h1 h2 h3 hT hK h4 hs hl hR) (fun c h => by rw [hop] at h; cases h)
     . cases h4
   . cases h4
 . rename_i hop;simp only [zA] at h;have q1 := eq_of_beq h.1;subst q1;exact .of_val (VR hop h.2 hs hl hR) (fun c h => by rw [hop] at h; cases h)
 . rename_i hop _ _; exact Xx hcf hC hop h hs hl hR
 . cases h
end Go.Idl
