/- The ideal machine and its evaluators, part 3; no conditions. -/
import Derived.Laws.Externs
import Derived.Lib.Bytealg
import Derived.KernelRfl
import Derived.Laws.LoneSync
import Derived.Laws.IdiomStrings
import Derived.Laws.BytesString
import Derived.Laws.RangeString
import Derived.MapKept
import Derived.Laws.Tables
import Derived.LoopNIn
import Derived.Test.YtgkedaeojkbaiaaGreatDoorIdlB
set_option linter.unusedSectionVars false
set_option linter.unusedVariables false
set_option linter.unusedSimpArgs false
namespace Go.Idl
open Go Go.Extern Go.Extern.Rtype
variable [Globs]
variable {P : Program} {o : Oper} {a : Act} {g : Gh} {O : List Nat} {w : World} {s : St} {res : Res} {cf : jD}
def jfr (P : Program) (t : TypeId) : Option (TypeId × TypeInfo) :=
 match P.info? t with
 | some i => match i.desc with
   | .named _ u => match P.info? u with
     | some j => some (u, j)
     | none => none
   | _ => some (t, i)
 | none => none
theorem vA {t : TypeId} {r : TypeId × TypeInfo} (h : jfr P t = some r) : (under t).run P w = .ok r w := by
 unfold jfr at h;split at h
 . rename_i i hi;split at h
   . rename_i n u hd;split at h
     . rename_i j hj;simp only [zO] at h;subst h;simp [under, typeInfo, hi, hd, hj]
     . cases h
   . rename_i hd;simp only [zO] at h;subst h;simp only [under];simp only [typeInfo, Sem.run_bind, run_program, Result.andThen, hi];simp only [Sem.run_pure]
 . cases h
def jil (i : TypeInfo) : Option Nat :=
 match i.desc with
 | .bool => some 1
 | .int .i64 => some (if i.str == "int" then 2 else 6)
 | .int .i8 => some 3 | .int .i16 => some 4 | .int .i32 => some 5
 | .int .u64 => some (if i.str == "uint" then 7 else if i.str == "uintptr" then 12 else 11)
 | .int .u8 => some 8 | .int .u16 => some 9 | .int .u32 => some 10
 | .func _ _ _ => some 19 | .interface _ => some 20 | .map _ _ => some 21
 | .pointer _ => some 22 | .slice _ => some 23 | .string => some 24 | .struct _ => some 25
 | _ => none
def Qc (P : Program) (t : TypeId) : Option Nat := match jfr P t with
 | some r => jil r.2
 | none => none
theorem J6 {t : TypeId} {k : Nat} (h : Qc P t = some k) : (kind t).run P w = .ok k w := by
 unfold Qc at h;split at h
 . rename_i r hr;simp only [kind, Sem.run_bind, vA hr, Result.andThen];unfold jil at h;split at h <;> first | (cases h; done) | (rename_i e; simp only [zO] at h; subst h; simp only [e]; rfl)
 . cases h
def jh2 : TypeDesc -> Option TypeId
 | .array _ e => some e
 | .chan _ e => some e
 | .map _ e => some e
 | .pointer e => some e
 | .slice e => some e
 | _ => none
def Z2 (P : Program) (t : TypeId) : Option TypeId := match jfr P t with
 | some r => jh2 r.2.desc
 | none => none
theorem ZA {t e : TypeId} (h : Z2 P t = some e) : (elem? t).run P w = .ok (some e) w := by
 unfold Z2 at h;split at h
 . rename_i r hr;simp only [elem?, Sem.run_bind, vA hr, Result.andThen];unfold jh2 at h;split at h <;> first | (cases h; done) | (rename_i e; simp only [zO] at h; subst h; simp only [e]; rfl)
 . cases h
def Zn : TypeDesc -> Bool
 | .named _ _ => true
 | .bool => true
 | .int _ => true
 | .float _ => true
 | .complex _ => true
 | .string => true
 | .unsafePointer => true
 | _ => false
theorem KP {t : TypeId} {i : TypeInfo} (h : P.info? t = some i) : (hasName t).run P w = .ok (Zn i.desc) w := by
 simp only [hasName, typeInfo, Sem.run_bind, run_program, Result.andThen, h, Sem.run_pure];unfold Zn;split <;> rename_i e <;> first | rfl | simp_all
def daP (P : Program) (T V : TypeId) : Option Bool :=
 if T == V then some true else match P.info? T, P.info? V with
   | some i, some j => if Zn i.desc && Zn j.desc then some false else match jfr P T, jfr P V with
     | some (t, ti), some (v, vi) => match ti.desc with
       | .chan _ _ => none
       | _ => some (t == v)
     | _, _ => none
   | _, _ => none
theorem jcq {T U : TypeId} {b : Bool} (h : daP P T U = some b) : (directlyAssignable T U).run P w = .ok b w := by
 unfold daP at h;unfold directlyAssignable;split at h
 . rename_i e;simp only [zO] at h;subst h;simp [e]
 . rename_i e;split at h
   . rename_i i j hi hj;simp only [e, tF, if_false, Sem.run_bind, KP hi, KP hj, Result.andThen];split at h
     . rename_i hn;simp only [zO] at h;subst h;simp [hn]
     . rename_i hn;simp only [hn, tF, if_false, Sem.run_bind];split at h
       . rename_i t ti v vi ht hv;simp only [Sem.run_pure, Result.andThen, vA ht, vA hv];split at h
         . cases h
         . rename_i hd;simp only [zO] at h;subst h;split
           . rename_i e1 _; exact absurd e1 (hd _ _)
           . rfl
       . cases h
   . cases h
def VS : TypeDesc -> Option (Array (String × TypeId))
 | .interface ms => some ms
 | _ => none
def Z7 (P : Program) (T U : TypeId) : Option Bool :=
 match jfr P T, jfr P U, P.info? U with
 | some r, some q, some i => match VS r.2.desc, VS q.2.desc with
   | none, _ => some false
   | some want, none => some (Go.lacking want i.methods).isEmpty
   | some _, some _ => none
 | _, _, _ => none
theorem Vn {T U : TypeId} {b : Bool} (h : Z7 P T U = some b) (h1 : P.methodsOfAPack P.depth T = false) (h2 : P.methodsOfAPack P.depth U = false) : (implements T U).run P w = .ok b w := by
 unfold Z7 at h;split at h
 . rename_i r q i hT hU hi;simp only [implements, noPackMethods, Sem.run_bind, run_program, Result.andThen, h1, h2, tF, if_false, Sem.run_pure, vA hT, vA hU];generalize r.2.desc = d1 at h ⊢;generalize q.2.desc = d2 at h ⊢;have hm : ∀ want, (Instr.missingMethod want i.methods).isNone = (Go.lacking want i.methods).isEmpty := by
     intro want
     by_cases e : Go.lacking want i.methods = []
     . rw [missingMethod_none e, e]; rfl
     . obtain ⟨m, hm⟩ := missingMethod_some e;rw [hm]
       cases hl : Go.lacking want i.methods with
       | nil => exact absurd hl e
       | cons a r => rfl
   cases d1 with
   | interface want =>
     cases d2 with
     | interface got => simp [VS] at h
     | _ =>
       simp only [VS, zO] at h;subst h;simp only [typeInfo, Sem.run_bind, run_program, Result.andThen, hi, Sem.run_pure, hm]
   | _ =>
     simp only [VS, zO] at h;subst h;rfl
 . cases h
def Z1 (P : Program) (name : String) (t : TypeId) : Bool := match P.cutTypes.find? (·.1 == name) with
 | some (_, u) => t == u
 | none => false
theorem jg4 {name : String} {t : TypeId} (h : Z1 P name t = true) : (cutType name).run P w = .ok t w := by
 unfold Z1 at h;split at h
 . rename_i n u hf;have := eq_of_beq h;subst this;simp [cutType, hf]
 . cases h
theorem JA (t : TypeId) : (handle t).run P w = .ok (.pointer (some ⟨P.globals.size, t, none⟩)) w := rfl
theorem yx (t : TypeId) : (ofHandle (.pointer (some ⟨P.globals.size, t, none⟩))).run P w = .ok t w := by
 simp [ofHandle, handleType]
theorem yL {what : String} {t : TypeId} (h : P.packed t = false) : (noPack what t).run P w = .ok () w := by simp [noPack, h]
theorem Qh {what : String} {t : TypeId} (h : P.holdsPacked P.depth t = false) : (noPackHeld what t).run P w = .ok () w := by simp [noPackHeld, h]
theorem qk {what : String} {t : TypeId} (h : P.methodsOfAPack P.depth t = false) : (noPackMethods what t).run P w = .ok () w := by simp [noPackMethods, h]
theorem JB {rt t : TypeId} (h : Z1 P "internal/reflectlite.rtype" rt = true) : (ReflectliteType.toType t).run P w = .ok (.iface rt (.agg #[.pointer (some ⟨P.globals.size, t, none⟩)])) w := by
 simp [ReflectliteType.toType, jg4 h, JA, Result.andThen]
theorem jai (h : Value) : ReflectliteType.ofRtype (.agg #[h]) = (do let t <- ofHandle h; noPack "a Type asked or handed on" t; pure t) := rfl
theorem ql {t : TypeId} (h : P.packed t = false) : (ReflectliteType.ofRtype (.agg #[.pointer (some ⟨P.globals.size, t, none⟩)])).run P w = .ok t w := by
 rw [jai];simp [yx, yL h, Result.andThen]
def jbh : ExtK -> String
 | .typeOf _ _ => "internal/reflectlite.TypeOf"
 | .vType _ _ => "(internal/reflectlite.Value).Type"
 | .vIsNil _ _ => "(internal/reflectlite.Value).IsNil"
 | .vElem _ _ => "(internal/reflectlite.Value).Elem"
 | .rElem _ _ _ => "(internal/reflectlite.rtype).Elem"
 | .rCmp _ _ => "(internal/reflectlite.rtype).Comparable"
 | .rImpl _ _ => "(internal/reflectlite.rtype).Implements"
 | .rAsg _ _ => "(internal/reflectlite.rtype).AssignableTo"
 | .aKind _ _ => "(*internal/abi.Type).Kind"
 | .cntS => "internal/bytealg.CountString"
 | .idxBS => "internal/bytealg.IndexByteString"
 | .mk0 a => if a then "internal/race.Disable" else "internal/race.Enable"
 | .mk1 a => if a then "internal/race.Acquire" else "internal/race.ReleaseMerge"
def Ke : ExtK -> Array Value -> Sem Value
 | .typeOf _ _ => ReflectliteType.typeOf
 | .vType _ _ => ReflectliteValue.methodAny (ReflectliteValue.valueError "reflectlite.Value.Type" 0) fun t _ _ _ => ReflectliteType.toType t
 | .vIsNil _ _ => ReflectliteValue.method (ReflectliteValue.valueError "reflectlite.Value.IsNil" 0) ReflectliteValue.isNil
 | .vElem _ _ => ReflectliteValue.method (ReflectliteValue.valueError "reflectlite.Value.Elem" 0) ReflectliteValue.elem
 | .rElem _ _ _ => ReflectliteType.method ReflectliteType.elem
 | .rCmp _ _ => ReflectliteType.method fun t => do noPackHeld "Comparable" t; pure (.bool (<- typeInfo t).comparable)
 | .rImpl _ _ => ReflectliteType.relation "Implements" ReflectliteType.implements_
 | .rAsg _ _ => ReflectliteType.relation "AssignableTo" ReflectliteType.assignableTo
 | .aKind _ _ => ReflectliteType.abiMethod fun t => do pure (.int .u8 (<- kind t))
 | .cntS => BytealgCount.count
 | .idxBS => BytealgIndexByte.indexByte
 | .mk0 a => if a then fun _ => do mark .disable; pure Race.none_ else fun _ => do mark .enable; pure Race.none_
 | .mk1 a => if a then Race.marked .acquire else Race.marked .releaseMerge
theorem jdw {fn : Func} {k : ExtK} (h : fn.name = jbh k) (ho : fn.origin = "") : Extern.findNext fn = none /\ Extern.find fn = some (Ke k) := by
 unfold Extern.findNext Extern.find;rw [h, ho];cases k
 case mk0 a => cases a <;> exact ⟨by kernel_rfl, by kernel_rfl⟩
 case mk1 a => cases a <;> exact ⟨by kernel_rfl, by kernel_rfl⟩
 all_goals exact ⟨by kernel_rfl, by kernel_rfl⟩
def Kf (P : Program) : ExtK -> Bool
 | .typeOf rt G => G == P.globals.size && Z1 P "internal/reflectlite.rtype" rt
 | .vType rt G => G == P.globals.size && Z1 P "internal/reflectlite.rtype" rt
 | .vIsNil G tab => G == P.globals.size && tab.all fun t => !P.packed t && tyN P t none
 | .vElem G tab => G == P.globals.size && tab.all fun p => !P.packed p.1 && (tyN P p.1 none && (Z2 P p.1 == some p.2.1 && Qc P p.2.1 == some p.2.2))
 | .rElem rt G tab => G == P.globals.size && (Z1 P "internal/reflectlite.rtype" rt && tab.all fun p => !P.packed p.1 && Z2 P p.1 == some p.2)
 | .rCmp G tab => G == P.globals.size && tab.all fun p => !P.packed p.1 && (!P.holdsPacked P.depth p.1 && (match P.info? p.1 with | some i => i.comparable == p.2 | none => false))
 | .rImpl G tab => G == P.globals.size && tab.all fun p => !P.packed p.1.1 && (!P.packed p.1.2 && (!P.methodsOfAPack P.depth p.1.1 && (!P.methodsOfAPack P.depth p.1.2 && (Qc P p.1.2 == some 20 && Z7 P p.1.2 p.1.1 == some p.2))))
 | .rAsg G tab => G == P.globals.size && tab.all fun p => !P.packed p.1.1 && (!P.packed p.1.2 && (!P.methodsOfAPack P.depth p.1.1 && (!P.methodsOfAPack P.depth p.1.2 && (match daP P p.1.2 p.1.1, Z7 P p.1.2 p.1.1 with | some a, some b => (a || b) == p.2 | _, _ => false))))
 | .aKind G tab => G == P.globals.size && tab.all fun p => !P.packed p.1 && Qc P p.1 == some p.2
 | _ => true
theorem jfN (c : UInt8) : ∀ (l : List UInt8) (n : Nat), jhX c.toNat l n = n + Lib.countByte l c := by
 intro l
 induction l with
 | nil => intro n; simp [jhX, Lib.countByte]
 | cons b l ih =>
   intro n;have hb : Nat.beq b.toNat c.toNat = (b == c) := by
     cases h : b == c with
     | true => have := eq_of_beq h; subst this; exact Nat.beq_refl _
     | false =>
       cases h' : Nat.beq b.toNat c.toNat with
       | false => rfl
       | true => have := UInt8.toNat.inj (zN h'); subst this; simp at h
   simp only [jhX, ih, hb, Lib.countByte, List.count_cons];cases b == c <;> simp; omega
theorem jf3 (c : UInt8) : ∀ (l : List UInt8) (k : Nat), jif c.toNat l k = if Lib.indexByte l c = -1 then -1 else Lib.indexByte l c + k := by
 intro l
 induction l with
 | nil => intro k; simp [jif, Lib.indexByte]
 | cons b l ih =>
   intro k;have hb : Nat.beq b.toNat c.toNat = (b == c) := by
     cases h : b == c with
     | true => have := eq_of_beq h; subst this; exact Nat.beq_refl _
     | false =>
       cases h' : Nat.beq b.toNat c.toNat with
       | false => rfl
       | true => have := UInt8.toNat.inj (zN h'); subst this; simp at h
   have hge := Lib.indexByte_ge l c;have e : Lib.indexByte (b :: l) c = if b == c then 0 else if Lib.indexByte l c == -1 then -1 else Lib.indexByte l c + 1 := rfl
   generalize Lib.indexByte (b :: l) c = x at e ⊢;simp only [jif, ih, hb];generalize Lib.indexByte l c = y at e hge ⊢
   cases hbc : b == c with
   | true => rw [hbc] at e; simp at e; subst e; simp
   | false =>
     rw [hbc] at e;simp at e
     by_cases h : y = -1
     . simp [h] at e ⊢; simp [e]
     . simp [h] at e ⊢;subst e;rw [if_neg (by omega)];omega
theorem qB {G : Nat} {h : IVal} {hv : Value} {t : TypeId} (hV : V g h hv) (ht : Vy G h = some t) : hv = .pointer (some ⟨G, t, none⟩) := by
 unfold Vy at ht;split at ht
 . split at ht
   . rename_i e;simp only [zO] at ht;subst ht e;cases hV; rfl
   . cases ht
 . cases ht
theorem yA {h : IVal} {u : Value} (hV : V g (.agg [h]) u) : ∃ hv, u = .agg #[hv] /\ V g h hv := by
 cases hV with
 | agg _ vs hl hv hi =>
   obtain ⟨hv', e⟩ : ∃ x, vs = #[x] := by
     obtain ⟨l⟩ := vs
     match l, hl with
     | [x], _ => exact ⟨x, rfl⟩
   subst e;exact ⟨hv', rfl, hv 0 _ _ rfl rfl⟩
theorem zu {h p q : IVal} {u : Value} (hV : V g (.agg [h, p, q]) u) : ∃ hv pv qv, u = .agg #[hv, pv, qv] /\ V g h hv /\ V g p pv /\ V g q qv := by
 cases hV with
 | agg _ vs hl hv hi =>
   obtain ⟨x, y, z, e⟩ : ∃ x y z, vs = #[x, y, z] := by
     obtain ⟨l⟩ := vs
     match l, hl with
     | [x, y, z], _ => exact ⟨x, y, z, rfl⟩
   subst e;exact ⟨x, y, z, rfl, hv 0 _ _ rfl rfl, hv 1 _ _ rfl rfl, hv 2 _ _ rfl rfl⟩
theorem Yq {r : Bool} {c : IVal} {u : Value} (hV : V g (.pv r [c] 0) u) : ∃ b o cv, u = .pointer (some ⟨b, o, none⟩) /\ V g c cv /\ c.isCell = true /\ g.M b o = some cv /\ un1 c = c := by
 cases hV with
 | pv _ _ _ vs a hs ho hl hv hf hr hm =>
   obtain ⟨cv, e⟩ : ∃ x, vs = [x] := by
     match vs, hl with
     | [x], _ => exact ⟨x, rfl⟩
   subst e;obtain ⟨b, o, sp⟩ := a;simp only at hs;subst hs;exact ⟨b, o, cv, rfl, hv 0 _ _ rfl rfl, (hf c (by simp)).2, by have := hm 0 cv rfl; simpa using this, (hf c (by simp)).1⟩
theorem Xa {r : Bool} {cs : List IVal} {off : Nat} {u : Value} (hV : V g (.pv r cs off) u) : ∃ a, u = .pointer (some a) := by
 cases hV with
 | pv _ _ _ vs a hs ho hl hv hf hr hm => exact ⟨a, rfl⟩
theorem jjL (g : Gh) (rt G : Nat) (t : TypeId) : V g (rtI rt G t) (.iface rt (.agg #[.pointer (some ⟨G, t, none⟩)])) /\ jC (rtI rt G t) (.iface rt (.agg #[.pointer (some ⟨G, t, none⟩)])) = [] := by
 refine ⟨.iface _ _ _ (.agg _ _ rfl (fun i x v hx hv => ?_) (by simp [Zb, IVal.isCell])) ⟨rfl, rfl⟩, rfl⟩
 cases i with
 | zero => simp at hx hv; subst hx hv; exact .prim _ rfl
 | succ i => simp at hx
theorem V5 (z : Sem Value) (f : TypeId -> Addr -> Nat -> Nat -> Sem Value) (v : Value) :
   ReflectliteValue.methodAny z f #[v] = (do match <- ReflectliteValue.partsAny v with | none => z | some (t, a, fl) => f t a fl (fl % 32)) := rfl
theorem V6 (z : Sem Value) (f : TypeId -> Addr -> Nat -> Nat -> Sem Value) (v : Value) :
   ReflectliteValue.method z f #[v] = (do match <- ReflectliteValue.parts v with | none => z | some (t, a, fl) => f t a fl (fl % 32)) := rfl
def vfl (f : Int) : Prop := f = 150 \/ f = 406
theorem JM {t : TypeId} {ad : Addr} {f : Int} (hf : vfl f) : (ReflectliteValue.partsAny (.agg #[.pointer (some ⟨P.globals.size, t, none⟩), .pointer (some ad), .int .u64 f])).run P w = .ok (some (t, ad, f.toNat)) w := by
 have e : ReflectliteValue.partsAny (.agg #[.pointer (some ⟨P.globals.size, t, none⟩), .pointer (some ad), .int .u64 f]) = (do pure (some (<- ofHandle (.pointer (some ⟨P.globals.size, t, none⟩)), ad, f.toNat))) := by
   rcases hf with rfl | rfl <;> rfl
 rw [e];simp [yx, Result.andThen]
theorem Ja {t : TypeId} {ad : Addr} {f : Int} (hf : vfl f) (hp : P.packed t = false) : (ReflectliteValue.parts (.agg #[.pointer (some ⟨P.globals.size, t, none⟩), .pointer (some ad), .int .u64 f])).run P w = .ok (some (t, ad, f.toNat)) w := by
 simp [ReflectliteValue.parts, JM hf, yL hp, Result.andThen]
theorem KR {T : TypeId} {b o : Nat} {c : IVal} {cv : Value} (hT : tyN P T none = true) (hV : V g c cv) (hc : c.isCell = true) (hm : w.cell? ⟨b, o, none⟩ = some cv) : ∃ u, (loadVar T ⟨b, o, none⟩).run P w = .ok u w /\ V g c u := by
 obtain ⟨u, h1, h2, -⟩ := vT (P := P) (w := w) (n := none) (cs := [c]) (vs := [cv]) (b := b) (e := o) (off := 0) (z := c) hT (rS _) (fun i x v hx hv => by
   cases i with
   | zero => simp at hx hv; subst hx hv; exact hV
   | succ i => simp at hx) (by simpa using hc) (fun j v hj => by
   cases j with
   | zero => simp at hj; subst hj; exact hm
   | succ j => simp at hj) rfl
 exact ⟨u, h1, h2⟩
theorem ze {vs : List IVal} {us : List Value} {x : IVal} (e : vs = [x]) (hl : vs.length = us.length) (hv : ∀ (i : Nat) x u, vs[i]? = some x -> us[i]? = some u -> V g x u) : ∃ u, us = [u] /\ V g x u := by
 subst e
 match us, hl with
 | [u], _ => exact ⟨u, rfl, hv 0 _ _ rfl rfl⟩
theorem XK {vs : List IVal} {us : List Value} {x y : IVal} (e : vs = [x, y]) (hl : vs.length = us.length) (hv : ∀ (i : Nat) x u, vs[i]? = some x -> us[i]? = some u -> V g x u) : ∃ u v, us = [u, v] /\ V g x u /\ V g y v := by
 subst e
 match us, hl with
 | [u, v], _ => exact ⟨u, v, rfl, hv 0 _ _ rfl rfl, hv 1 _ _ rfl rfl⟩
theorem qH {α : Type} {p : α -> Bool} {l : List α} {x : α} (h : l.find? p = some x) : x ∈ l /\ p x = true := ⟨List.mem_of_find?_eq_some h, List.find?_some h⟩
theorem iface_inv {t : TypeId} {x : IVal} {u : Value} (hV : V g (.iface t x) u) : ∃ v, u = .iface t v /\ V g x v /\ qY x := by
 cases hV with
 | iface _ _ v hv hf => exact ⟨v, rfl, hv, hf⟩
theorem KM (f : TypeId -> Sem Value) (r : Value) : ReflectliteType.method f #[r] = (do f (<- ReflectliteType.ofRtype r)) := rfl
theorem KJ (n : String) (f : TypeId -> TypeId -> Sem Bool) (r v : Value) (u : TypeId) : ReflectliteType.relation n f #[r, .iface u v] = (do pure (.bool (<- f (<- ReflectliteType.ofRtype v) (<- ReflectliteType.ofRtype r)))) := rfl
theorem jhN (f : TypeId -> Sem Value) (h : Value) : ReflectliteType.abiMethod f #[h] = (do let t <- ofHandle h; noPack "a method of abi.Type" t; f t) := rfl
theorem jfX {k : ExtK} (hk : Kf P k = true) {vs : List IVal} {us : List Value} (hl : vs.length = us.length) (hv : ∀ (i : Nat) x u, vs[i]? = some x -> us[i]? = some u -> V g x u)
   (hm : ∀ b o c, g.M b o = some c -> w.cell? ⟨b, o, none⟩ = some c) {v : IVal} (h : jcY k vs = some v) : ∃ u, (Ke k us.toArray).run P w = .ok u w /\ V g v u /\ jC v u = [] := by
 unfold jcY at h;split at h
 . -- typeOf
   rename_i rt G t x;simp only [zO] at h;subst h;simp only [Kf, zA, beq_iff_eq] at hk;obtain ⟨rfl, hk⟩ := hk;obtain ⟨u, rfl, hV⟩ := ze rfl hl hv;obtain ⟨v, rfl, -, -⟩ := iface_inv hV;exact ⟨_, JB hk, jjL g rt _ t⟩
 . -- vType
   rename_i rt G hd r cs off f;split at h
   . rename_i t ht;split at h
     . rename_i hf;simp only [zO] at h;subst h;simp only [Kf, zA, beq_iff_eq] at hk;obtain ⟨rfl, hk⟩ := hk;obtain ⟨u, rfl, hV⟩ := ze rfl hl hv;obtain ⟨hv', pv, qv, rfl, v1, v2, v3⟩ := zu hV;have := qB v1 ht; subst this;obtain ⟨ad, rfl⟩ := Xa v2;cases v3;refine ⟨_, ?_, jjL g rt _ t⟩;simp only [Ke];rw [V5];simp only [Sem.run_bind, JM (.inl hf), Result.andThen, JB hk]
     . cases h
   . cases h
 . -- vIsNil
   rename_i G tab hd r c f;split at h
   . rename_i t ht;split at h
     . rename_i hf;obtain ⟨hf, hc⟩ := hf;simp only [Kf, zA, beq_iff_eq, rG, t9] at hk;obtain ⟨rfl, hk⟩ := hk;obtain ⟨hp, hT⟩ := hk t (List.contains_iff_mem.1 hc);obtain ⟨u, rfl, hV⟩ := ze rfl hl hv;obtain ⟨hv', pv, qv, rfl, v1, v2, v3⟩ := zu hV;have := qB v1 ht; subst this;obtain ⟨b, o, cv, rfl, vc, hcell, hM, -⟩ := Yq v2;cases v3;obtain ⟨lu, hlu, vlu⟩ := KR (w := w) hT vc hcell (hm _ _ _ hM);have e : ∀ p, lu = .pointer p -> (Ke (.vIsNil P.globals.size tab) [Value.agg #[.pointer (some ⟨P.globals.size, t, none⟩), .pointer (some ⟨b, o, none⟩), .int .u64 f]].toArray).run P w = .ok (.bool p.isNone) w := by
         intro p hp';simp only [Ke];rw [V6];subst hf hp';simp only [Sem.run_bind, Ja (.inl rfl) hp, Result.andThen, ReflectliteValue.isNil];simp [hlu, Result.andThen];cases p <;> rfl
       split at h
       . simp only [zO] at h; subst h;cases vlu;exact ⟨_, e _ rfl, .bool _, rfl⟩
       . simp only [zO] at h; subst h;cases vlu;exact ⟨_, e _ rfl, .bool _, rfl⟩
       . simp only [zO] at h; subst h;obtain ⟨ad, rfl⟩ := Xa vlu;exact ⟨_, e _ rfl, .bool _, rfl⟩
       . cases h
     . cases h
   . cases h
 . -- vElem
   rename_i G tab hd r c f;split at h
   . rename_i t ht;split at h
     . rename_i hf;split at h
       . rename_i t' e k hfind;split at h
         . rename_i id off;simp only [zO] at h;subst h;simp only [Kf, zA, beq_iff_eq, rG, t9] at hk;obtain ⟨rfl, hk⟩ := hk;obtain ⟨hmem, he⟩ := qH hfind;have := eq_of_beq he; subst this;obtain ⟨hp, hT, hE, hK⟩ := hk _ hmem;obtain ⟨u, rfl, hV⟩ := ze rfl hl hv;obtain ⟨hv', pv, qv, rfl, v1, v2, v3⟩ := zu hV;have := qB v1 ht; subst this;obtain ⟨b, o, cv, rfl, vc, hcell, hM, -⟩ := Yq v2;cases v3;obtain ⟨lu, hlu, vlu⟩ := KR (w := w) hT vc hcell (hm _ _ _ hM);subst hf
           cases vlu with
           | ptr _ _ b' hb' =>
           refine ⟨.agg #[.pointer (some ⟨P.globals.size, e, none⟩), .pointer (some ⟨b', off, none⟩), .int .u64 (k + 384 : Nat)], ?_, .agg _ _ rfl (fun i x v hx hv' => ?_) (by simp [Zb, IVal.isCell]), rfl⟩
           . simp only [Ke];rw [V6];simp only [Sem.run_bind, Ja (.inl rfl) hp, Result.andThen, ReflectliteValue.elem];have e1 : ((150 : Int).toNat % 32 != 20 && (150 : Int).toNat % 32 != 22) = false := rfl;simp only [e1, tF, if_false, Sem.run_bind, hlu, Result.andThen, ZA hE];show (ReflectliteValue.mk e ⟨b', off, none⟩ ReflectliteValue.flagAddr).run P w = _;simp [ReflectliteValue.mk, JA, J6 hK, Result.andThen, ReflectliteValue.flagIndir, ReflectliteValue.flagAddr];omega
           . match i with
             | 0 => simp at hx hv'; subst hx hv'; exact .prim _ rfl
             | 1 => simp at hx hv'; subst hx hv'; exact .ptr _ _ _ hb'
             | 2 => simp at hx hv'; subst hx hv'; exact .int _ _
             | i + 3 => simp at hx
         . cases h
       . cases h
     . cases h
   . cases h
 . -- rElem
   rename_i rt G tab hd;split at h
   . rename_i t ht;split at h
     . rename_i u e hf;simp only [zO] at h;subst h;simp only [Kf, zA, beq_iff_eq, rG, t9] at hk;obtain ⟨rfl, hcut, hk⟩ := hk;obtain ⟨hmem, he⟩ := qH hf;have := eq_of_beq he; subst this;obtain ⟨hp, hE⟩ := hk _ hmem;obtain ⟨u', rfl, hV⟩ := ze rfl hl hv;obtain ⟨hv', rfl, v1⟩ := yA hV;have := qB v1 ht; subst this;refine ⟨_, ?_, jjL g rt _ e⟩;simp only [Ke];rw [KM];simp only [Sem.run_bind, ql hp, Result.andThen, ReflectliteType.elem, ZA hE, JB hcut]
     . cases h
   . cases h
 . -- rCmp
   rename_i G tab hd;split at h
   . rename_i t ht;split at h
     . rename_i u b hf;simp only [zO] at h;subst h;simp only [Kf, zA, beq_iff_eq, rG, t9] at hk;obtain ⟨rfl, hk⟩ := hk;obtain ⟨hmem, he⟩ := qH hf;have := eq_of_beq he; subst this;obtain ⟨hp, hH, hE⟩ := hk _ hmem;split at hE
       . rename_i i hi;have hE := eq_of_beq hE;simp only at hE;subst hE;obtain ⟨u', rfl, hV⟩ := ze rfl hl hv;obtain ⟨hv', rfl, v1⟩ := yA hV;have := qB v1 ht; subst this;refine ⟨.bool i.comparable, ?_, .bool _, rfl⟩;simp only [Ke];rw [KM];simp only [Sem.run_bind, ql hp, Result.andThen, Qh hH, typeInfo, run_program, hi, Sem.run_pure]
       . cases hE
     . cases h
   . cases h
 . -- rImpl
   rename_i G tab hd u0 hd';split at h
   . rename_i t t' ht ht';split at h
     . rename_i p b hf;simp only [zO] at h;subst h;simp only [Kf, zA, beq_iff_eq, rG, t9] at hk;obtain ⟨rfl, hk⟩ := hk;obtain ⟨hmem, he⟩ := qH hf;simp only [zA, beq_iff_eq] at he;obtain ⟨e1, e2⟩ := he;subst e1 e2;obtain ⟨hp, hp', hM, hM', hK, hI⟩ := hk _ hmem;obtain ⟨x, y, rfl, hV, hV'⟩ := XK rfl hl hv;obtain ⟨hv1, rfl, v1⟩ := yA hV;obtain ⟨y', rfl, hV', -⟩ := iface_inv hV';obtain ⟨hv2, rfl, v2⟩ := yA hV';have := qB v1 ht; subst this;have := qB v2 ht'; subst this;refine ⟨.bool b, ?_, .bool _, rfl⟩;simp only [Ke];show (ReflectliteType.relation _ _ #[_, _]).run P w = _;rw [KJ];have e20 : ((20 : Nat) != 20) = false := rfl;have hrun : (ReflectliteType.implements_ p.2 p.1).run P w = .ok b w := by
         simp only [ReflectliteType.implements_, Sem.run_bind, J6 hK, Result.andThen, e20, tF, if_false, qk hM, yL hp', Vn hI hM' hM]
       simp only [Sem.run_bind, ql hp, ql hp', Result.andThen, hrun, Sem.run_pure]
     . cases h
   . cases h
 . -- rAsg
   rename_i G tab hd u0 hd';split at h
   . rename_i t t' ht ht';split at h
     . rename_i p b hf;simp only [zO] at h;subst h;simp only [Kf, zA, beq_iff_eq, rG, t9] at hk;obtain ⟨rfl, hk⟩ := hk;obtain ⟨hmem, he⟩ := qH hf;simp only [zA, beq_iff_eq] at he;obtain ⟨e1, e2⟩ := he;subst e1 e2;obtain ⟨hp, hp', hM, hM', hI⟩ := hk _ hmem;split at hI
       . rename_i b1 b2 hd1 hd2;have hI := eq_of_beq hI;simp only at hI;subst hI;obtain ⟨x, y, rfl, hV, hV'⟩ := XK rfl hl hv;obtain ⟨hv1, rfl, v1⟩ := yA hV;obtain ⟨y', rfl, hV', -⟩ := iface_inv hV';obtain ⟨hv2, rfl, v2⟩ := yA hV';have := qB v1 ht; subst this;have := qB v2 ht'; subst this;refine ⟨.bool (b1 || b2), ?_, .bool _, rfl⟩;simp only [Ke];show (ReflectliteType.relation _ _ #[_, _]).run P w = _;rw [KJ];have hrun : (ReflectliteType.assignableTo p.2 p.1).run P w = .ok (b1 || b2) w := by
           simp only [ReflectliteType.assignableTo];split
           . simp only [Sem.run_bind, qk hM, qk hM', Result.andThen, jcq hd1, Vn hd2 hM' hM, Sem.run_pure]
           . simp only [Sem.run_bind, Result.andThen, jcq hd1, Vn hd2 hM' hM, Sem.run_pure]
         simp only [Sem.run_bind, ql hp, ql hp', Result.andThen, hrun, Sem.run_pure]
       . cases hI
     . cases h
   . cases h
 . -- aKind
   rename_i G tab hd;split at h
   . rename_i t ht;split at h
     . rename_i u n hf;simp only [zO] at h;subst h;simp only [Kf, zA, beq_iff_eq, rG, t9] at hk;obtain ⟨rfl, hk⟩ := hk;obtain ⟨hmem, he⟩ := qH hf;have := eq_of_beq he; subst this;obtain ⟨hp, hK⟩ := hk _ hmem;obtain ⟨u', rfl, hV⟩ := ze rfl hl hv;have := qB hV ht; subst this;refine ⟨.int .u8 n, ?_, .int _ _, rfl⟩;simp only [Ke];rw [jhN];simp only [Sem.run_bind, yx, yL hp, Result.andThen, J6 hK, Sem.run_pure]
     . cases h
   . cases h
 . -- cntS
   rename_i sb c;simp only [zO] at h;subst h;obtain ⟨u, v, rfl, hV, hW⟩ := XK rfl hl hv
   cases hV with
   | str bs =>
   cases hW;refine ⟨_, Lib.run_countString bs c w, ?_⟩;have e : c.toNat % 256 = c.toNat.toUInt8.toNat := by simp
   rw [e, jfN, t7];exact ⟨.int _ _, rfl⟩
 . -- idxBS
   rename_i sb c;simp only [zO] at h;subst h;obtain ⟨u, v, rfl, hV, hW⟩ := XK rfl hl hv
   cases hV with
   | str bs =>
   cases hW;refine ⟨_, Lib.run_indexByteString bs c w, ?_⟩;have e : c.toNat % 256 = c.toNat.toUInt8.toNat := by simp
   rw [e, jf3];have e2 : (if Lib.indexByte bs.data.toList c.toNat.toUInt8 = -1 then (-1 : Int) else Lib.indexByte bs.data.toList c.toNat.toUInt8 + (0 : Nat)) = Lib.indexByte bs.data.toList c.toNat.toUInt8 := by
     split <;> simp_all
   rw [e2];exact ⟨.int _ _, rfl⟩
 . -- mk0
   rename_i a;simp only [zO] at h;subst h;refine ⟨.tuple #[], ?_, .tup _ _ rfl (by simp) (by simp), rfl⟩;cases a <;> rfl
 . -- mk1
   rename_i a id off;simp only [zO] at h;subst h;obtain ⟨u, rfl, hV⟩ := ze rfl hl hv;obtain ⟨b, rfl, -⟩ := hV.ptr_inv;refine ⟨.tuple #[], ?_, .tup _ _ rfl (by simp) (by simp), rfl⟩;cases a <;> rfl
 . cases h
end Go.Idl
namespace Go.Idl
open Go.Extern Go.Extern.Rtype
variable [Globs]
variable {P : Program} {o : Oper} {a : Act} {g : Gh} {O : List Nat} {w : World} {s : St} {res : Res} {cf : jD}
def jee (P : Program) (t : TypeId) (ptr : Bool) : Bool :=
 match P.underlying t with
 | some (.pointer _) => ptr
 | some _ => !ptr
 | none => false
theorem yZ {t : TypeId} {ptr : Bool} {v : Value} {wr : Option String} (h : jee P t ptr = true) : (receiverAt t (.val v) ptr wr).run P w = .ok v w := by
 unfold jee at h;split at h
 . rename_i e hu;subst h;simp [receiverAt, run_underlying hu, Result.andThen, Place.get]
 . rename_i d hne hu
   cases ptr with
   | true => simp at h
   | false =>
     simp only [receiverAt, Sem.run_bind, run_underlying hu, Result.andThen]; rfl
 . cases h
def KI (P : Program) (t : TypeId) (name : String) (f : FuncId) (rk : RecvK) : Bool :=
 match P.info? t with
 | some i => match i.methods.find? (fun m => m.name == name) with
   | some m => match m.func with
     | some (f', ptr) => f == f' && (match rk, m.path.toList with
       | .same, [] => jee P t ptr
       | .fld off n, [s] => !s.deref && (match P.underlying s.struct with
         | some (.struct fs) => match fs[s.index]? with
           | some fd => fd.offset == off && (tyN P fd.type n && jee P fd.type ptr)
           | none => false
         | _ => false)
       | _, _ => false)
     | none => false
   | none => false
 | none => false
theorem QC {fuel : Nat} {t : TypeId} {name : String} {f : FuncId} {rk : RecvK} {x y : IVal} {v : Value} (h : KI P t name f rk = true) (hV : V g x v) (hf : qY x) (hy : vh rk x = some y) :
   ∃ u, (Go.method (fuel + 1) t v name).run P w = .ok (f, u) w /\ V g y u /\ jC y u = [] := by
 unfold KI at h;split at h
 . rename_i i hi;split at h
   . rename_i m hm;split at h
     . rename_i f' ptr hfn;simp only [zA, beq_iff_eq] at h;obtain ⟨rfl, h⟩ := h;split at h
       . rename_i hp;simp only [vh, zO] at hy;subst hy;refine ⟨v, ?_, hV, jE hf v⟩;simp only [Go.method, typeInfo, Sem.run_bind, run_program, Result.andThen, hi, Sem.run_pure, hm, hp, follow, hfn, yZ h]
       . rename_i off n st hp;simp only [zA, t9] at h;obtain ⟨hd, h⟩ := h;split at h
         . rename_i fs hs;split at h
           . rename_i fd hfd;simp only [zA, beq_iff_eq] at h;obtain ⟨ho, hT, hr⟩ := h;subst ho
             cases x with
             | agg cs =>
               simp only [vh] at hy;obtain ⟨vs, rfl, hl', hv, hc⟩ := hV.agg_inv;obtain ⟨u, hu, hVu, hou⟩ := z9 (P := P) (w := w) hT hl' hv hc hy;refine ⟨u, ?_, hVu, ?_⟩
               . simp only [Go.method, typeInfo, Sem.run_bind, run_program, Result.andThen, hi, Sem.run_pure, hm, hp, follow, run_underlying hs, hfd, hd, tF, if_false, hu, hfn, yZ hr]
               . have := jE hf (.agg vs);simp only [jC, yg] at this;rw [this] at hou;exact List.sublist_nil.1 hou
             | _ => simp [vh] at hy
           . cases h
         . cases h
       . cases h
     . cases h
   . cases h
 . cases h
theorem Kg (x : Value) (us : Array Value) : (#[x] ++ us).extract 1 (#[x] ++ us).size = us := by
 apply Array.ext';simp
def jac (P : Program) (f : FuncId) (k : ExtK) : Bool := match P.funcs[f]? with
 | some fn => fn.name == jbh k && (fn.origin == "" && (fn.body.isNone && Kf P k))
 | none => false
theorem jcr {f : FuncId} {k : ExtK} (h : jac P f k = true) {vs : List IVal} {us : Array Value} (hl : vs.length = us.toList.length) (hv : ∀ (i : Nat) x u, vs[i]? = some x -> us.toList[i]? = some u -> V g x u)
   (hm : ∀ b o c, g.M b o = some c -> w.cell? ⟨b, o, none⟩ = some c) {v : IVal} (he : jcY k vs = some v) : ∃ u, (callFunc f us).run P w = .ok (.value u) w /\ V g v u /\ jC v u = [] := by
 unfold jac at h;split at h
 . rename_i fn hf;simp only [zA, beq_iff_eq] at h;obtain ⟨h1, h2, h3, h4⟩ := h;obtain ⟨e1, e2⟩ := jdw h1 h2;obtain ⟨u, q1, q2, q3⟩ := jfX (w := w) h4 hl hv hm he;refine ⟨u, ?_, q2, q3⟩;rw [run_callFunc_extern hf (by rw [h1]; cases k <;> first | rfl | (rename_i a; cases a <;> rfl)) h3 e1 e2];have e : us.toList.toArray = us := by simp
   rw [e] at q1;rw [q1]; rfl
 . cases h
theorem jgN {k : ExtK} {c : Call} {f : FuncId} (hop : o.op = .call c) (hc : c.callee = .value (.func f)) (h : jac P f k = true) : qZ P o a (.ext k) c.args.toList := by
 intro g w vs v hl hv hm he;obtain ⟨u, q1, q2, q3⟩ := jcr (w := w) (us := c.args.map a.eval) h (by simpa using hl) (fun i x u hx hu => by
   simp only [Array.toList_map, rM, rW] at hu;obtain ⟨r, hr, rfl⟩ := hu;exact hv i x r hx hr) hm he
 refine ⟨u, ?_, q2, q3⟩;simp only [execOp, hop, resolve, hc, Act.eval, Deferred.ofValue, Sem.run_bind, Sem.run_pure, Result.andThen, invoke];simpa using q1
theorem jd7 {tab : List (TypeId × ExtK × RecvK)} {c : Call} {r : Operand} {name : String} (hop : o.op = .call c) (hc : c.callee = .invoke r name)
   (h : ∀ p ∈ tab, ∃ f, KI P p.1 name f p.2.2 = true /\ jac P f p.2.1 = true) : qZ P o a (.invX tab) (r :: c.args.toList) := by
 intro g w vs v hl hv hm he
 cases vs with
 | nil => simp [purI] at he
 | cons x0 vs =>
 cases x0 with
 | iface t x =>
   simp only [purI] at he;split at he
   . rename_i t' k rk hfind;split at he
     . rename_i y hy;obtain ⟨hmem, ht⟩ := qH hfind;have := eq_of_beq ht; subst this;obtain ⟨f, hr, hx⟩ := h _ hmem;obtain ⟨xv, hxv, hVx, hfx⟩ := iface_inv (hv 0 _ r rfl rfl);obtain ⟨u, q1, q2, q3⟩ := QC (w := w) (fuel := P.types.size + (Made.depth - 1)) hr hVx hfx hy;obtain ⟨u', p1, p2, p3⟩ := jcr (w := w) (us := #[u] ++ c.args.map a.eval) hx (by simpa using hl) (fun i x u' hx hu => by
         cases i with
         | zero => simp at hx hu; subst hx hu; exact q2
         | succ i =>
           simp only [List.getElem?_cons_succ] at hx;have hu' : (c.args.toList.map a.eval)[i]? = some u' := by simpa using hu
           simp only [rM, rW] at hu';obtain ⟨r', hr', rfl⟩ := hu';exact hv (i + 1) x r' (by rw [List.getElem?_cons_succ]; exact hx) (by rw [List.getElem?_cons_succ]; exact hr')) hm he
       refine ⟨u', ?_, p2, p3⟩;have hfu : P.types.size + Made.depth = P.types.size + (Made.depth - 1) + 1 := rfl;have harg : (#[Value.iface t' xv] ++ c.args.map a.eval)[0]? = some (.iface t' xv) := by rw [Array.getElem?_append_left (by simp)]; rfl
       simp only [execOp, hop, resolve, hc, Sem.run_bind, Sem.run_pure, Result.andThen, invoke, hxv];rw [harg];simp only [Kg, callMethod, Sem.run_bind, run_program, Result.andThen, hfu, q1];exact p1
     . cases he
   . cases he
 | _ => simp [purI] at he
end Go.Idl
namespace Go.Idl
open Go.Extern Go.Extern.Rtype
variable [Globs]
variable {P : Program} {o : Oper} {a : Act} {g : Gh} {O : List Nat} {w : World} {s : St} {res : Res} {cf : jD}
theorem jb3 {tab : List (TypeId × FuncId × RecvK)} {c : Call} {r : Operand} {name : String} {x : Opd} {xs : List Opd} {C0 : XH} (hcf : CallOK P C0 cf) (hC : g.C = C0) (hop : o.op = .call c) (hc : c.callee = .invoke r name)
   (hr : jg x r = true) (hx : jA xs c.args.toList = true) (ht : ∀ p ∈ tab, KI P p.1 name p.2.1 p.2.2 = true) (hs : stepOp cf (.inv tab x xs) s = some res)
   (hl : WT s.ts a.tmps) (hR : R g O (s.ts.roots a.tmps) s.σ w) : OpRes P o a g O w s res := by
 simp only [stepOp] at hs;split at hs
 . rename_i t v ts h;split at hs
   . rename_i t' f rk hfind;split at hs
     . rename_i y hy;split at hs
       . rename_i vs ts' h';obtain ⟨hmem, he⟩ := qH hfind;have := eq_of_beq he; subst this;obtain ⟨h1, h2⟩ := je (l := []) hr h hl hR;obtain ⟨h3, h4, h5⟩ := jU (l := [(.iface t' v, a.eval r)]) hx h' h2 h1;have hV : V g (.iface t' v) (a.eval r) := h3.vals (.iface t' v, a.eval r) (by simp);obtain ⟨xv, hxv, hVx, hfx⟩ := iface_inv hV;obtain ⟨u, q1, q2, q3⟩ := QC (w := w) (fuel := P.types.size + (Made.depth - 1)) (ht _ hmem) hVx hfx hy;have hbase : R g O (vs.zip (c.args.toList.map a.eval) ++ ts'.roots a.tmps) s.σ w := by
           have hp : (vs.zip (c.args.toList.map a.eval) ++ ([(IVal.iface t' v, a.eval r)] ++ ts'.roots a.tmps)).Perm ((IVal.iface t' v, a.eval r) :: (vs.zip (c.args.toList.map a.eval) ++ ts'.roots a.tmps)) := XC;exact (h3.perm hp).drop
         refine Jw (rargs := #[u] ++ c.args.map a.eval) hcf hC (fun c' h => by rw [hop] at h; cases h) (fun hf => ?_) (by simp at h5 ⊢; omega) ?_ h4 hs
         . obtain ⟨fn, f1, f2, f3⟩ := hf;have hfu : P.types.size + Made.depth = P.types.size + (Made.depth - 1) + 1 := rfl;have harg : (#[Value.iface t' xv] ++ c.args.map a.eval)[0]? = some (.iface t' xv) := by rw [Array.getElem?_append_left (by simp)]; rfl
           simp only [execOp, hop, resolve, hc, Sem.run_bind, Sem.run_pure, Result.andThen, invoke, hxv];rw [harg];simp only [Kg, callMethod, Sem.run_bind, run_program, Result.andThen, hfu, q1];simp [callFunc, f1, f2, f3]
         . have e : (y :: vs).zip (#[u] ++ c.args.map a.eval).toList = (y, u) :: vs.zip (c.args.toList.map a.eval) := by simp
           rw [e];exact hbase.push q2 q3
       . cases hs
     . cases hs
   . cases hs
 . cases hs
def jgh (P : Program) (f : FuncId) (G : Nat) (tab : List (TypeId × Nat)) : Bool := match P.funcs[f]? with
 | some fn => fn.name == "internal/reflectlite.ValueOf" && (fn.origin == "" && (fn.body.isNone && (G == P.globals.size && tab.all fun p => Qc P p.1 == some p.2)))
 | none => false
theorem jeF {fn : Func} (h : fn.name = "internal/reflectlite.ValueOf") (ho : fn.origin = "") : Extern.findNext fn = none /\ Extern.find fn = some (fun args => ReflectliteValue.unpack (args.getD 0 (.tuple #[]))) := by
 unfold Extern.findNext Extern.find;rw [h, ho];exact ⟨by kernel_rfl, by kernel_rfl⟩
theorem jha {G : Nat} {tab : List (TypeId × Nat)} {c : Call} {f : FuncId} {r : Operand} {x : Opd} (hop : o.op = .call c) (hc : c.callee = .value (.func f)) (ha : c.args = #[r]) (hf : jgh P f G tab = true) (hx : jg x r = true)
   (hs : stepOp cf (.vOf G tab x) s = some res) (hl : WT s.ts a.tmps) (hR : R g O (s.ts.roots a.tmps) s.σ w) : SimV P o a g O w s res := by
 unfold jgh at hf;split at hf
 . rename_i fn hfn;simp only [zA, beq_iff_eq, rG] at hf;obtain ⟨f1, f2, f3, f4, f5⟩ := hf;obtain ⟨e1, e2⟩ := jeF f1 f2;simp only [stepOp] at hs;split at hs
   . rename_i t v ts h;split at hs
     . rename_i t' k hfind;split at hs
       . rename_i hcell;simp only [rv, zO] at hs;subst hs;obtain ⟨hmem, he⟩ := qH hfind;have := eq_of_beq he; subst this;have hk := f5 _ hmem;obtain ⟨h1, h2⟩ := je (l := []) hx h hl hR;obtain ⟨xv, hxv, hVx, hfx⟩ := iface_inv h1.head;subst f4;have hrun : (execOp a.eval o).run P w = .ok (.value (.agg #[.pointer (some ⟨P.globals.size, t', none⟩), .pointer (some ⟨w.heap.size, 0, none⟩), .int .u64 (k + 128 : Nat)])) (w.alloc (.cells xv.cells t')) := by
           have : (callFunc f #[.iface t' xv]).run P w = .ok (.value (.agg #[.pointer (some ⟨P.globals.size, t', none⟩), .pointer (some ⟨w.heap.size, 0, none⟩), .int .u64 (k + 128 : Nat)])) (w.alloc (.cells xv.cells t')) := by
             rw [run_callFunc_extern hfn (by rw [f1]; rfl) f3 e1 e2];show ((ReflectliteValue.unpack (.iface t' xv)).run P w).andThen _ = _;simp [ReflectliteValue.unpack, ReflectliteValue.mk, vz, JA, J6 hk, Result.andThen, ReflectliteValue.flagIndir]
           simp only [execOp, hop, resolve, hc, Act.eval, Deferred.ofValue, Sem.run_bind, Sem.run_pure, Result.andThen, invoke, ha];have e : (#[] : Array Value) ++ (#[r].map a.eval) ++ #[] = #[.iface t' xv] := by simp [<- hxv]
           simpa [<- hxv] using this
         obtain ⟨q1, q2⟩ := hVx.cells;obtain ⟨g', hR', hg, hι⟩ := h1.drop.newPv (cs := v.cells.map un1) (vs := xv.cells) (rf := ext v.cells) (el := t') (by simpa using q1) (fun i y u hy hu => by
             simp only [rM, rW] at hy;obtain ⟨y', hy', rfl⟩ := hy;exact (q2 i y' u hy' hu).un1) (fun y hy => by
             simp only [tW] at hy;obtain ⟨y', hy', rfl⟩ := hy;exact ⟨vk y', by rw [qf]; exact List.all_eq_true.1 hcell y' hy'⟩) (fun hrf y hy => by
             simp only [tW] at hy;obtain ⟨y', hy', rfl⟩ := hy;simp only [ext, Bool.not_eq_false', rG] at hrf;have := hrf y' hy';have hcell := List.all_eq_true.1 hcell y' hy';cases y' <;> simp_all [nr2, nr1, nr0, un1, IVal.isCell])
         refine ⟨rfl, _, _, _, hrun, rfl, g', O, [], hg, ?_, h2, rfl, Keep.refl _⟩;refine hR'.swap (fun hVp => ?_) (List.nil_sublist _);refine .agg _ _ rfl (fun i x v hx hv' => ?_) (by simp [Zb, IVal.isCell])
         match i with
         | 0 => simp at hx hv'; subst hx hv'; exact .prim _ rfl
         | 1 => simp at hx hv'; subst hx hv'; exact hVp
         | 2 => simp at hx hv'; subst hx hv'; exact .int _ _
         | i + 3 => simp at hx
       . cases hs
     . cases hs
   . cases hs
 . cases hf
theorem R.putAt {l : jG} {σ : List IObj} {v : IVal} {uv : Value} {id off b : Nat} {cs : List IVal} (hroot : R g O ((v, uv) :: l) σ w) (hι : g.ι[id]? = some (Blk.bk b)) (hσ : σ[id]? = some (.cells cs)) (hput : off + v.cells.length <= cs.length) (hcell : v.cells.all IVal.isCell = true) :
   ∃ w', (storeCells ⟨b, off, none⟩ uv.cells.toList).run P w = .ok () w' /\ R g O ((undefI, undef) :: l) (σ.set id (.cells (putCells cs off v.cells))) w' /\ Grow O g w O g w' /\ Keep σ (σ.set id (.cells (putCells cs off v.cells))) [(id, !(v.cells.all nr1))] := by
 obtain ⟨c, el, fz, hh, hnf, hsz, hc⟩ := hroot.objs id b _ hι hσ;have hV := hroot.head;obtain ⟨p1, p2⟩ := hV.cells;have hun : uv.cells.toList.length = v.cells.length := by rw [Array.length_toList, <- p1]
 have hput' : off + uv.cells.toList.length <= c.toList.length := by
   rw [hun];have h0 : c.toList.length = c.size := by simp
   omega
 have hones : ∀ u ∈ uv.cells.toList, u.oneCell' = true := by
   intro u hu;obtain ⟨j, hj⟩ := ju hu;have hj' : uv.cells[j]? = some u := by simpa using hj
   obtain ⟨x, hx⟩ : ∃ x, v.cells[j]? = some x := by
     have := (Array.getElem?_eq_some_iff.1 hj').1;exact ⟨v.cells[j]'(by omega), by simp⟩
   have hVj := p2 j x u hx hj';exact vu (by rw [<- hVj.isCell]; exact List.all_eq_true.1 hcell x (zM hx))
 let row := (c.toList.take off ++ uv.cells.toList ++ c.toList.drop (off + uv.cells.toList.length)).toArray
 have hst : (storeCells ⟨b, off, none⟩ uv.cells.toList).run P w = .ok () (w.setRow b row) := by
   have := ke P b off el fz uv.cells.toList 0 c w hh hnf (by simpa using hput') hones;simpa [row] using this
 have hrow : (w.setRow b row).heap[b]? = some (.cells row el fz) := setRow_heap w b c row el _ hh;have hOB : OBJ g (w.setRow b row) b (.cells (putCells cs off v.cells)) := by
   refine ⟨row, el, fz, hrow, hnf.of_size (by simp [row]; simp at hput'; omega), ?_, fun j x u hxj huj => ?_⟩
   . rw [kQ hput]; simp [row]; simp at hput' hun; omega
   . rw [kP hput] at hxj;have huj' : (c.toList.take off ++ uv.cells.toList ++ c.toList.drop (off + uv.cells.toList.length))[j]? = some u := by simpa [row] using huj
     rw [J4 hput', hun] at huj';split at hxj
     . rename_i hj;rw [if_pos hj] at huj';have huj'' : uv.cells[j - off]? = some u := by simpa using huj'
       exact ⟨p2 _ _ _ hxj huj'', List.all_eq_true.1 hcell x (zM hxj)⟩
     . rename_i hj;rw [if_neg hj] at huj';exact hc j x u hxj (by simpa using huj')
 have hf := kU w b row;have hR' := hroot.upd (y := undefI) (u := undef) (id := id) (b := b) (ob := .cells cs) (ob' := .cells (putCells cs off v.cells)) (w' := w.setRow b row) (j5 g) hι hσ (by simp) (fun k hk => setRow_other w b k row hk) hf.2.2.2 (fun c' el' fz' hc' => by
   rw [hh] at hc'; cases hc';exact ⟨row, el, hrow, by simp [row]; simp at hput'; omega⟩) hOB (by
   simp only [ky, jM, hh, hrow];obtain ⟨A, C, e1, e2⟩ := KE (cs := cs) (ws := v.cells) (c := c.toList) (us := uv.cells.toList) (off := off) (by simpa using hsz) (by rw [hun]) hput;rw [show row.toList = c.toList.take off ++ uv.cells.toList ++ c.toList.drop (off + uv.cells.toList.length) from rfl, e1, e2, zU hV hcell];show SubP (b :: (A ++ jC v uv ++ C)) (jC v uv ++ b :: (A ++ _ ++ C));refine SubP.perm_right (List.perm_middle.symm) ?_;refine SubP.append_left [b] ?_;refine SubP.perm_left (a := jC v uv ++ (A ++ C)) ?_ ?_
   . rw [<- zS]; exact List.perm_append_comm.append_right C
   . refine SubP.append_left _ (SubP.of_sub ?_);rw [zS];exact List.Sublist.append (.refl _) (List.sublist_append_right _ _))
 refine ⟨_, hst, hR', ?_, Keep.set fun m hid hm ho => ?_⟩
 . exact Grow.of_setRow g w (hroot.sub b (rZ _ (jY hι hσ (by simp [ky])))) _ (fun k hk => setRow_other w b k row hk) hf.2.2.2 hf.1 hf.2.1 hf.2.2.1
 . refine J9 hput (ho _ hσ) (fun x hx => ?_);obtain ⟨j, hj⟩ := ju hx;obtain ⟨u, hu⟩ := jV p1 hj;have hVx := p2 j x u hj hu
   by_cases hnr : v.cells.all nr1 = true
   . exact hVx.norl m (kp (qK (List.all_eq_true.1 hnr x hx)))
   . exact absurd (hm (by simpa using hnr)) (by omega)
def jbz (P : Program) (f : FuncId) (G : Nat) (tab : List TypeId) : Bool := match P.funcs[f]? with
 | some fn => fn.name == "(internal/reflectlite.Value).Set" && (fn.origin == "" && (fn.body.isNone && (G == P.globals.size && tab.all fun t => !P.packed t && tyN P t none)))
 | none => false
theorem jcM {fn : Func} (h : fn.name = "(internal/reflectlite.Value).Set") (ho : fn.origin = "") : Extern.findNext fn = none /\ Extern.find fn = some ReflectliteValue.set := by
 unfold Extern.findNext Extern.find;rw [h, ho];exact ⟨by kernel_rfl, by kernel_rfl⟩
theorem kB (v x : Value) : ReflectliteValue.set #[v, x] = (do
   let (some (dst, a, fl), some (src, b, _)) := (<- ReflectliteValue.parts v, <- ReflectliteValue.parts x)
     | unsupported (.noEntry "extern/(internal/reflectlite.Value).Set.zeroValue")
   if fl / ReflectliteValue.flagAddr % 2 == 0 then unsupported (.noEntry "extern/(internal/reflectlite.Value).Set.unaddressable")
   let val <- loadVar src b
   if <- directlyAssignable dst src then storeVar dst a val
   else if <- implements dst src then
     if (<- kind src) == 20 then
       match val with
       | .nilIface => unsupported (.noEntry "extern/reflectlite: a nil value of one interface type handed on as a value of another")
       | _ => storeVar dst a val
     else storeVar dst a (.iface src val)
   else panicString ("reflectlite.Set: value of type " ++ (<- spelt src) ++ " is not assignable to type " ++ (<- spelt dst))
   pure (.tuple #[])) := rfl
theorem jew {G : Nat} {tab : List TypeId} {c : Call} {f : FuncId} {rx ry : Operand} {x y : Opd} (hop : o.op = .call c) (hc : c.callee = .value (.func f)) (ha : c.args = #[rx, ry]) (hf : jbz P f G tab = true) (hx : jg x rx = true) (hy : jg y ry = true)
   (hs : stepOp cf (.vSet G tab x y) s = some res) (hl : WT s.ts a.tmps) (hR : R g O (s.ts.roots a.tmps) s.σ w) : SimV P o a g O w s res := by
 unfold jbz at hf;split at hf
 . rename_i fn hfn;simp only [zA, beq_iff_eq, rG, t9] at hf;obtain ⟨f1, f2, f3, rfl, f5⟩ := hf;obtain ⟨e1, e2⟩ := jcM f1 f2;simp only [stepOp] at hs;split at hs
   . rename_i hd id off fl ts h;split at hs
     . rename_i hd' rr v fl' ts' h';split at hs
       . rename_i t t' ht ht';split at hs
         . rename_i hcond;obtain ⟨rfl, rfl, rfl, hcon⟩ := hcond;split at hs
           . rename_i cs hcs;split at hs
             . rename_i hoff;simp only [zO] at hs;subst hs;obtain ⟨hp, hT⟩ := f5 t (List.contains_iff_mem.1 hcon);obtain ⟨h1, h2⟩ := je (l := []) hx h hl hR;have hVx : V g (.agg [hd, .ptr id off, .int .u64 406]) (a.eval rx) := h1.head;obtain ⟨h3, h4⟩ := je (l := [(.agg [hd, .ptr id off, .int .u64 406], a.eval rx)]) hy h' h2 h1;obtain ⟨x1, x2, x3, ex, v1, v2, v3⟩ := zu hVx;have := qB v1 ht; subst this;obtain ⟨b, rfl, hι⟩ := v2.ptr_inv;cases v3;obtain ⟨y1, y2, y3, ey, u1, u2, u3⟩ := zu h3.head;have := qB u1 ht'; subst this;obtain ⟨b', o', cv, rfl, vc, hcell, hM, hun1⟩ := Yq u2;cases u3;obtain ⟨lu, hlu, vlu⟩ := KR (w := w) hT vc hcell (h3.claim _ _ _ hM);have hroot : R g O ((v, lu) :: ts'.roots a.tmps) s.σ w := by
                 have hb : R g O (ts'.roots a.tmps) s.σ w := by
                   have := h3.drop;exact R.drop (by simpa using this)
                 have hfl : qY v := ⟨by cases v <;> simp_all [IVal.isCell, un2], by cases v <;> simp_all [IVal.isCell, nt]⟩;exact hb.push vlu (jE hfl lu)
               have hσ := jw hcs;have hvc : v.cells = [v] := by cases v <;> simp [IVal.isCell] at hcell <;> rfl
               obtain ⟨w', hst, hR', hg, hk⟩ := R.putAt (P := P) (off := off) hroot hι hσ (by rw [hvc]; simp; omega) (by rw [hvc]; simpa using hcell);rw [hvc] at hR' hk;obtain ⟨i, hi, hisz⟩ : ∃ i, P.info? t = some i /\ i.size = 1 := by
                 obtain ⟨-, i, q1, q2⟩ := KQ (w := w) hT;exact ⟨i, q1, by simpa using q2⟩
               have hlsz : lu.cells.size = 1 := by
                 have := vlu.cells.1;rw [hvc] at this;simpa using this.symm
               have hrun : (execOp a.eval o).run P w = .ok (.value (.tuple #[])) w' := by
                 have hset : (ReflectliteValue.set #[a.eval rx, a.eval ry]).run P w = .ok (.tuple #[]) w' := by
                   rw [ex, ey, kB];have hda : (directlyAssignable t t).run P w = .ok true w := jcq (by simp [daP]);have hfl : ((406 : Int).toNat / ReflectliteValue.flagAddr % 2 == 0) = false := rfl;have hsv : (storeVar t ⟨b, off, none⟩ lu).run P w = .ok () w' := by
                     simp [storeVar, jK hi, hlsz, hisz, hst]
                   simp only [Sem.run_bind, Ja (.inr rfl) hp, Ja (.inl rfl) hp, Result.andThen, hfl, tF, if_false, hlu, hda, if_true, hsv, Sem.run_pure]
                 have : (callFunc f #[a.eval rx, a.eval ry]).run P w = .ok (.value (.tuple #[])) w' := by
                   rw [run_callFunc_extern hfn (by rw [f1]; rfl) f3 e1 e2, hset]; rfl
                 simp only [execOp, hop, resolve, hc, Deferred.ofValue, Sem.run_bind, Sem.run_pure, Result.andThen, invoke, ha];simpa [Act.eval] using this
               refine ⟨rfl, undef, _, _, hrun, rfl, g, O, [(id, !([v].all nr1))], hg, hR', h4, rfl, hk⟩
             . cases hs
           . cases hs
         . cases hs
       . cases hs
     . cases hs
   . cases hs
 . cases hf
end Go.Idl
namespace Go.Idl
open Go.Extern
variable [Globs]
variable {P : Program} {o : Oper} {a : Act} {g : Gh} {O : List Nat} {w : World} {s : St} {res : Res} {cf : jD}
def kn : IntKind -> Option String
 | .i32 => some "Int32"
 | .i64 => some "Int64"
 | .u32 => some "Uint32"
 | .u64 => some "Uint64"
 | _ => none
def kq : MemK -> Option String
 | .aload k => (kn k).map fun n => "sync/atomic.Load" ++ n
 | .astore k => (kn k).map fun n => "sync/atomic.Store" ++ n
 | .acas k => (kn k).map fun n => "sync/atomic.CompareAndSwap" ++ n
 | .aadd k => (kn k).map fun n => "sync/atomic.Add" ++ n
 | .mclone => some "maps.clone"
 | _ => none
def jjG : MemK -> Array Value -> Sem Value
 | .aload k => Atomic.loadT (.int k)
 | .astore _ => Atomic.storeT
 | .acas k => Atomic.casT (.int k)
 | .aadd k => Atomic.update (Op.intArith .add) k true
 | .mclone => MapsClone.clone
 | _ => fun _ => pure undef
theorem jdT {fn : Func} {k : MemK} (h : kq k = some fn.name) (ho : fn.origin = "") : Extern.findNext fn = none /\ Extern.find fn = some (jjG k) := by
 unfold Extern.findNext Extern.find
 cases k with
 | aload k => cases k <;> simp only [kq, kn, XA, Option.map_none, zO, reduceCtorEq] at h <;> (rw [<- h, ho]; exact ⟨by kernel_rfl, by kernel_rfl⟩)
 | astore k => cases k <;> simp only [kq, kn, XA, Option.map_none, zO, reduceCtorEq] at h <;> (rw [<- h, ho]; exact ⟨by kernel_rfl, by kernel_rfl⟩)
 | acas k => cases k <;> simp only [kq, kn, XA, Option.map_none, zO, reduceCtorEq] at h <;> (rw [<- h, ho]; exact ⟨by kernel_rfl, by kernel_rfl⟩)
 | aadd k => cases k <;> simp only [kq, kn, XA, Option.map_none, zO, reduceCtorEq] at h <;> (rw [<- h, ho]; exact ⟨by kernel_rfl, by kernel_rfl⟩)
 | mclone => simp only [kq, zO] at h; rw [<- h, ho]; exact ⟨by kernel_rfl, by kernel_rfl⟩
 | _ => cases h
theorem jdV {fn : Func} {k : MemK} (h : kq k = some fn.name) : (fn.name == "runtime.NumGoroutine") = false := by
 cases k with
 | aload k => cases k <;> simp only [kq, kn, XA, Option.map_none, zO, reduceCtorEq] at h <;> (rw [<- h]; rfl)
 | astore k => cases k <;> simp only [kq, kn, XA, Option.map_none, zO, reduceCtorEq] at h <;> (rw [<- h]; rfl)
 | acas k => cases k <;> simp only [kq, kn, XA, Option.map_none, zO, reduceCtorEq] at h <;> (rw [<- h]; rfl)
 | aadd k => cases k <;> simp only [kq, kn, XA, Option.map_none, zO, reduceCtorEq] at h <;> (rw [<- h]; rfl)
 | mclone => simp only [kq, zO] at h; rw [<- h]; rfl
 | _ => cases h
def jik (P : Program) (f : FuncId) (k : MemK) : Bool := match P.funcs[f]? with
 | some fn => kq k == some fn.name && (fn.origin == "" && fn.body.isNone)
 | none => false
theorem jeC {b off : Nat} {x u : Value} (hx : x.oneCell' = true) (hc : w.cell? ⟨b, off, none⟩ = some u) (hz : w.frozen? ⟨b, off, none⟩ = false) :
   (storeCells ⟨b, off, none⟩ [x]).run P w = .ok () (w.setCell ⟨b, off, none⟩ x) := by
 simp only [storeCells, Sem.run_bind, Sem.run_pure];rw [show (Addr.add ⟨b, off, none⟩ 0) = ⟨b, off, none⟩ from rfl, run_store P w _ x _ hx, hc, hz];rfl
theorem vG {l : jG} {σ : List IObj} {id b off : Nat} {cs : List IVal} {x : IVal} (hR : R g O l σ w) (hι : g.ι[id]? = some (Blk.bk b)) (hσ : σ[id]? = some (.cells cs)) (hx : cs[off]? = some x) :
   ∃ u, w.cell? ⟨b, off, none⟩ = some u /\ V g x u /\ w.frozen? ⟨b, off, none⟩ = false := by
 obtain ⟨c, el, fz, hh, hnf, hsz, hc⟩ := hR.objs id b _ hι hσ;have hlt := ja hx;obtain ⟨u, hu⟩ : ∃ u, c[off]? = some u := ⟨c[off]'(by omega), by simp⟩;refine ⟨u, by simp [World.cell?, hh, hu], (hc off x u hx hu).1, ?_⟩;obtain ⟨lo, hi⟩ := fz;simp only [World.frozen?, hh, Bool.and_eq_false_iff, decide_eq_false_iff_not];have hnf : hi = 0 \/ c.size <= lo := hnf;omega
theorem jas {r : Nat} {es : Array MapEntry} {clock : Nat} (t : TypeId) (hb : w.heap[r]? = some (.map es clock)) :
   (MapsClone.clone #[.iface t (.map (some r))]).run P w = .ok (.iface t (.map (some w.heap.size))) (w.alloc (.map es clock)) := by
 have e : MapsClone.clone #[.iface t (.map (some r))] = (getObj r >>= fun o => match o with
     | .map entries clock => (newObj (.map entries clock) >>= fun n => pure (.iface t (.map (some n))))
     | _ => stuck "maps.clone: a map expected") := rfl
 rw [e];simp [MapKept.run_getObj_map hb, Result.andThen, go_sem]
theorem R.putInt {l : jG} {σ : List IObj} {id b off : Nat} {cs : List IVal} {k : IntKind} {y : Int} (hR : R g O l σ w) (hι : g.ι[id]? = some (Blk.bk b)) (hσ : σ[id]? = some (.cells cs)) (hoff : off < cs.length) :
   R g O ((undefI, undef) :: l) (σ.set id (.cells (putCells cs off [.int k y]))) (w.setCell ⟨b, off, none⟩ (.int k y)) /\ Grow O g w O g (w.setCell ⟨b, off, none⟩ (.int k y)) /\ Keep σ (σ.set id (.cells (putCells cs off [.int k y]))) [(id, false)] := by
 obtain ⟨u, h1, -, h3⟩ := vG hR hι hσ (show cs[off]? = some cs[off] by simp);obtain ⟨w', q1, q2, q3, q4⟩ := R.putAt (P := default) (off := off) (hR.push (x := .int k y) (v := .int k y) (.int k y) rfl) hι hσ (by simp [IVal.cells]; omega) (by simp [IVal.cells, IVal.isCell]);have e : (storeCells ⟨b, off, none⟩ (Value.int k y).cells.toList).run (default : Program) w = .ok () (w.setCell ⟨b, off, none⟩ (.int k y)) := by
   simp only [Value.cells];exact jeC rfl h1 h3
 rw [e] at q1;simp only [Result.ok.injEq, true_and] at q1;subst q1;exact ⟨q2, q3, by simpa [IVal.cells, nr1, nr0] using q4⟩
theorem V.int_run {k : IntKind} {n : Int} {v : Value} (h : V g (.int k n) v) : v = .int k n := by cases h; rfl
def JF (P : Program) (g : Gh) (O : List Nat) (w : World) (σ : List IObj) (l : jG) (m : Sem Next) (v : IVal) (σ' : List IObj) (wr : List (Nat × Bool)) : Prop :=
 ∃ v' w' g' O', m.run P w = .ok (.value v') w' /\ Grow O g w O' g' w' /\ R g' O' ((v, v') :: l) σ' w' /\ Keep σ σ' wr
theorem jdS {k : MemK} {fn : Func} {f : FuncId} {l : jG} {σ σ' : List IObj} {wr : List (Nat × Bool)} {vs : List IVal} {us : List Value} {v : IVal} (hf : P.funcs[f]? = some fn) (hn : kq k = some fn.name) (ho : fn.origin = "") (hb : fn.body.isNone = true)
   (hR : R g O (vs.zip us ++ l) σ w) (hl : vs.length = us.length) (h : Va k vs σ = some (v, σ', wr)) : JF P g O w σ l (callFunc f us.toArray) v σ' wr := by
 obtain ⟨e1, e2⟩ := jdT hn ho;have hname := jdV hn;have hv : ∀ (i : Nat) x u, vs[i]? = some x -> us[i]? = some u -> V g x u := fun i x u hx hu => hR.vals (x, u) (tC _ (zM (List.getElem?_zip_eq_some.2 ⟨hx, hu⟩)));have hRl : R g O l σ w := R.drops (l := vs.zip us) hR;unfold Va at h;split at h
 . rename_i k0 id off;obtain ⟨u, rfl, hV⟩ := ze rfl hl hv;obtain ⟨b, rfl, hι⟩ := hV.ptr_inv;split at h
   . rename_i cs hcs;have hσ := jw hcs;split at h
     . rename_i k' n hx;split at h
       . rename_i hk;subst hk;simp only [zO, zP] at h;obtain ⟨rfl, rfl, rfl⟩ := h;obtain ⟨u, c1, c2, c3⟩ := vG hRl hι hσ hx;have := c2.int_run; subst this;exact ⟨_, _, g, O, run_call_load hf hname hb e1 _ e2 c1, .refl _ _ _, hRl.push (.int _ _) rfl, .refl _⟩
       . cases h
     . cases h
   . cases h
 . rename_i k0 id off k1 y;obtain ⟨u, v2, rfl, hV, hW⟩ := XK rfl hl hv;obtain ⟨b, rfl, hι⟩ := hV.ptr_inv;have := hW.int_run; subst this;split at h
   . rename_i cs hcs;have hσ := jw hcs;split at h
     . rename_i hk;obtain ⟨hoff, rfl⟩ := hk;simp only [zO, zP] at h;obtain ⟨rfl, rfl, rfl⟩ := h;obtain ⟨u, c1, c2, c3⟩ := vG hRl hι hσ (show cs[off]? = some cs[off] by simp);obtain ⟨p1, p2, p3⟩ := hRl.putInt (k := k0) (y := y) hι hσ hoff;exact ⟨_, _, g, O, run_call_store hf hname hb e1 e2 c1 c3, p2, p1, p3⟩
     . cases h
   . cases h
 . rename_i k0 id off k1 x k2 y;obtain ⟨u, v2, v3, rfl, hV, hW, hX⟩ : ∃ u v2 v3, us = [u, v2, v3] /\ V g (.ptr id off) u /\ V g (.int k1 x) v2 /\ V g (.int k2 y) v3 := by
     match us, hl with
     | [u, v2, v3], _ => exact ⟨u, v2, v3, rfl, hv 0 _ _ rfl rfl, hv 1 _ _ rfl rfl, hv 2 _ _ rfl rfl⟩
   obtain ⟨b, rfl, hι⟩ := hV.ptr_inv;have := hW.int_run; subst this;have := hX.int_run; subst this;split at h
   . rename_i cs hcs;have hσ := jw hcs;split at h
     . rename_i k' n hx;split at h
       . rename_i hk;obtain ⟨rfl, rfl, rfl⟩ := hk;obtain ⟨u, c1, c2, c3⟩ := vG hRl hι hσ hx;have := c2.int_run; subst this;split at h
         . rename_i hnx;subst hnx;simp only [zO, zP] at h;obtain ⟨rfl, rfl, rfl⟩ := h;obtain ⟨p1, p2, p3⟩ := hRl.putInt (k := k0) (y := y) hι hσ (ja hx);exact ⟨_, _, g, O, run_call_cas_hit hf hname hb e1 _ e2 c1 c3, p2, p1.drop.push (.bool true) rfl, p3⟩
         . rename_i hnx;simp only [zO, zP] at h;obtain ⟨rfl, rfl, rfl⟩ := h;exact ⟨_, _, g, O, run_call_cas_miss hf hname hb e1 _ e2 c1 c3 hnx, .refl _ _ _, hRl.push (.bool false) rfl, .refl _⟩
       . cases h
     . cases h
   . cases h
 . rename_i k0 id off k1 y;obtain ⟨u, v2, rfl, hV, hW⟩ := XK rfl hl hv;obtain ⟨b, rfl, hι⟩ := hV.ptr_inv;have := hW.int_run; subst this;split at h
   . rename_i cs hcs;have hσ := jw hcs;split at h
     . rename_i k' n hx;split at h
       . rename_i hk;obtain ⟨rfl, rfl⟩ := hk;simp only [zO, zP] at h;obtain ⟨rfl, rfl, rfl⟩ := h;obtain ⟨u, c1, c2, c3⟩ := vG hRl hι hσ hx;have := c2.int_run; subst this;obtain ⟨p1, p2, p3⟩ := hRl.putInt (k := k0) (y := k0.wrap (n + y)) hι hσ (ja hx);exact ⟨_, _, g, O, run_call_add hf hname hb e1 _ e2 c1 c3 rfl, p2, p1.drop.push (.int _ _) rfl, p3⟩
       . cases h
     . cases h
   . cases h
 . cases hn
 . cases hn
 . cases hn
 . rename_i t id;obtain ⟨u, rfl, hV⟩ := ze rfl hl hv
   cases hV with
   | iface _ _ v0 hV0 hF0 =>
   obtain ⟨b, rfl, hι⟩ := hV0.map_inv;split at h
   . rename_i es hσ;simp only [zO, zP] at h;obtain ⟨rfl, rfl, rfl⟩ := h;obtain ⟨mes, clock, m1, m2, m3, m4⟩ := hRl.objs id b _ hι hσ;have hpre : ∀ (id b : Nat), g.ι[id]? = some (Blk.bk b) -> (g.fresh w.heap.size).ι[id]? = some (Blk.bk b) := fun id b hb => by simp only [Gh.fresh]; rw [zL (ja hb)]; exact hb
     have hnew := (hRl.push (j5 g) rfl).new (obr := .map mes clock) (ob := .map es) (fun _ => ⟨mes, clock, jy w _, m2, fun i e me he hm => by
       obtain ⟨⟨r1, r2⟩, r3, r4⟩ := m3 i e me he hm;exact ⟨⟨r1.mono hpre (fun _ _ _ h => h) (by rw [jE r3]; simp), r2.mono hpre (fun _ _ _ h => h) (by rw [jE r4]; simp)⟩, r3, r4⟩, m4⟩) ⟨[], rfl, by simp⟩
     refine ⟨_, _, g.fresh w.heap.size, w.heap.size :: O, ?_, kc hRl _, hnew.push (.iface t _ _ (.map _ w.heap.size ?_) ⟨rfl, rfl⟩) rfl, Keep.snoc _ _⟩
     . rw [run_callFunc_extern hf hname hb e1 e2];show ((MapsClone.clone #[.iface t (.map (some b))]).run P w).andThen _ = _;rw [jas t m1]; rfl
     . simp [Gh.fresh, <- hRl.len]
   . cases h
 . simp [kq] at hn
 . simp [kq] at hn
 . simp [kq] at hn
 . cases h
theorem R.putObj {l : jG} {σ : List IObj} {id b : Nat} {ob ob' : IObj} {x : Obj} (h : R g O l σ w) (hι : g.ι[id]? = some (Blk.bk b)) (hσ : σ[id]? = some ob) (hlive : ob ≠ .dead) (hb : b < w.heap.size) (hnc : ∀ c el fz, w.heap[b]? ≠ some (.cells c el fz))
   (hob : OBJ g (w.putObj b x) b ob') (ho : ky (w.putObj b x) b ob' = [b] \/ ky (w.putObj b x) b ob' = []) (ho' : ky w b ob = [b]) :
   R g O l (σ.set id ob') (w.putObj b x) /\ Grow O g w O g (w.putObj b x) := by
 have hs : (w.putObj b x).heap.size = w.heap.size := by simp
 have hw : ∀ k, k ≠ b -> (w.putObj b x).heap[k]? = w.heap[k]? := fun k hk => World.putObj_heap_other hk;have hbO : b ∈ O := h.sub b (rZ _ (jY hι hσ (by rw [ho']; simp)));refine ⟨?_, Grow.of_setRow g w hbO _ hw hs rfl rfl rfl⟩;have h1 := h.push (j5 g) rfl;have h2 := h1.upd (y := undefI) (u := undef) (id := id) (b := b) (ob := ob) (ob' := ob') (w' := w.putObj b x) (j5 g) hι hσ hlive hw hs (fun c el fz hc => absurd hc (hnc c el fz)) hob (by
   rw [ho'];have e0 : jC undefI undef = [] := rfl;rw [e0, tQ, tQ]
   rcases ho with ho | ho
   . rw [ho]; exact SubP.refl _
   . rw [ho]; exact SubP.of_sub (by simp))
 exact h2.drop
theorem jbL {l : jG} {σ σ' : List IObj} {wr : List (Nat × Bool)} {vs : List IVal} {us : List Value} {v : IVal} {T : TypeId} (hT : P.underlying T = some .string)
   (hR : R g O (vs.zip us ++ l) σ w) (hl : vs.length = us.length) (h : Va .iter vs σ = some (v, σ', wr)) : ∃ u, us = [u] /\ JF P g O w σ l (do pure (.value (<- Instr.range T u))) v σ' wr := by
 have hv : ∀ (i : Nat) x u, vs[i]? = some x -> us[i]? = some u -> V g x u := fun i x u hx hu => hR.vals (x, u) (tC _ (zM (List.getElem?_zip_eq_some.2 ⟨hx, hu⟩)));have hRl : R g O l σ w := R.drops (l := vs.zip us) hR;simp only [Va] at h;split at h
 all_goals try contradiction
 rename_i sb σ0;simp only [zO, zP] at h;obtain ⟨rfl, rfl, rfl⟩ := h;obtain ⟨u, rfl, hV⟩ := ze rfl hl hv
 cases hV with
 | str bs =>
 refine ⟨_, rfl, ?_⟩;have hnew := (hRl.push (j5 g) rfl).new (obr := .stringIter bs 0) (ob := .it bs.data.toList 0) (fun _ => ⟨bs, jy w _, rfl⟩) ⟨[], rfl, by simp⟩;refine ⟨_, _, g.fresh w.heap.size, w.heap.size :: O, ?_, kc hRl _, hnew.push (.ptr _ 0 w.heap.size ?_) rfl, Keep.snoc _ _⟩
 . simp only [Sem.run_bind, run_range_string w T bs hT, Result.andThen, Sem.run_pure]; rfl
 . simp [Gh.fresh, <- hRl.len]
theorem jat {b pos : Nat} {bs : ByteArray} {ty : TypeId} (h : w.heap[b]? = some (.stringIter bs pos)) (hp : pos < bs.size) (ha : (bs[pos]'hp).toNat < 128) :
   (Instr.next (.pointer (some ⟨b, 0, none⟩)) true ty).run P w = .ok (.tuple #[.bool true, .int .i64 pos, .int .i32 (bs[pos]'hp).toNat]) (w.putObj b (.stringIter bs (pos + 1))) := by
 simp only [Instr.next, getObj, setObj, Sem.run_bind, Sem.run, h, Result.andThen, hp, if_true, decode_ascii bs pos hp ha];simp [goInt, Sem.run, h, World.putObj]
theorem Xk {b pos : Nat} {bs : ByteArray} {ty : TypeId} (h : w.heap[b]? = some (.stringIter bs pos)) (hp : pos < bs.size) :
   (Instr.next (.pointer (some ⟨b, 0, none⟩)) true ty).run P w = .ok (.tuple #[.bool true, .int .i64 pos, .int .i32 (Utf8.decode bs pos).1]) (w.putObj b (.stringIter bs (pos + (Utf8.decode bs pos).2))) := by
 simp only [Instr.next, getObj, setObj, Sem.run_bind, Sem.run, h, Result.andThen, hp, if_true];simp [goInt, Sem.run, h, World.putObj]
theorem YB {b pos : Nat} {bs : ByteArray} {ty : TypeId} (h : w.heap[b]? = some (.stringIter bs pos)) (hp : ¬ pos < bs.size) :
   (Instr.next (.pointer (some ⟨b, 0, none⟩)) true ty).run P w = .ok (.tuple #[.bool false]) w := by
 simp [Instr.next, getObj, Sem.run, h, hp]
theorem jbM {l : jG} {σ σ' : List IObj} {wr : List (Nat × Bool)} {vs : List IVal} {us : List Value} {v : IVal} {ty : TypeId}
   (hR : R g O (vs.zip us ++ l) σ w) (hl : vs.length = us.length) (h : Va .next vs σ = some (v, σ', wr)) : ∃ u, us = [u] /\ JF P g O w σ l (do pure (.value (<- Instr.next u true ty))) v σ' wr := by
 have hv : ∀ (i : Nat) x u, vs[i]? = some x -> us[i]? = some u -> V g x u := fun i x u hx hu => hR.vals (x, u) (tC _ (zM (List.getElem?_zip_eq_some.2 ⟨hx, hu⟩)));have hRl : R g O l σ w := R.drops (l := vs.zip us) hR;simp only [Va] at h;split at h
 all_goals try contradiction
 rename_i id σ0;obtain ⟨u, rfl, hV⟩ := ze rfl hl hv;obtain ⟨b, rfl, hι⟩ := hV.ptr_inv;refine ⟨_, rfl, ?_⟩;split at h
 . rename_i sb pos hσ;obtain ⟨bs, hh, hbs⟩ := hRl.objs id b _ hι hσ;split at h
   . rename_i c hc;split at h
     . rename_i h128;simp only [zO, zP] at h;obtain ⟨rfl, rfl, rfl⟩ := h;subst hbs;have hp : pos < bs.size := by
         have := ja hc;rw [<- Lib.size_eq] at this; exact this
       have hbc : (bs[pos]'hp) = c := by
         have := (List.getElem?_eq_some_iff.1 hc).2;rw [<- this]; rfl
       have hlt : b < w.heap.size := (Array.getElem?_eq_some_iff.1 hh).1;have hrun := jat (P := P) (ty := ty) hh hp (by rw [hbc]; exact h128);obtain ⟨p1, p2⟩ := hRl.putObj (ob' := .it bs.data.toList (pos + 1)) (x := .stringIter bs (pos + 1)) hι hσ (by simp) hlt (by rw [hh]; simp) ⟨bs, World.putObj_heap_same hlt, rfl⟩ (.inl rfl) rfl;refine ⟨_, _, g, O, ?_, p2, p1.push (v := .tuple #[.bool true, .int .i64 pos, .int .i32 c.toNat]) ?_ rfl, Keep.set fun _ _ _ _ => trivial⟩
       . simp only [Sem.run_bind, hrun, Result.andThen, Sem.run_pure, hbc]
       . refine .tup _ _ rfl (fun i x v hx hu => ?_) (by simp [nt])
         match i with
         | 0 => simp at hx hu; subst hx hu; exact .bool _
         | 1 => simp at hx hu; subst hx hu; exact .int _ _
         | 2 => simp at hx hu; subst hx hu; exact .int _ _
         | i + 3 => simp at hx
     . simp only [zO, zP] at h;obtain ⟨rfl, rfl, rfl⟩ := h;subst hbs;have hp : pos < bs.size := by
         have := ja hc;rw [<- Lib.size_eq] at this; exact this
       have hlt : b < w.heap.size := (Array.getElem?_eq_some_iff.1 hh).1;have hself : (⟨bs.data.toList.toArray⟩ : ByteArray) = bs := rfl;have hrun := Xk (P := P) (ty := ty) hh hp;obtain ⟨p1, p2⟩ := hRl.putObj (ob' := .it bs.data.toList (pos + (Utf8.decode bs pos).2)) (x := .stringIter bs (pos + (Utf8.decode bs pos).2)) hι hσ (by simp) hlt (by rw [hh]; simp) ⟨bs, World.putObj_heap_same hlt, rfl⟩ (.inl rfl) rfl;refine ⟨_, _, g, O, ?_, p2, p1.push (v := .tuple #[.bool true, .int .i64 pos, .int .i32 (Utf8.decode bs pos).1]) ?_ rfl, Keep.set fun _ _ _ _ => trivial⟩
       . simp only [Sem.run_bind, hrun, Result.andThen, Sem.run_pure]
       . refine .tup _ _ rfl (fun i x v hx hu => ?_) (by simp [nt])
         match i with
         | 0 => simp at hx hu; subst hx hu; exact .bool _
         | 1 => simp at hx hu; subst hx hu; exact .int _ _
         | 2 => simp at hx hu; subst hx hu; exact .int _ _
         | i + 3 => simp at hx
   . rename_i hc;simp only [zO, zP] at h;obtain ⟨rfl, rfl, rfl⟩ := h;subst hbs;have hp : ¬ pos < bs.size := by
       have := List.getElem?_eq_none_iff.1 hc;rw [<- Lib.size_eq] at this; omega
     have hrun := YB (P := P) (ty := ty) hh hp;refine ⟨_, _, g, O, ?_, .refl _ _ _, hRl.push (v := .tuple #[.bool false]) ?_ rfl, .refl _⟩
     . simp only [Sem.run_bind, hrun, Result.andThen, Sem.run_pure]
     . refine .tup _ _ rfl (fun i x v hx hu => ?_) (by simp [nt])
       match i with
       | 0 => simp at hx hu; subst hx hu; exact .bool _
       | i + 1 => simp at hx
 . cases h
theorem jbO {l : jG} {σ σ' : List IObj} {wr : List (Nat × Bool)} {vs : List IVal} {us : List Value} {v : IVal} {S T t : TypeId} (hS : P.underlying S = some (.pointer t)) (hT : P.underlying T = some .unsafePointer)
   (hsz : (P.info? t).map (fun i => decide (i.size = 0)) = some false)
   (hR : R g O (vs.zip us ++ l) σ w) (hl : vs.length = us.length) (h : Va .uptr vs σ = some (v, σ', wr)) : ∃ u, us = [u] /\ JF P g O w σ l (do pure (.value (<- convert S T u))) v σ' wr := by
 have hv : ∀ (i : Nat) x u, vs[i]? = some x -> us[i]? = some u -> V g x u := fun i x u hx hu => hR.vals (x, u) (tC _ (zM (List.getElem?_zip_eq_some.2 ⟨hx, hu⟩)));have hRl : R g O l σ w := R.drops (l := vs.zip us) hR;simp only [Va] at h;split at h
 all_goals try contradiction
 rename_i id off σ0;obtain ⟨u, rfl, hV⟩ := ze rfl hl hv;obtain ⟨b, rfl, hι⟩ := hV.ptr_inv;refine ⟨_, rfl, ?_⟩;split at h
 . rename_i cs hcs;split at h
   . rename_i hoff;simp only [zO, zP] at h;obtain ⟨rfl, rfl, rfl⟩ := h;obtain ⟨u, c1, -, -⟩ := vG hRl hι (jw hcs) (show cs[off]? = some cs[off] by simp);refine ⟨_, _, g, O, ?_, .refl _ _ _, hRl.push (.ptr id off b hι) rfl, .refl _⟩;simp only [Sem.run_bind, run_convert_to_unsafe hS hT hsz c1, Result.andThen, Sem.run_pure]
   . cases h
 . cases h
theorem Ye {l : jG} {σ σ' : List IObj} {wr : List (Nat × Bool)} {vs : List IVal} {us : List Value} {v : IVal} {S T e : TypeId} (hS : P.underlying S = some .string) (hT : P.underlying T = some (.slice e)) (he : P.underlying e = some (.int .u8))
   (hR : R g O (vs.zip us ++ l) σ w) (hl : vs.length = us.length) (h : Va .bytesR vs σ = some (v, σ', wr)) : ∃ u, us = [u] /\ JF P g O w σ l (do pure (.value (<- convert S T u))) v σ' wr := by
 have hv : ∀ (i : Nat) x u, vs[i]? = some x -> us[i]? = some u -> V g x u := fun i x u hx hu => hR.vals (x, u) (tC _ (zM (List.getElem?_zip_eq_some.2 ⟨hx, hu⟩)));have hRl : R g O l σ w := R.drops (l := vs.zip us) hR;simp only [Va] at h;split at h
 all_goals try contradiction
 rename_i sb σ0;simp only [zO, zP] at h;obtain ⟨rfl, rfl, rfl⟩ := h;obtain ⟨u, rfl, hV⟩ := ze rfl hl hv
 cases hV with
 | str t =>
 refine ⟨_, rfl, ?_⟩;have hrun := run_bytes_of_string (P := P) w S T e t hS hT he;have hge := grownCap_ge w t.size 0 e;generalize grownCap w t.size 0 e = cap at hrun hge;have hR0 := hRl.world (w' := w.drew) (rS _) (fun _ _ => rfl);have hG0 : Grow O g w O g w.drew := ⟨rS _, fun _ _ _ => ⟨rfl, rfl, fun _ => rfl⟩, fun _ _ _ h => h, fun _ _ h => h, fun _ h => .inl h, rfl, rfl, rfl, rfl, fun _ => rS _⟩;have hsz : (bytesRow t cap).size = cap := by
   have : t.data.size = t.size := rfl;simp [bytesRow, this]; omega
 have hlen : t.data.toList.length = t.size := by simp
 have hcells : ∀ (j : Nat) x v, (t.data.toList.map fun c => IVal.int .u8 c.toNat)[j]? = some x -> (bytesRow t cap)[j]? = some v -> V (g.fresh w.heap.size) x v /\ kC x v = [] /\ x.isCell = true := by
   intro j x v hx hv;simp only [rM, rW] at hx;obtain ⟨c, hc, rfl⟩ := hx;have hj : j < t.data.size := by have := ja hc; simpa using this
   rw [bytesRow_at t cap j hj] at hv;have : t.data[j] = c := tB ((Array.getElem?_eq_getElem hj).symm.trans (by simpa using hc));rw [this] at hv;obtain rfl := tB hv;exact ⟨.int _ _, rfl, rfl⟩
 have hnew := (hR0.push (j5 g) rfl).new (obr := .cells (bytesRow t cap) e ((bytesRow t cap).size, (bytesRow t cap).size + 1)) (ob := .cells (t.data.toList.map fun c => .int .u8 c.toNat)) (fun _ =>
   ⟨_, e, _, jy _ _, .inr (rS _), by rw [hsz]; simp; exact hge, fun j x v hx hv => ⟨(hcells j x v hx hv).1, (hcells j x v hx hv).2.2⟩⟩) ⟨[], by
   simp only [ky];rw [flatten_nil];intro cc hcm;obtain ⟨j, x, y, h1, h2, rfl⟩ := jJ hcm;have hbk : jM (w.drew.alloc (.cells (bytesRow t cap) e ((bytesRow t cap).size, (bytesRow t cap).size + 1))) w.drew.heap.size = _ := jQ ..;rw [hbk] at h2;exact (hcells j x y h1 (by rw [<- Array.getElem?_toList]; exact h2)).2.1, by simp⟩
 refine ⟨_, _, _, w.heap.size :: O, ?_, hG0.trans ((kc hR0 _).trans (Grow.setZ _ _ _ _ _)), (hnew.setZ (z := cap) (jy _ _) (by rw [hsz]; exact rS _)).push (v := .slice (some ⟨w.heap.size, 0, none⟩) t.size cap) ?_ rfl, Keep.snoc _ _⟩
 . simp only [Sem.run_bind, hrun, Result.andThen, Sem.run_pure]
 . rw [hlen];refine .rs _ _ _ _ _ _ ?_ (by omega) (by rw [t7, Nat.mul_one]; exact JC _ _ _);simp [Gh.fresh, Gh.setZ, <- hRl.len]
theorem jag {l : jG} {σ σ' : List IObj} {wr : List (Nat × Bool)} {vs : List IVal} {us : List Value} {v : IVal} {S T e : TypeId} (hS : P.underlying S = some (.slice e)) (he : P.underlying e = some (.int .u8)) (hT : P.underlying T = some .string)
   (hR : R g O (vs.zip us ++ l) σ w) (hl : vs.length = us.length) (h : Va .textR vs σ = some (v, σ', wr)) : ∃ u, us = [u] /\ JF P g O w σ l (do pure (.value (<- convert S T u))) v σ' wr := by
 have hv : ∀ (i : Nat) x u, vs[i]? = some x -> us[i]? = some u -> V g x u := fun i x u hx hu => hR.vals (x, u) (tC _ (zM (List.getElem?_zip_eq_some.2 ⟨hx, hu⟩)));have hRl : R g O l σ w := R.drops (l := vs.zip us) hR;simp only [Va] at h;split at h
 all_goals try contradiction
 rename_i id off len σ0;obtain ⟨u, rfl, hV⟩ := ze rfl hl hv;obtain ⟨b, cap, rfl, hι, hcap⟩ := hV.rs_inv;refine ⟨_, rfl, ?_⟩;split at h
 . rename_i cs hcs;split at h
   . rename_i lb hb;split at h
     . rename_i hoff;simp only [zO, zP] at h;obtain ⟨rfl, rfl, rfl⟩ := h;obtain ⟨ns, hns, rfl⟩ := JO hb;have hnl : ns.length = len := by
         have := congrArg List.length hns;simp at this; omega
       have hload : (loadCells ⟨b, off, none⟩ len).run P w = .ok (ns.map (Value.int .u8)).toArray w := by
         have hlen : len = (ns.map (Value.int .u8)).length := by simp [hnl]
         rw [hlen];refine run_loadCells_list (P := P) (w := w) ⟨b, off, none⟩ (ns.map (Value.int .u8)) (fun j c hj => ?_);have hj2 : j < len := by have := ja hj; simp at this; omega
         rw [jX];have hx : cs[off + j]? = some (.int .u8 ns[j]) := by
           have := congrArg (fun l => l[j]?) hns;simp only [List.getElem?_take_of_lt hj2, tH, rM] at this;rw [this, rJ (by omega)]; rfl
         obtain ⟨u, c1, c2, -⟩ := vG hRl hι (jw hcs) hx;have hu := c2.int_run;subst hu;rw [rM, rJ (by omega)] at hj;rw [c1]; exact hj
       have h1 := run_convert_bytes_string (P := P) w S T e (some ⟨b, off, none⟩) len cap hS he hT;have h2 := run_bytesToString (P := P) w ⟨b, off, none⟩ len cap ns hload;refine ⟨.string (ns.foldl (fun r n => r.push (UInt8.ofNat n.toNat)) ByteArray.empty), _, g, O, ?_, .refl _ _ _, hRl.push ?_ rfl, .refl _⟩
       . simp only [Sem.run_bind, h1, h2, Result.andThen, Sem.run_pure]
       . have : (ns.foldl (fun r n => r.push (UInt8.ofNat n.toNat)) ByteArray.empty).data.toList = ns.map (fun n => UInt8.ofNat n.toNat) := by rw [Qv]; rfl
         rw [<- this]; exact .str _
     . cases h
   . cases h
 . cases h
def VK (P : Program) (c : Call) : MemK -> Bool
 | .extN e b zs => match c.argTypes.toList with
   | [T, U] => (match P.underlying T, P.underlying U with
     | some (.slice E), some (.int .i64) => (match P.info? E with
       | some i => (match i.zero with
         | some z => (i.size == e && i.bytes == b) && (z.cells.size == e && K2 zs z.cells.toList)
         | none => false)
       | none => false)
     | _, _ => false)
   | _ => false
 | _ => false
theorem jdv {c : Call} {k : MemK} (h : VK P c k = true) : ∃ e b zs, k = .extN e b zs := by
 cases k <;> simp [VK] at h;exact ⟨_, _, _, rfl⟩
theorem Qf {T U ty E : TypeId} {i : TypeInfo} {z : Value} {n : Nat} (hT : P.underlying T = some (.slice E)) (hU : P.underlying U = some (.int .i64)) (hi : P.info? E = some i) (hz : i.zero = some z) (h0 : 0 < n) (hs0 : 0 < i.size)
   (hb : n * i.bytes <= 140737488355328) (hn : n <= 1099511627776) (hfit : Builtin.nextslicecap n 0 * i.bytes <= 281474976710656) :
   (Builtin.append_ #[T, U] ty #[.slice none 0 0, .int .i64 n]).run P w = .ok (.slice (some ⟨w.heap.size, 0, none⟩) n (grownCap w n 0 E)) (w.drew.alloc (.cells (Builtin.zeroCells z.cells n ++ Builtin.zeroCells z.cells (grownCap w n 0 E - n)) E)) := by
 have hw : IntKind.i64.wrap (n : Int) = n := by simp only [IntKind.wrap, IntKind.bits, IntKind.signed]; simp; omega
 have h1 : ¬ ((n : Int) < 0) := by omega
 have h2 : ¬ (281474976710656 < (n : Int) * i.bytes) := by rw [<- Int.natCast_mul]; omega
 have h3 : ¬ (n <= 0) := by omega
 have h4 : ¬ (9223372036854775807 < (n : Int)) := by omega
 have h5 : ¬ (281474976710656 < Builtin.nextslicecap n 0 * i.bytes) := by omega
 have h6 : ¬ (n * i.size = 0) := by
   intro h; rcases Nat.mul_eq_zero.1 h with h | h <;> omega
 have h7 : ¬ (n = 0 \/ i.size = 0) := by omega
 simp [Builtin.append_, jh hT, jh hU, sizeOf, typeInfo, zeroValue, hi, hz, asInt, asIntOf, hw, h1, h2, h3, h4, h5, h6, h7, (show ¬ n = 0 by omega), Question.forced, Builtin.firstCells, newRow, grownCap]
theorem jgA {l : jG} {e b : Nat} {zs : List IVal} {σ σ' : List IObj} {wr : List (Nat × Bool)} {vs : List IVal} {us : List Value} {v : IVal} {c : Call} (hk : VK P c (.extN e b zs) = true) (hR : R g O (vs.zip us ++ l) σ w) (hl : vs.length = us.length) (h : Va (.extN e b zs) vs σ = some (v, σ', wr)) {m : Sem Next}
   (hexec : ∀ r w', (Builtin.append_ c.argTypes o.type us.toArray).run P w = .ok r w' -> m.run P w = .ok (.value r) w') : JF P g O w σ l m v σ' wr := by
 have hv : ∀ (i : Nat) x u, vs[i]? = some x -> us[i]? = some u -> V g x u := fun i x u hx hu => hR.vals (x, u) (tC _ (zM (List.getElem?_zip_eq_some.2 ⟨hx, hu⟩)));have hroot : R g O l σ w := R.drops (l := vs.zip us) hR;obtain ⟨own, n, rfl⟩ : ∃ own n, vs = [.sl own true [], .int .i64 n] := by
   unfold Va at h;split at h
   all_goals first | exact ⟨_, _, rfl⟩ | (rename_i q; cases q; done) | (rename_i q _; cases q; done) | (cases h; done) | skip
   all_goals contradiction
 simp only [Va] at h;split at h
 . rename_i hcond;obtain ⟨c1, c2, c3, c4, c5⟩ := hcond;simp only [zO, zP] at h;obtain ⟨rfl, rfl, rfl⟩ := h;obtain ⟨u, u2, rfl, hV, hW⟩ := XK rfl hl hv;have := hW.int_run; subst this;obtain ⟨cn, rfl⟩ := Int.eq_ofNat_of_zero_le (show 0 <= n by omega);have hu : u = .slice none 0 0 := by
     cases hV with
     | nil => rfl
     | sl _ _ _ _ _ _ _ _ _ _ _ _ _ _ _ _ hn => exact absurd (hn rfl) (by simp)
   subst hu;simp only [VK] at hk;split at hk
   . rename_i T U hta;split at hk
     . rename_i E hT hU;split at hk
       . rename_i i hi;split at hk
         . rename_i z hz;simp only [zA, beq_iff_eq] at hk;obtain ⟨⟨k1, k2⟩, k3, k4⟩ := hk;subst k1 k2;have hta' : c.argTypes = #[T, U] := by rw [<- Array.toList_inj, hta]
           have hcn : 0 < cn := by omega
           have hb1 : cn * i.bytes <= 140737488355328 := by
             have h9 := c2;rw [<- Int.natCast_mul] at h9;omega
           have hfit : Builtin.nextslicecap cn 0 * i.bytes <= 281474976710656 := by
             have : Builtin.nextslicecap cn 0 = cn := by unfold Builtin.nextslicecap; rw [if_pos (by omega)]
             rw [this]; omega
           have hrun := Qf (P := P) (w := w) (ty := o.type) hT hU hi hz hcn c5 hb1 (by omega) hfit;have hge := grownCap_ge w cn 0 E;generalize hcapd : grownCap w cn 0 E = cap' at hrun hge;obtain ⟨z1, z2⟩ := vn ((g.fresh w.heap.size)) k4;have hzl : zs.length = z.cells.size := by omega
           have hR0 : R g O l σ w.drew := hroot.world (rS _) (fun _ _ => rfl);have hG0 : Grow O g w O g w.drew := ⟨rS _, fun _ _ _ => ⟨rfl, rfl, fun _ => rfl⟩, fun _ _ _ h => h, fun _ _ h => h, fun _ h => .inl h, rfl, rfl, rfl, rfl, fun _ => rS _⟩;have hA : (Builtin.zeroCells z.cells cn).size = cn * i.size := by simp [Builtin.zeroCells, k3]
           have hB : (Builtin.zeroCells z.cells (cap' - cn)).size = (cap' - cn) * i.size := by simp [Builtin.zeroCells, k3]
           have hcs : (Builtin.zeroCells z.cells cn ++ Builtin.zeroCells z.cells (cap' - cn)).size = cap' * i.size := by
             rw [Array.size_append, hA, hB, <- tO]; congr 1; omega
           have hcells : ∀ (j : Nat) x v, (K5 cn zs)[j]? = some x -> (Builtin.zeroCells z.cells cn ++ Builtin.zeroCells z.cells (cap' - cn))[j]? = some v -> V (g.fresh w.heap.size) x v /\ kC x v = [] /\ x.isCell = true := by
             intro j x v hx hv;have hj : j < cn * zs.length := by rw [<- yJ]; exact ja hx
             rw [Vi (by omega) cn j hj] at hx;rw [c4] at hj;rw [Array.getElem?_append_left (by rw [hA]; exact hj)] at hv;simp only [Builtin.zeroCells, Array.getElem?_map, Array.getElem?_range] at hv;rw [if_pos (by rw [k3]; exact hj)] at hv;simp only [XA, zO] at hv;have hmod : j % z.cells.size < z.cells.size := Nat.mod_lt _ (by omega);refine z2 (j % zs.length) x v hx ?_;rw [<- hv, hzl];simp [getElem!_pos, hmod]
           have hnew := (hR0.push (j5 g) rfl).new (obr := .cells (Builtin.zeroCells z.cells cn ++ Builtin.zeroCells z.cells (cap' - cn)) E) (ob := .cells (K5 cn zs)) (fun _ =>
             ⟨_, E, (0, 0), jy _ _, .inl rfl, by rw [yJ, c4, hcs]; exact XB _ (by omega), fun j x v hx hv => ⟨(hcells j x v hx hv).1, (hcells j x v hx hv).2.2⟩⟩) ⟨[], by
             simp only [ky];rw [flatten_nil];intro cc hcm;obtain ⟨j, x, y, h1, h2, rfl⟩ := jJ hcm;have hbk : jM (w.drew.alloc (.cells (Builtin.zeroCells z.cells cn ++ Builtin.zeroCells z.cells (cap' - cn)) E)) w.drew.heap.size = _ := jQ ..;rw [hbk] at h2;exact (hcells j x y h1 (by rw [<- Array.getElem?_toList]; exact h2)).2.1, by simp⟩
           refine ⟨_, _, _, w.heap.size :: O, hexec _ _ (by rw [hta']; exact hrun), hG0.trans ((kc hR0 _).trans (Grow.setZ _ _ _ _ _)), (hnew.setZ (z := cap' * i.size) (jy _ _) (by rw [hcs]; exact rS _)).push (.rs _ _ _ _ _ _ ?_ (by omega) (by rw [t7]; exact JC _ _ _)) rfl, Keep.snoc _ _⟩;simp [Gh.fresh, Gh.setZ, <- hR.len]
         . cases hk
       . cases hk
     . cases hk
   . cases hk
 . cases h
def jgz (P : Program) : Op -> MemK -> List Opd -> Bool
 | .call c, k, xs => (match c.callee with | .value (.func f) => jik P f k | .builtin .append => VK P c k | _ => false) && jA xs c.args.toList
 | .convert S T r, .uptr, xs => (match P.underlying S, P.underlying T with | some (.pointer t), some .unsafePointer => (P.info? t).map (fun i => decide (i.size = 0)) == some false | _, _ => false) && jA xs [r]
 | .convert S T r, .bytesR, xs => (match P.underlying S, P.underlying T with | some .string, some (.slice e) => (match P.underlying e with | some (.int .u8) => true | _ => false) | _, _ => false) && jA xs [r]
 | .convert S T r, .textR, xs => (match P.underlying S, P.underlying T with | some (.slice e), some .string => (match P.underlying e with | some (.int .u8) => true | _ => false) | _, _ => false) && jA xs [r]
 | .range T r, .iter, xs => (match P.underlying T with | some .string => true | _ => false) && jA xs [r]
 | .next r is, .next, xs => is && jA xs [r]
 | _, _, _ => false
theorem jgB {k : MemK} {xs : List Opd} (h : jgz P o.op k xs = true) (hs : stepOp cf (.mem k xs) s = some res) (hl : WT s.ts a.tmps) (hR : R g O (s.ts.roots a.tmps) s.σ w) : OpRes P o a g O w s res := by
 simp only [stepOp] at hs;split at hs
 . rename_i vs ts hga;split at hs
   . rename_i v σ' wr hm;simp only [zO] at hs;subst hs;have key : ∀ (rs : List Operand), jA xs rs = true -> (∀ c, o.op ≠ .defer c) -> (R g O (vs.zip (rs.map a.eval) ++ ts.roots a.tmps) s.σ w -> vs.length = (rs.map a.eval).length -> JF P g O w s.σ (ts.roots a.tmps) (execOp a.eval o) v σ' wr) -> OpRes P o a g O w s ⟨false, v, { ts := ts, σ := σ', wr := wr ++ s.wr }⟩ := by
       intro rs hx hd hrun;obtain ⟨h1, h2, h3⟩ := jU (l := []) hx hga hl hR;obtain ⟨v', w', g', O', q1, q2, q3, q4⟩ := hrun (by simpa using h1) h3;exact .of_val ⟨rfl, v', w', _, q1, rfl, g', O', wr, q2, q3, h2, rfl, q4⟩ hd
     unfold jgz at h;split at h
     . rename_i c hop;simp only [zA] at h;obtain ⟨h1, h2⟩ := h;split at h1
       . rename_i f hc;unfold jik at h1;split at h1
         . rename_i fn hf;simp only [zA, beq_iff_eq] at h1;refine key _ h2 (fun c h => by rw [hop] at h; cases h) (fun hR' hl' => ?_);have := jdS hf h1.1 h1.2.1 h1.2.2 hR' hl' hm;have e : execOp a.eval o = callFunc f ((c.args.toList.map a.eval).toArray) := by
             have ea : (c.args.toList.map a.eval).toArray = c.args.map a.eval := by apply Array.ext'; simp
             rw [ea];simp [execOp, hop, resolve, hc, Act.eval, Deferred.ofValue, invoke]
           rw [e]; exact this
         . cases h1
       . rename_i hc;refine key _ h2 (fun c h => by rw [hop] at h; cases h) (fun hR' hl' => ?_);obtain ⟨e, b, zs, rfl⟩ := jdv h1
         . refine jgA (o := o) h1 hR' hl' hm (fun r w' hr => ?_);have ea : (c.args.toList.map a.eval).toArray = c.args.map a.eval := by apply Array.ext'; simp
           rw [ea] at hr;simp [execOp, hop, resolve, hc, invoke, builtin, hr]
       . cases h1
     . rename_i S T r hop;simp only [zA] at h;obtain ⟨h1, h2⟩ := h;split at h1
       . rename_i t hS hT;refine key _ h2 (fun c h => by rw [hop] at h; cases h) (fun hR' hl' => ?_);obtain ⟨u, hu, this⟩ := jbO hS hT (eq_of_beq h1) hR' hl' hm;simp only [rU, List.map_nil, tX, and_true] at hu;have e : execOp a.eval o = (do pure (.value (<- convert S T (a.eval r)))) := by simp only [execOp, hop]
         rw [e, hu]; exact this
       . cases h1
     . rename_i S T r hop;simp only [zA] at h;obtain ⟨h1, h2⟩ := h;split at h1
       . rename_i e hS hT;split at h1
         . rename_i he;refine key _ h2 (fun c h => by rw [hop] at h; cases h) (fun hR' hl' => ?_);obtain ⟨u, hu, this⟩ := Ye hS hT he hR' hl' hm;simp only [rU, List.map_nil, tX, and_true] at hu;have e : execOp a.eval o = (do pure (.value (<- convert S T (a.eval r)))) := by simp only [execOp, hop]
           rw [e, hu]; exact this
         . cases h1
       . cases h1
     . rename_i S T r hop;simp only [zA] at h;obtain ⟨h1, h2⟩ := h;split at h1
       . rename_i e hS hT;split at h1
         . rename_i he;refine key _ h2 (fun c h => by rw [hop] at h; cases h) (fun hR' hl' => ?_);obtain ⟨u, hu, this⟩ := jag hS he hT hR' hl' hm;simp only [rU, List.map_nil, tX, and_true] at hu;have e : execOp a.eval o = (do pure (.value (<- convert S T (a.eval r)))) := by simp only [execOp, hop]
           rw [e, hu]; exact this
         . cases h1
       . cases h1
     . rename_i T r hop;simp only [zA] at h;obtain ⟨h1, h2⟩ := h;split at h1
       . rename_i hT;refine key _ h2 (fun c h => by rw [hop] at h; cases h) (fun hR' hl' => ?_);obtain ⟨u, hu, this⟩ := jbL hT hR' hl' hm;simp only [rU, List.map_nil, tX, and_true] at hu;have e : execOp a.eval o = (do pure (.value (<- Instr.range T (a.eval r)))) := by simp only [execOp, hop]
         rw [e, hu]; exact this
       . cases h1
     . rename_i r is hop;simp only [zA] at h;obtain ⟨h1, h2⟩ := h;subst h1;refine key _ h2 (fun c h => by rw [hop] at h; cases h) (fun hR' hl' => ?_);obtain ⟨u, hu, this⟩ := jbM (ty := o.type) hR' hl' hm;simp only [rU, List.map_nil, tX, and_true] at hu;have e : execOp a.eval o = (do pure (.value (<- Instr.next (a.eval r) true o.type))) := by simp only [execOp, hop]
       rw [e, hu]; exact this
     . cases h
   . cases hs
 . cases hs
theorem jcb {x : Opd} {r : Operand} (hop : o.op = .panic r) (hx : jg x r = true) (hs : stepOp cf (.panic x) s = some res) (hl : WT s.ts a.tmps) (hR : R g O (s.ts.roots a.tmps) s.σ w) : OpRes P o a g O w s res := by
 simp only [stepOp] at hs;split at hs
 . rename_i t v ts h;simp only [zO] at hs;subst hs;obtain ⟨h1, h2⟩ := je (l := []) hx h hl hR;obtain ⟨u, hu, -, -⟩ := iface_inv h1.head;intro ρ n next Q _ hp;refine ⟨fun _ _ => trivial, ?_⟩;rw [Oper.semAt_eq _ _ _ (fun c h => by rw [hop] at h; cases h)];have e : (execOp a.eval o).run P w = .halt (.panic (.iface t u)) w := by
     simp only [execOp, hop, hu]; rfl
   rw [e];refine hp rfl (.iface t u) w ⟨g, O, [], .refl _ _ _, ?_, h2, rfl, .refl _⟩;have := h1; rw [hu] at this; simpa using this
 . cases hs
end Go.Idl
namespace Go.Idl
variable [Globs]
variable {P : Program} {g : Gh} {O : List Nat} {w : World}
theorem R.free_of {l : jG} {σ : List IObj} {b : Nat} (h : R g O l σ w) (hb : b ∉ jN l ++ kt w g.ι σ) : R g (O.filter (fun k => k != b)) l σ w := by
 have hm : ∀ k, k ∈ O.filter (fun k => k != b) -> k ∈ O := fun k hk => (List.mem_filter.1 hk).1;refine ⟨h.len, h.vals, h.objo, h.nodup, fun k hk => List.mem_filter.2 ⟨h.sub k hk, ?_⟩, fun k hk => h.lt k (hm k hk), h.claim, h.apart, fun k hk => h.spare k (hm k hk), h.glob, h.zs⟩;have : k ≠ b := fun e => hb (e ▸ hk);simpa using this
def Gh.renew (g : Gh) (b : Nat) : Gh := { g with ι := g.ι ++ [.bk b], T := fun k => if k = b then none else g.T k }
theorem R.renew {x y : IVal} {v u : Value} {l : jG} {σ : List IObj} {id b : Nat} {ob ob' : IObj} {w' : World} (h : R g O ((x, v) :: l) σ w) (hι : g.ι[id]? = some (.bk b)) (hσ : σ[id]? = some ob) (hlive : ob ≠ .dead)
   (hw : ∀ k, k ≠ b -> w'.heap[k]? = w.heap[k]?) (hs : w'.heap.size = w.heap.size) (hsp : ∀ c el fz, w.heap[b]? = some (.cells c el fz) -> ∃ c' el', w'.heap[b]? = some (.cells c' el' fz) /\ c'.size = c.size)
   (hy : V g y u) (hyo : SubP (jC y u) (jC x v ++ ky w b ob)) (hyb : b ∉ jC y u) (hob : OBJ (g.renew b) w' b ob') (hown : ∃ r, ky w' b ob' = b :: r /\ r.Sublist (jC y u)) (h1 : w'.os = w.os) (h2 : w'.tape = w.tape) (h3 : w'.output = w.output) :
   ∃ O', R (g.renew b) O' l ((σ.set id .dead) ++ [ob']) w' /\ Grow O g w O' (g.renew b) w' := by
 have hbO : b ∈ O := h.sub b (rZ _ (jY hι hσ (jR hlive)));have hM : ∀ o, g.M b o = none := h.apart id b ob hι hσ (jR hlive);have hd := h.upd (ob' := .dead) (w' := w') hy hι hσ hlive hw hs hsp trivial (by
   simp only [ky, rP];exact hyo)
 -- nothing owns the block now
 have hnb : b ∉ jN ((y, u) :: l) ++ kt w' g.ι (σ.set id .dead) := by
   intro hm;have hn := h.nodup;have hin : b ∈ kt w g.ι σ := jY hι hσ (jR hlive);have e : jN ((y, u) :: l) = jC y u ++ jN l := by simp [jN]
   have e' : jN ((x, v) :: l) = jC x v ++ jN l := by simp [jN]
   rcases List.mem_append.1 hm with hm | hm
   . rw [e] at hm
     rcases List.mem_append.1 hm with hm | hm
     . exact hyb hm
     . exact (List.nodup_append.1 hn).2.2 b (by rw [e']; exact rZ _ hm) b hin rfl
   . simp only [kt, List.mem_flatten] at hm;obtain ⟨c, hc, hbc⟩ := hm;obtain ⟨j, k, z, q1, q2, rfl⟩ := jJ hc
     cases k with
     | un zs => cases hbc
     | bk k =>
     have hbc : b ∈ ky w' k z := hbc
     by_cases hj : j = id
     . subst hj;rw [rK (ja hσ)] at q2; cases q2;simp [ky] at hbc
     . rw [rD (by omega)] at q2;have hk : ky w' k z = ky w k z \/ k = b := by
         by_cases e : k = b
         . exact .inr e
         . exact .inl (qT (hw k e) z)
       have hnS := (List.nodup_append.1 hn).2.1;have g1 : (List.zipWith (qh w) g.ι σ)[id]? = some (ky w b ob) := by simp [tT, hι, hσ, qh]
       have g2 : (List.zipWith (qh w) g.ι σ)[j]? = some (ky w k z) := by simp [tT, q1, q2, qh]
       rcases hk with hk | hk
       . rw [hk] at hbc;exact vP hnS g1 g2 (by omega) (jR hlive) hbc
       . subst hk
         by_cases hyd : z = .dead
         . subst hyd; simp [ky] at hbc
         . exact vP hnS g1 g2 (by omega) (jR hlive) (jR hyd)
 have hf := hd.free_of hnb;have hkf : b ∉ O.filter (fun k => k != b) := by simp
 have hg : R { g with T := fun k => if k = b then none else g.T k } (O.filter (fun k => k != b)) ((y, u) :: l) (σ.set id .dead) w' := by
   refine hf.ghost hkf rfl rfl (fun _ _ _ => rfl) (fun _ _ h => h) (fun k hk => by simp [hk]) (fun o v hm => ?_);rw [hM o] at hm; cases hm
 have ha := hg.addObj (k := b) (ob := ob') hkf (by rw [hs]; exact h.lt b hbO) hM (by simp) hob hown;refine ⟨_, ha, ⟨by omega, fun k hk hkO => ⟨hw k (fun e => hkO (e ▸ hbO)), ?_, fun _ => rfl⟩, fun _ _ _ h => h, fun j k hj => ?_, fun k hk => ?_, rfl, h1, h2, h3, fun _ => rS _⟩⟩
 . have : k ≠ b := fun e => hkO (e ▸ hbO);simp [Gh.renew, this]
 . simp only [Gh.renew]; rw [zL (ja hj)]; exact hj
 . rcases List.mem_cons.1 hk with rfl | hk
   . exact .inl hbO
   . exact .inl (List.mem_filter.1 hk).1
end Go.Idl
namespace Go.Idl
variable [Globs]
variable {P : Program} {o : Oper} {a : Act} {g : Gh} {O : List Nat} {w : World} {s : St} {res : Res} {cf : jD}
theorem VF : ∀ {ys : List IVal} {us : List Value}, ys.length = us.length -> (∀ (j : Nat) y u, ys[j]? = some y -> us[j]? = some u -> V g y u) -> (∀ y ∈ ys, nt y = true) ->
   (ys.flatMap fun v => (un2 v).cells).length = (jl us).length /\ ∀ (j : Nat) x v, (ys.flatMap fun v => (un2 v).cells)[j]? = some x -> (jl us)[j]? = some v -> V g x v /\ un1 x = x /\ x.isCell = true := by
 intro ys
 induction ys with
 | nil => intro us h _ _; have : us = [] := List.length_eq_zero_iff.1 h.symm; subst this; simp [jl]
 | cons y ys ih =>
   intro us h hv hn
   cases us with
   | nil => simp at h
   | cons u us =>
     have hV := hv 0 y u rfl rfl;obtain ⟨h1, h2⟩ := ih (us := us) (by simpa using h) (fun j y u hy hu => hv (j + 1) y u (by simpa using hy) (by simpa using hu)) (fun y hy => hn y (by simp [hy]));have e : jl (u :: us) = u.cells.toList ++ jl us := by simp [jl]
     obtain ⟨c1, c2⟩ := hV.un2.cells;have hfl := jbk hV (hn y (by simp));have el : (un2 y).cells.length = u.cells.toList.length := by simpa using c1
     simp only [rR];rw [e];refine ⟨by simp only [rI, h1, el], fun j x v hx hv' => ?_⟩
     by_cases hj : j < (un2 y).cells.length
     . rw [zL hj] at hx;rw [zL (by omega)] at hv';obtain ⟨q1, q2⟩ := hfl x (zM hx);exact ⟨c2 j x v hx (by simpa using hv'), q1, q2⟩
     . rw [zR (by omega)] at hx;rw [zR (by omega), <- el] at hv';exact h2 _ x v hx hv'
theorem jd2 {ys : List IVal} {us : List Value} (hl : ys.length = us.length) (hv : ∀ (j : Nat) y u, ys[j]? = some y -> us[j]? = some u -> V g y u) (hn : ∀ y ∈ ys, nt y = true) : ∀ v ∈ jl us, v.oneCell' = true := by
 obtain ⟨h1, h2⟩ := VF hl hv hn;intro v hv';obtain ⟨j, hj⟩ := ju hv';obtain ⟨x, hx⟩ := jH h1.symm hj;obtain ⟨q1, _, q3⟩ := h2 j x v hx hj;exact vu (by rw [<- q1.isCell]; exact q3)
theorem jb6 {A : List IVal} {c : List Value} (n : Nat) : (List.zipWith kC (A.take n) (c.take n)).flatten.Sublist (List.zipWith kC A c).flatten := by
 rw [<- List.take_zipWith];generalize List.zipWith kC A c = l;have : l.flatten = (l.take n).flatten ++ (l.drop n).flatten := by rw [<- List.flatten_append, List.take_append_drop]
 rw [this]; exact List.sublist_append_left _ _
theorem jd4 {A B : List IVal} {C D : List Value} (hl : A.length = C.length) (hB : ∀ (j : Nat) x v, B[j]? = some x -> D[j]? = some v -> kC x v = []) : (List.zipWith kC (A ++ B) (C ++ D)).flatten = (List.zipWith kC A C).flatten := by
 rw [List.zipWith_append hl, List.flatten_append];rw [show (List.zipWith kC B D).flatten = [] from flatten_nil (fun x hx => by
   obtain ⟨j, y, v, h1, h2, rfl⟩ := jJ hx;exact hB j y v h1 h2)]
 simp
theorem YG {isS : Bool} {x y : Opd} {rx ry : Operand} {c : Call} {T U E : TypeId} {du : TypeDesc} {i : TypeInfo} {z : Value} (hop : o.op = .call c) (hc : c.callee = .builtin .append) (ha : c.args = #[rx, ry]) (hta : c.argTypes = #[T, U]) (hx : jg x rx = true) (hy : jg y ry = true)
   (hT : P.underlying T = some (.slice E)) (hU : P.underlying U = some du) (hdu : ∀ k, du ≠ .int k) (hi : P.info? E = some i) (hz : i.zero = some z) (hzs : z.cells.size = i.size)
   (hs : stepOp cf (.append true isS i.size i.bytes x y) s = some res) (hl : WT s.ts a.tmps) (hR : R g O (s.ts.roots a.tmps) s.σ w) : SimV P o a g O w s res := by
 simp only [stepOp] at hs;split at hs
 . rename_i base ts h;split at hs
   . rename_i yv ts' h';split at hs
     . rename_i ys hys;have hexec : ∀ r w', (Builtin.append_ #[T, U] o.type #[a.eval rx, a.eval ry]).run P w = .ok r w' -> (execOp a.eval o).run P w = .ok (.value r) w' := by
         intro r w' hr;simp [execOp, hop, resolve, hc, ha, hta, invoke, builtin, hr]
       obtain ⟨h1, h2⟩ := je (l := []) hx h hl hR;obtain ⟨h3, h4⟩ := je (l := [(base, a.eval rx)]) hy h' h2 h1;obtain ⟨us, u1, u2, u3, u4, u5, u6⟩ := Kc (P := P) h3 h3.head hys;obtain ⟨k1, k2⟩ := VF u1 u2 u3;have hflen : (jl us).length = ys.length * i.size := by rw [jW u4, u1]
       have hroot : R g O ((base, a.eval rx) :: ts'.roots a.tmps) s.σ w := h3.drop;have hroot := hroot.nilOwn i.size;have hV := hroot.head;generalize nilOwn i.size base = base at hs hV hroot;generalize hrx : a.eval rx = rxv at hV hroot;split at hs
       . rename_i own rf xs;split at hs
         . rename_i hcond;obtain ⟨hown, h0, hb1, hb2⟩ := hcond;subst hown;simp only [if_true] at hs;split at hs
           . rename_i hxs;have hxs : xs = [] := List.length_eq_zero_iff.1 hxs;subst hxs;have hlenx : ∃ ad, rxv = .slice ad 0 0 := by
               cases hV with
               | nil => exact ⟨none, rfl⟩
               | sl _ _ _ vs ad cap _ _ hc' hl' hv' hf' hr' hz' hcl ho hn =>
                 have := (ho (by omega)).2.1 rfl;subst this;exact ⟨some ad, rfl⟩
             obtain ⟨ad, rfl⟩ := hlenx;split at hs
             . rename_i hys0;have hys0 : ys = [] := List.length_eq_zero_iff.1 hys0;subst hys0;simp only [rv, zO] at hs;subst hs;have hus : us = [] := List.length_eq_zero_iff.1 (by simpa using u1.symm);subst hus;have hrun : (Builtin.append_ #[T, U] o.type #[.slice ad 0 0, a.eval ry]).run P w = .ok (.slice ad (0 + 0) 0) w := by
                 refine kK hT hU hdu hi u5 (u6 w rfl) (by simp) ?_;cases ad <;> simp [jl, storeCells]
               exact SimV.same (hexec _ _ (by rw [hrx]; exact hrun)) hroot h4
             . rename_i hys0;simp only [zO] at hs;subst hs;have hneed : (0 + ys.length) * i.bytes <= 140737488355328 := by simp only [List.length_nil] at hb1; omega
               have hrun := qE (ty := o.type) (base := ad) (sLen := 0) (sCap := 0) (olds := []) hT hU hdu hi hz u5 u6 (fun W _ => by
                 cases ad with
                 | none => simp [Builtin.firstCells]
                 | some ad => exact run_firstCells_some (P := P) W i.size 0 ad 0 0 [] (by simp) (by simp)) (by omega) (by simp only [List.length_nil] at hb2; omega) (growslice_fits (by omega) hneed)
               have hge := grownCap_ge w (0 + ys.length) 0 E;generalize hcapd : grownCap w (0 + ys.length) 0 E = cap' at hrun hge;simp only [t7] at hrun hge;have hzc : (Builtin.zeroCells z.cells (cap' - ys.length)).size = (cap' - ys.length) * i.size := by
                 simp [Builtin.zeroCells, hzs]
               have hR0 : R g O ((.sl i.size rf [], .slice ad 0 0) :: ts'.roots a.tmps) s.σ w.drew := hroot.world (rS _) (fun _ _ => rfl);have hG0 : Grow O g w O g w.drew := ⟨rS _, fun _ _ _ => ⟨rfl, rfl, fun _ => rfl⟩, fun _ _ _ h => h, fun _ _ h => h, fun _ h => .inl h, rfl, rfl, rfl, rfl, fun _ => rS _⟩;have hcs : (([] : List Value).toArray ++ (jl us).toArray ++ Builtin.zeroCells z.cells (cap' - ys.length)).size = cap' * i.size := by
                 simp only [Array.size_append, hzc, List.size_toArray, hflen, List.length_nil, t7];rw [<- tO]; congr 1; omega
               have hget : ∀ (j : Nat) v, (([] : List Value).toArray ++ (jl us).toArray ++ Builtin.zeroCells z.cells (cap' - ys.length))[j]? = some v -> j < ys.length * i.size -> (jl us)[j]? = some v := by
                 intro j v hj hlt;rw [Array.getElem?_append_left (by simp [hflen]; exact hlt)] at hj;simpa using hj
               have hι : ∀ (id b : Nat), g.ι[id]? = some (Blk.bk b) -> (g.fresh w.heap.size).ι[id]? = some (Blk.bk b) := fun (id b : Nat) hb => by simp only [Gh.fresh]; rw [zL (ja hb)]; exact hb
               have hcl : ∀ (j : Nat) x v, (ys.flatMap fun v => (un2 v).cells)[j]? = some x -> (([] : List Value).toArray ++ (jl us).toArray ++ Builtin.zeroCells z.cells (cap' - ys.length))[j]? = some v -> V g x v /\ un1 x = x /\ x.isCell = true := by
                 intro j x v hxj hvj;have := ja hxj;rw [k1, hflen] at this;exact k2 j x v hxj (hget j v hvj this)
               have hnew := hR0.new (obr := .cells (([] : List Value).toArray ++ (jl us).toArray ++ Builtin.zeroCells z.cells (cap' - ys.length)) E) (ob := .cells (ys.flatMap fun v => (un2 v).cells)) (fun _ =>
                 ⟨_, E, (0, 0), jy _ _, .inl rfl, by rw [k1, hflen, hcs]; exact XB _ (by omega), fun j x v hxj hvj => by
                   obtain ⟨q1, q2, q3⟩ := hcl j x v hxj hvj;exact ⟨q1.mono hι (fun _ _ _ h => h) (by rw [kw q3, kG q2]; simp), q3⟩⟩) ⟨[], by
                 simp only [ky];rw [flatten_nil];intro cc hcm;obtain ⟨j, x, y, q1, q2, rfl⟩ := jJ hcm;have hb : jM (w.drew.alloc (.cells (([] : List Value).toArray ++ (jl us).toArray ++ Builtin.zeroCells z.cells (cap' - ys.length)) E)) w.drew.heap.size = _ := jQ ..;rw [hb] at q2;exact kG (hcl j x y q1 (by rw [<- Array.getElem?_toList]; exact q2)).2.1 _, by simp⟩
               refine ⟨rfl, _, _, _, hexec _ _ (by rw [hrx]; exact hrun), rfl, _, w.heap.size :: O, [], hG0.trans ((kc hR0 _).trans (Grow.setZ _ _ _ _ _)), (hnew.setZ (z := cap' * i.size) (jy _ _) (by rw [hcs]; exact rS _)).push (.rs _ _ _ _ _ _ ?_ (by omega) (by rw [t7]; exact JC _ _ _)) rfl, h4, rfl, Keep.snoc _ _⟩;simp [Gh.fresh, Gh.setZ, <- hR.len]
           . cases hs
         . cases hs
       . rename_i e id off len;split at hs
         . rename_i hcond;obtain ⟨-, he, ho, h0, hb1, hb2⟩ := hcond;subst he ho;split at hs
           . rename_i cs hcs;split at hs
             . rename_i hlen;simp only [zO] at hs;subst hs;obtain ⟨b, cap, rfl, hι, hcap, hz0⟩ := hV.rs_inv';have hσ := jw hcs;obtain ⟨c, el, fz, hh, hnf, hsz, hc'⟩ := hroot.objs id b _ hι hσ;have hA : (cs.take (len * i.size)).length = len * i.size := by simp; omega
               have hC : (c.toList.take (len * i.size)).length = len * i.size := by simp; omega
               have hVA : ∀ (j : Nat) x v, (cs.take (len * i.size))[j]? = some x -> (c.toList.take (len * i.size))[j]? = some v -> V g x v /\ x.isCell = true := by
                 intro j x v hx hv;have hj := ja hx;rw [hA] at hj;rw [tK, if_pos hj] at hx hv;exact hc' j x v hx (by simpa using hv)
               have hy : V g (.agg (cs.take (len * i.size))) (.agg (c.toList.take (len * i.size)).toArray) := by
                 refine .agg _ _ (by simp only [List.size_toArray]; rw [hA, hC]) (fun j x v hx hv => (hVA j x v hx (by simpa using hv)).1) (fun x hx => ?_);obtain ⟨j, hj⟩ := ju hx;obtain ⟨v, hv⟩ := jH (hA.trans hC.symm) hj;exact (hVA j x v hj hv).2
               have hoy : jC (.agg (cs.take (len * i.size))) (.agg (c.toList.take (len * i.size)).toArray) = (List.zipWith kC (cs.take (len * i.size)) (c.toList.take (len * i.size))).flatten := rfl;have hob : ky w b (.cells cs) = b :: (List.zipWith kC cs c.toList).flatten := by simp [ky, jM, hh]
               have hsub := jb6 (A := cs) (c := c.toList) (len * i.size);have hlive : IObj.cells cs ≠ .dead := by simp
               have hnd : (ky w b (.cells cs)).Nodup := by
                 have h5 := (List.nodup_append.1 hroot.nodup).2.1;refine h5.sublist (List.sublist_flatten_of_mem ?_);refine zM (i := id) ?_;simp [tT, hι, hσ, qh]
               have hbA : b ∉ (List.zipWith kC (cs.take (len * i.size)) (c.toList.take (len * i.size))).flatten := by
                 rw [hob, List.nodup_cons] at hnd;exact fun hm => hnd.1 (hsub.mem hm)
               have hyo : SubP (jC (.agg (cs.take (len * i.size))) (.agg (c.toList.take (len * i.size)).toArray)) (jC (.rs i.size id 0 len) (.slice (some ⟨b, 0, none⟩) len cap) ++ ky w b (.cells cs)) := by
                 rw [hoy, hob];exact .of_sub ((hsub.trans (List.sublist_cons_self _ _)).trans (List.sublist_append_right _ _))
               have hBget : ∀ {F : List Value} (j : Nat) x v, (cs.take (len * i.size) ++ ys.flatMap fun v => (un2 v).cells)[j]? = some x -> (c.toList.take (len * i.size) ++ (jl us ++ F))[j]? = some v ->
                   ((cs.take (len * i.size))[j]? = some x /\ (c.toList.take (len * i.size))[j]? = some v) \/ (V g x v /\ un1 x = x /\ x.isCell = true) := by
                 intro F j x v hx hv
                 by_cases hj : j < len * i.size
                 . rw [zL (by omega)] at hx hv;exact .inl ⟨hx, hv⟩
                 . rw [zR (by omega), hA] at hx;rw [zR (by omega), hC] at hv;have := ja hx;rw [zL (by omega)] at hv;exact .inr (k2 _ x v hx hv)
               have hownB : ∀ {F : List Value}, (List.zipWith kC (cs.take (len * i.size) ++ ys.flatMap fun v => (un2 v).cells) (c.toList.take (len * i.size) ++ (jl us ++ F))).flatten = (List.zipWith kC (cs.take (len * i.size)) (c.toList.take (len * i.size))).flatten := by
                 intro F;refine jd4 (hA.trans hC.symm) (fun j x v hx hv => ?_);have := ja hx;rw [zL (by omega)] at hv;exact kG (k2 j x v hx hv).2.1 v
               have hlenN : (cs.take (len * i.size) ++ ys.flatMap fun v => (un2 v).cells).length = (len + ys.length) * i.size := by
                 rw [rI, hA, k1, hflen, tO]
               have hkeep : Keep s.σ (s.σ.set id .dead ++ [.cells (cs.take (len * i.size) ++ ys.flatMap fun v => (un2 v).cells)]) [(id, false)] :=
                 (Keep.set (ob := .dead) (rf := false) (fun n _ _ _ => (trivial : True))).trans (Keep.snoc _ _)
               by_cases hroom : len + ys.length <= cap
               . have hcapc : cap * i.size <= c.size := by
                   rcases Nat.eq_zero_or_pos (cap * i.size) with h9 | h9
                   . omega
                   . obtain ⟨c2, el2, fz2, q1, q2⟩ := hroot.zs b (by omega);rw [hh] at q1; cases q1; omega
                 have hmul : len * i.size + ys.length * i.size <= cap * i.size := by rw [<- tO]; exact XB _ hroom
                 have hst := ke P b (0 + len * i.size) el fz (jl us) 0 c w hh hnf (by omega) (jd2 u1 u2 u3);have hrun : (Builtin.append_ #[T, U] o.type #[.slice (some ⟨b, 0, none⟩) len cap, a.eval ry]).run P w = .ok (.slice (some ⟨b, 0, none⟩) (len + ys.length) cap) _ :=
                   kK hT hU hdu hi u5 (u6 w rfl) hroom (by
                     simp only;rw [jX]; exact hst)
                 simp only [Nat.add_zero, t7, zS] at hrun;generalize hcc : (c.toList.take (len * i.size) ++ (jl us ++ c.toList.drop (len * i.size + (jl us).length))).toArray = c2 at hrun;have hc2 : c2.toList = c.toList.take (len * i.size) ++ (jl us ++ c.toList.drop (len * i.size + (jl us).length)) := by rw [<- hcc]
                 have hc2s : c2.size = c.size := by rw [<- hcc]; simp; omega
                 have hf := kU w b c2;have hrow := setRow_heap w b c c2 el _ hh;obtain ⟨O', hR', hg⟩ := hroot.renew (ob' := .cells (cs.take (len * i.size) ++ ys.flatMap fun v => (un2 v).cells)) hι hσ hlive (fun k hk => setRow_other w b k c2 hk) hf.2.2.2 (fun c0 el0 fz0 h9 => by
                     rw [hh] at h9; cases h9; exact ⟨c2, el, hrow, hc2s⟩) hy hyo (by rw [hoy]; exact hbA) ⟨c2, el, fz, hrow, hnf.of_size hc2s, by rw [hlenN, hc2s, tO]; omega, fun j x v hx hv => by
                       have hv' : c2.toList[j]? = some v := by simpa using hv
                       rw [hc2] at hv'
                       rcases hBget j x v hx hv' with ⟨q1, q2⟩ | ⟨q1, q2, q3⟩
                       . obtain ⟨p1, p2⟩ := hVA j x v q1 q2;refine ⟨p1.mono (fun id' b' hb' => by simp only [Gh.renew]; rw [zL (ja hb')]; exact hb') (fun _ _ _ h => h) (fun b' hb' => ?_), p2⟩;have : b' ≠ b := fun e => hbA (by
                           subst e;rw [kw p2] at hb';exact kR (f := kC) q1 q2 hb')
                         simp [Gh.renew, this]
                       . exact ⟨q1.mono (fun id' b' hb' => by simp only [Gh.renew]; rw [zL (ja hb')]; exact hb') (fun _ _ _ h => h) (by rw [kw q3, kG q2]; simp), q3⟩⟩
                     ⟨_, by simp only [ky, jM, hrow]; rw [hc2], by rw [hownB, hoy]; exact .refl _⟩ hf.1 hf.2.1 hf.2.2.1
                 refine ⟨rfl, _, _, _, hexec _ _ (by rw [hrx]; exact hrun), rfl, _, O', [(id, false)], hg, hR'.push (.rs _ _ _ _ _ _ ?_ hroom hz0) rfl, h4, rfl, hkeep⟩;simp [Gh.renew, <- hR.len]
               . have hneed : (len + ys.length) * i.bytes <= 140737488355328 := by omega
                 have hold : ∀ W : World, W.heap = w.heap -> (Builtin.firstCells i.size len (.slice (some ⟨b, 0, none⟩) len cap)).run P W = .ok (c.toList.take (len * i.size)).toArray W := by
                   intro W hW;refine run_firstCells_some (P := P) W i.size len ⟨b, 0, none⟩ len cap _ hC (fun j v hj => ?_);have hjl := ja hj;rw [hC] at hjl;rw [tK, if_pos hjl] at hj;rw [jX];simp only [World.cell?, hW, hh, t7];simpa using hj
                 have hrun := qE (ty := o.type) hT hU hdu hi hz u5 u6 hold (by omega : cap < len + ys.length) (by omega) (growslice_fits (by omega) hneed);have hge := grownCap_ge w (len + ys.length) cap E;generalize hcapd : grownCap w (len + ys.length) cap E = cap' at hrun hge;have hzc : (Builtin.zeroCells z.cells (cap' - (len + ys.length))).size = (cap' - (len + ys.length)) * i.size := by
                   simp [Builtin.zeroCells, hzs]
                 have hdead := hroot.upd (ob' := .dead) (w' := w) hy hι hσ hlive (fun _ _ => rfl) rfl (fun c0 el0 fz0 h9 => ⟨c0, el0, h9, rfl⟩) trivial (by simp only [ky, rP]; exact hyo);have hR0 := hdead.world (w' := w.drew) (rS _) (fun _ _ => rfl);have hG0 : Grow O g w O g w.drew := ⟨rS _, fun _ _ _ => ⟨rfl, rfl, fun _ => rfl⟩, fun _ _ _ h => h, fun _ _ h => h, fun _ h => .inl h, rfl, rfl, rfl, rfl, fun _ => rS _⟩;generalize hcc : (c.toList.take (len * i.size)).toArray ++ (jl us).toArray ++ Builtin.zeroCells z.cells (cap' - (len + ys.length)) = c2 at hrun;have hc2 : c2.toList = c.toList.take (len * i.size) ++ (jl us ++ (Builtin.zeroCells z.cells (cap' - (len + ys.length))).toList) := by rw [<- hcc]; simp
                 have hc2s : c2.size = cap' * i.size := by
                   have : c2.size = c2.toList.length := by simp
                   rw [this, hc2, rI, rI, hC, hflen];have e9 : (Builtin.zeroCells z.cells (cap' - (len + ys.length))).toList.length = (cap' - (len + ys.length)) * i.size := by simpa using hzc
                   rw [e9, <- tO, <- tO]
                   congr 1; omega
                 have hnew := hR0.new (obr := .cells c2 E) (ob := .cells (cs.take (len * i.size) ++ ys.flatMap fun v => (un2 v).cells)) (fun hVf =>
                   ⟨c2, E, (0, 0), jy _ _, .inl rfl, by rw [hlenN, hc2s]; exact XB _ hge, fun j x v hx hv => by
                     have hv' : c2.toList[j]? = some v := by simpa using hv
                     rw [hc2] at hv'
                     rcases hBget j x v hx hv' with ⟨q1, q2⟩ | ⟨q1, q2, q3⟩
                     . cases hVf with
                       | agg _ _ hl' hv'' hi' => exact ⟨hv'' j x v q1 (by simpa using q2), hi' x (zM q1)⟩
                     . exact ⟨q1.mono (fun id' b' hb' => by simp only [Gh.fresh]; rw [zL (ja hb')]; exact hb') (fun _ _ _ h => h) (by rw [kw q3, kG q2]; simp), q3⟩⟩)
                   ⟨_, by
                     simp only [ky];have hb : jM (w.drew.alloc (.cells c2 E)) w.drew.heap.size = c2.toList := jQ ..;rw [hb, hc2], by rw [hownB, hoy]; exact .refl _⟩
                 refine ⟨rfl, _, _, _, hexec _ _ (by rw [hrx]; exact hrun), rfl, _, w.heap.size :: O, [(id, false)], hG0.trans ((kc hR0 _).trans (Grow.setZ _ _ _ _ _)), (hnew.setZ (z := cap' * i.size) (jy _ _) (by rw [hc2s]; exact rS _)).push (.rs _ _ _ _ _ _ ?_ hge (by rw [t7]; exact JC _ _ _)) rfl, h4, rfl, hkeep⟩;simp [Gh.fresh, Gh.setZ, <- hR.len]
             . cases hs
           . cases hs
         . cases hs
       . cases hs
     . cases hs
   . cases hs
 . cases hs
theorem YF {br isS : Bool} {x y : Opd} {rx ry : Operand} {c : Call} {T U E : TypeId} {du : TypeDesc} {i : TypeInfo} {z : Value} (hop : o.op = .call c) (hc : c.callee = .builtin .append) (ha : c.args = #[rx, ry]) (hta : c.argTypes = #[T, U]) (hx : jg x rx = true) (hy : jg y ry = true)
   (hT : P.underlying T = some (.slice E)) (hU : P.underlying U = some du) (hdu : ∀ k, du ≠ .int k) (hi : P.info? E = some i) (hz : i.zero = some z) (hzs : z.cells.size = i.size)
   (hs : stepOp cf (.append br isS i.size i.bytes x y) s = some res) (hl : WT s.ts a.tmps) (hR : R g O (s.ts.roots a.tmps) s.σ w) : SimV P o a g O w s res := by
 cases br with
 | false => exact jau hop hc ha hta hx hy hT hU hdu hi hz hzs hs hl hR
 | true => exact YG hop hc ha hta hx hy hT hU hdu hi hz hzs hs hl hR
theorem Vo {x : Opd} {r : Operand} {S T e : TypeId} (hop : o.op = .convert S T r) (hx : jg x r = true) (hS : P.underlying S = some .string) (hT : P.underlying T = some (.slice e)) (he : P.underlying e = some (.int .u8))
   (hs : stepOp cf (.conv .bytes x) s = some res) (hl : WT s.ts a.tmps) (hR : R g O (s.ts.roots a.tmps) s.σ w) : SimV P o a g O w s res := by
 simp only [stepOp] at hs;split at hs
 . rename_i av ts h
   cases av with
   | str b =>
     simp only [rv, zO] at hs;subst hs;obtain ⟨h1, h2⟩ := je (l := []) hx h hl hR;obtain ⟨t, hu, ht⟩ := h1.head.str_inv;have hrun := run_bytes_of_string (P := P) w S T e t hS hT he;have hge := grownCap_ge w t.size 0 e;have hR0 : R g O (ts.roots a.tmps) s.σ w.drew := h1.drop.world (rS _) (fun _ _ => rfl);have hG0 : Grow O g w O g w.drew := ⟨rS _, fun _ _ _ => ⟨rfl, rfl, fun _ => rfl⟩, fun _ _ _ h => h, fun _ _ h => h, fun _ h => .inl h, rfl, rfl, rfl, rfl, fun _ => rS _⟩;have hlen : b.length = t.size := by rw [<- ht]; simp
     have hfl : jl (t.data.toList.map fun b => Value.int .u8 b.toNat) = t.data.toList.map fun b => Value.int .u8 b.toNat := yD (by simp [Value.cells]);obtain ⟨g', O', hR', hg, hι⟩ := hR0.newSlice (xs := b.map fun c => .int .u8 c.toNat) (vs := t.data.toList.map fun b => .int .u8 b.toNat) (esz := 1) (cap := grownCap w t.size 0 e) (own := 0) (rf := false)
       (c := bytesRow t (grownCap w t.size 0 e)) (el := e) (fz := ((bytesRow t (grownCap w t.size 0 e)).size, (bytesRow t (grownCap w t.size 0 e)).size + 1)) (by rw [<- ht]; simp) (fun j x v hx hv => by
         rw [<- ht] at hx;simp only [rM, rW] at hx hv;obtain ⟨c, hc, rfl⟩ := hx;obtain ⟨c', hc', rfl⟩ := hv;rw [hc] at hc'; cases hc';exact .int _ _) (fun x hx => by
         simp only [tW] at hx;obtain ⟨c, _, rfl⟩ := hx;exact ⟨rfl, rfl⟩) (fun _ x hx => by
         simp only [tW] at hx;obtain ⟨c, _, rfl⟩ := hx;rfl) (fun v hv => by
         simp only [tW] at hv;obtain ⟨c, _, rfl⟩ := hv;rfl) (fun k v hk => by
         rw [hfl] at hk;simp only [rM, rW] at hk;obtain ⟨c, hc, rfl⟩ := hk;have hkl : k < t.data.size := by have := ja hc; simpa using this
         rw [bytesRow_at t _ k hkl];have : t.data[k] = c := tB ((Array.getElem?_eq_getElem hkl).symm.trans (by simpa using hc));rw [this]) (by simpa [hlen] using hge) (by
         have : t.data.size = t.size := rfl;simp [bytesRow, this]; omega) (.inl rfl) (by simp) (by rw [hfl, <- ht]; simp)
     have e1 : (b.map fun c => IVal.int .u8 c.toNat).length = t.size := by simpa using hlen
     rw [e1] at hR';have hexec : ∀ r w', (convert S T (.string t)).run P w = .ok r w' -> (execOp a.eval o).run P w = .ok (.value r) w' := by
       intro r w' hr;simp only [execOp, hop, hu];simp only [Sem.run_bind, hr, Result.andThen_ok, Sem.run_pure]
     exact ⟨rfl, _, _, _, hexec _ _ hrun, rfl, g', O', [], hG0.trans hg, hR', h2, rfl, Keep.refl _⟩
   | _ => simp at hs
 . cases hs
theorem jcy {zs : List IVal} {x : Opd} {rx : Operand} {c : Call} {T E : TypeId} {i : TypeInfo} {z : Value} (hop : o.op = .call c) (hc : c.callee = .builtin .clear) (ha : c.args = #[rx]) (hta : c.argTypes[0]? = some T) (hx : jg x rx = true)
   (hT : P.underlying T = some (.slice E)) (hi : P.info? E = some i) (hz : i.zero = some z) (hzc : K2 zs z.cells.toList = true) (hzs : z.cells.size = i.size)
   (hs : stepOp cf (.clear zs x) s = some res) (hl : WT s.ts a.tmps) (hR : R g O (s.ts.roots a.tmps) s.σ w) : SimV P o a g O w s res := by
 have hexec : ∀ r w', (Builtin.clear_ c.argTypes o.type #[a.eval rx]).run P w = .ok r w' -> (execOp a.eval o).run P w = .ok (.value r) w' := by
   intro r w' hr;simp [execOp, hop, resolve, hc, ha, invoke, builtin, hr]
 simp only [stepOp] at hs;split at hs
 . rename_i e id off len ts h;split at hs
   . rename_i cs hcs;split at hs
     . rename_i hcond;obtain ⟨he, h0, hle⟩ := hcond;simp only [zO] at hs;subst hs;obtain ⟨h1, h2⟩ := je (l := []) hx h hl hR;obtain ⟨b, cap, hu, hι, hcap⟩ := h1.head.rs_inv;have hσ := jw hcs;obtain ⟨cc, el, fz, hh, hnf, hsz, hcl⟩ := h1.objs id b _ hι hσ;obtain ⟨z1, z2⟩ := vn g hzc;have hzl : zs.length = z.cells.size := by simpa using z1
       have hrl : (K5 len zs).length = len * e := by rw [yJ, <- he]
       have hzsz : (Builtin.zeroCells z.cells len).toList.length = len * e := by
         simp [Builtin.zeroCells, he, hzl]
       have hpt : ∀ (k : Nat) x v, (K5 len zs)[k]? = some x -> (Builtin.zeroCells z.cells len).toList[k]? = some v -> V g x v /\ kC x v = [] /\ x.isCell = true := by
         intro k x v hxk hvk;have hk := ja hxk;rw [yJ] at hk;rw [Vi (by omega) len k hk] at hxk;have hv' : (Builtin.zeroCells z.cells len)[k]? = some v := by simpa using hvk
         have hk2 : k < len * z.cells.size := by rw [<- hzl]; exact hk
         simp only [Builtin.zeroCells, Array.getElem?_map, Array.getElem?_range, if_pos hk2, XA, zO] at hv';have hmod : k % z.cells.size < z.cells.size := Nat.mod_lt _ (by omega);refine z2 (k % zs.length) x v hxk ?_;rw [<- hv', hzl];simp [getElem!_pos, hmod]
       have hput : off + (K5 len zs).length <= cs.length := by omega
       have hput' : off + (Builtin.zeroCells z.cells len).toList.length <= cc.toList.length := by rw [hzsz]; simp; omega
       have hones : ∀ u ∈ (Builtin.zeroCells z.cells len).toList, u.oneCell' = true := by
         intro u hu';obtain ⟨j, hj⟩ := ju hu';obtain ⟨x, hx'⟩ := jH (hzsz.trans hrl.symm) hj;obtain ⟨q1, _, q3⟩ := hpt j x u hx' hj;exact vu (by rw [<- q1.isCell]; exact q3)
       let row := (cc.toList.take off ++ (Builtin.zeroCells z.cells len).toList ++ cc.toList.drop (off + (Builtin.zeroCells z.cells len).toList.length)).toArray
       have hst : (storeCells ⟨b, off, none⟩ (Builtin.zeroCells z.cells len).toList).run P w = .ok () (w.setRow b row) := by
         have := ke P b off el fz (Builtin.zeroCells z.cells len).toList 0 cc w hh hnf (by simpa using hput') hones;simpa [row] using this
       have hrun : (Builtin.clear_ c.argTypes o.type #[a.eval rx]).run P w = .ok (.tuple #[]) (w.setRow b row) := by
         rw [hu]
         by_cases hl0 : len = 0
         . subst hl0;have he0 : (Builtin.zeroCells z.cells 0).toList = [] := by simp [Builtin.zeroCells]
           rw [he0] at hst;have hws : w.setRow b row = w := by
             have : (storeCells ⟨b, off, none⟩ []).run P w = .ok () w := by simp [storeCells]
             have h9 := this.symm.trans hst;injection h9 with _ h10
             exact h10.symm
           rw [hws];simp [Builtin.clear_, hta, jh hT]
         . cases len with
           | zero => exact absurd rfl hl0
           | succ n => simp [Builtin.clear_, hta, jh hT, zeroValue, typeInfo, hi, hz, hst]
       have hrow : (w.setRow b row).heap[b]? = some (.cells row el fz) := setRow_heap w b cc row el _ hh;have hOB : OBJ g (w.setRow b row) b (.cells (putCells cs off (K5 len zs))) := by
         refine ⟨row, el, fz, hrow, hnf.of_size (by simp [row]; simp at hput'; omega), ?_, fun j x u hxj huj => ?_⟩
         . rw [kQ hput]; simp [row]; simp at hput'; omega
         . rw [kP hput] at hxj;have huj' : (cc.toList.take off ++ (Builtin.zeroCells z.cells len).toList ++ cc.toList.drop (off + (Builtin.zeroCells z.cells len).toList.length))[j]? = some u := by simpa [row] using huj
           rw [J4 hput', hzsz, <- hrl] at huj';split at hxj
           . rename_i hj;rw [if_pos hj] at huj';obtain ⟨q1, _, q3⟩ := hpt _ x u hxj huj';exact ⟨q1, q3⟩
           . rename_i hj;rw [if_neg hj] at huj';exact hcl j x u hxj (by simpa using huj')
       have hf := kU w b row;have hR' := h1.upd (y := undefI) (u := undef) (id := id) (b := b) (ob := .cells cs) (ob' := .cells (putCells cs off (K5 len zs))) (w' := w.setRow b row) (j5 g) hι hσ (by simp) (fun k hk => setRow_other w b k row hk) hf.2.2.2 (fun c' el' fz' hc' => by
         rw [hh] at hc'; cases hc';exact ⟨row, el, hrow, by simp [row]; simp at hput'; omega⟩) hOB (by
         simp only [ky, jM, hh, hrow];obtain ⟨A, C, e1, e2⟩ := KE (cs := cs) (ws := K5 len zs) (c := cc.toList) (us := (Builtin.zeroCells z.cells len).toList) (off := off) (by simpa using hsz) (by rw [hzsz, hrl]) hput;have emid : (List.zipWith kC (K5 len zs) (Builtin.zeroCells z.cells len).toList).flatten = [] := flatten_nil (fun x hx => by
           obtain ⟨j, y, v, q1, q2, rfl⟩ := jJ hx;exact (hpt j y v q1 q2).2.1)
         rw [show row.toList = cc.toList.take off ++ (Builtin.zeroCells z.cells len).toList ++ cc.toList.drop (off + (Builtin.zeroCells z.cells len).toList.length) from rfl, e1, e2, emid];refine SubP.of_sub ?_;show List.Sublist (b :: (A ++ [] ++ C)) (jC (.rs e id off len) (a.eval rx) ++ (b :: (A ++ _ ++ C)));refine List.Sublist.trans ?_ (List.sublist_append_right _ _);refine List.Sublist.cons_cons _ ?_;refine List.Sublist.append ?_ (.refl _);rw [rP]; exact List.sublist_append_left _ _)
       refine ⟨rfl, undef, _, _, hexec _ _ hrun, rfl, g, O, [(id, !(zs.all nr1))], ?_, hR', h2, rfl, Keep.set fun m hid hm ho => ?_⟩
       . exact Grow.of_setRow g w (h1.sub b (rZ _ (jY hι hσ (by simp [ky])))) _ (fun k hk => setRow_other w b k row hk) hf.2.2.2 hf.1 hf.2.1 hf.2.2.1
       . refine J9 hput (ho _ hσ) (fun x hx => ?_);have hxz : x ∈ zs := by
           simp only [K5, List.mem_flatten] at hx;obtain ⟨l, hl', hxl⟩ := hx;rw [List.eq_of_mem_replicate hl'] at hxl; exact hxl
         obtain ⟨j, hj⟩ := ju hxz;obtain ⟨u, hu'⟩ := jH z1 hj;have hVx := (z2 j x u hj hu').1
         by_cases hnr : zs.all nr1 = true
         . exact hVx.norl m (kp (qK (List.all_eq_true.1 hnr x hxz)))
         . exact absurd (hm (by simpa using hnr)) (by omega)
     . cases hs
   . cases hs
 . rename_i own r ts h;simp only [rv, zO] at hs;subst hs;obtain ⟨h1, h2⟩ := je (l := []) hx h hl hR;have hV := h1.head;have hrun : (Builtin.clear_ c.argTypes o.type #[a.eval rx]).run P w = .ok (.tuple #[]) w := by
     generalize a.eval rx = u at hV
     cases hV with
     | nil => simp [Builtin.clear_, hta, jh hT]
     | sl _ _ _ vs ad cap _ _ hc' hl' => simp [Builtin.clear_, hta, jh hT]
   exact SimV.same (hexec _ _ hrun) (h1.swap (fun _ => j5 g) (by simp [undefI, undef, jC])) h2
 . cases hs
end Go.Idl
namespace Go.Idl
variable [Globs]
variable {P : Program}
def Kj (P : Program) (T : TypeId) : Option (TypeInfo × Value) :=
 match P.info? T with
 | some i => match i.zero with
   | some z => some (i, z)
   | none => none
 | none => none
theorem ko {T : TypeId} {i : TypeInfo} {z : Value} (h : Kj P T = some (i, z)) : P.info? T = some i /\ i.zero = some z := by
 unfold Kj at h;split at h
 . split at h
   . simp at h; obtain ⟨rfl, rfl⟩ := h; exact ⟨by assumption, by assumption⟩
   . cases h
 . cases h
def zw (P : Program) (T : TypeId) : Option (Array Value × (Nat -> Option (Nat × Nat))) :=
 match P.info? T, P.underlying T with
 | some it, some (.array _ e) =>
   match it.zero, P.info? e with
   | some z, some ie => some (z.cells, fun i => some (i * ie.size, ie.size))
   | _, _ => none
 | some it, some (.struct fields) =>
   match it.zero, fields.toList.mapM (fun f => (P.info? f.type).map fun i => (f.offset, i.size)) with
   | some z, some places => some (z.cells, fun i => places.toArray[i]?)
   | _, _ => none
 | _, _ => none
theorem K6 {T : TypeId} {zc : Array Value} {place : Nat -> Option (Nat × Nat)} (h : zw P T = some (zc, place)) (w : World) (ps : Array (Nat × Value)) (cells : Array Value) (hf : Instr.fill place zc ps.toList = some cells) :
   (Instr.build T ps).run P w = .ok (.agg cells) w := by
 refine run_build w T ps cells ?_;unfold zw at h;unfold Program.built;split at h
 . rename_i h1 h2;split at h
   . rename_i h3 h4;simp at h; obtain ⟨rfl, rfl⟩ := h;simp only [h1, h2, h3, h4]; exact hf
   . cases h
 . rename_i h1 h2;split at h
   . rename_i h3 h4;simp only [zO, zP] at h; obtain ⟨rfl, rfl⟩ := h;simp only [h1, h2, h3, h4]; exact hf
   . cases h
 . cases h
def jiO (P : Program) (T : TypeId) (k : Nat) : Bool :=
 match P.underlying T with
 | some d => jbX k d && decide (k <= 3)
 | none => false
def yG (k : Nat) : Operand -> Bool
 | .const (.pointer none) => k == 0
 | .const .nilIface => k == 1
 | .const .nilFunc => k == 2
 | .const (.map none) => k == 3
 | _ => false
theorem yo {k : Nat} {r : Operand} (h : yG k r = true) : r = .const (vt k) := by
 unfold yG at h;split at h <;> simp at h <;> subst h <;> rfl
def kz (P : Program) (T : TypeId) : Option (TypeId × TypeInfo) :=
 match P.underlying T with
 | some (.slice E) => match P.info? E with
   | some i => some (E, i)
   | none => none
 | _ => none
theorem kh {T E : TypeId} {i : TypeInfo} (h : kz P T = some (E, i)) : P.underlying T = some (.slice E) /\ P.info? E = some i := by
 unfold kz at h;split at h
 . split at h
   . simp at h; obtain ⟨rfl, rfl⟩ := h; exact ⟨by assumption, by assumption⟩
   . cases h
 . cases h
def QF (P : Program) (T : TypeId) (n : Nat) : Bool :=
 match P.info? T with
 | some i => i.size == n
 | none => false
def jgg (d : TypeDesc) : Bool := match d with | .int _ => true | _ => false
def mfn (P : Program) (t : TypeId) (name : String) : Option FuncId := match P.info? t with
 | some i => match i.methods.find? (fun m => m.name == name) with
   | some m => m.func.map (·.1)
   | none => none
 | none => none
def jaZ (P : Program) (c : Call) : IOp -> Bool
 | .inv tab x xs => (match c.callee with | .invoke r name => jg x r && tab.all fun p => KI P p.1 name p.2.1 p.2.2 | _ => false) && jA xs c.args.toList
 | .vOf G tab x => (match c.callee, c.args.toList with | .value (.func f), [r] => jgh P f G tab && jg x r | _, _ => false)
 | .vSet G tab x y => (match c.callee, c.args.toList with | .value (.func f), [rx, ry] => jbz P f G tab && (jg x rx && jg y ry) | _, _ => false)
 | .call f xs => (match c.callee with | .value (.func f') => f == f' | _ => false) && jA xs c.args.toList
 | .callp f xs => (match c.callee with | .value (.func f') => f == f' | _ => false) && jA xs c.args.toList
 | .callv x xs => (match c.callee with | .value r => jg x r | _ => false) && jA xs c.args.toList
 | .lenS x => (match c.callee, c.args.toList, c.argTypes[0]? with | .builtin .len, [r], some T => jg x r && (match P.underlying T with | some .string => true | _ => false) | _, _, _ => false)
 | .lenL x => (match c.callee, c.args.toList, c.argTypes[0]? with | .builtin .len, [r], some T => jg x r && (match P.underlying T with | some (.slice _) => true | _ => false) | _, _, _ => false)
 | .lenM x => (match c.callee, c.args.toList, c.argTypes[0]? with | .builtin .len, [r], some T => jg x r && (match P.underlying T with | some (.map _ _) => true | _ => false) | _, _, _ => false)
 | .clear zs x => (match c.callee, c.args.toList, c.argTypes[0]? with | .builtin .clear, [r], some T => jg x r && (match kz P T with | some (E, _) => (match Kj P E with | some (i, z) => z.cells.size == i.size && K2 zs z.cells.toList | none => false) | none => false) | _, _, _ => false)
 | .minmax mx [x, y] => (match c.callee, c.args.toList with | .builtin b, [rx, ry] => b == (if mx then .max else .min) && jg x rx && jg y ry | _, _ => false)
 | .append _ _ esz bytes x y => (match c.callee, c.args.toList, c.argTypes.toList with
     | .builtin .append, [rx, ry], [T, U] => jg x rx && jg y ry && (match kz P T, P.underlying U with
       | some (E, i), some du => !(jgg du) && i.size == esz && i.bytes == bytes && (match Kj P E with | some (_, z) => z.cells.size == esz | none => false)
       | _, _ => false)
     | _, _, _ => false)
 | _ => false
def Qw (P : Program) (want : Array (String × TypeId)) (t : TypeId) (b : Bool) : Bool :=
 match P.info? t with
 | some i => (lacking want i.methods).isEmpty == b
 | none => false
def Vd (ra rb : Operand) : Option Operand :=
 match ra, rb with
 | _, .const (.slice none 0 0) => some ra
 | .const (.slice none 0 0), _ => some rb
 | _, _ => none
def jgK (P : Program) : Op -> PurK -> List Opd -> Bool
 | .call c, .ext k, xs => (match c.callee with | .value (.func f) => jac P f k | _ => false) && jA xs c.args.toList
 | .call c, .invX tab, xs => (match c.callee with
   | .invoke r name => (tab.all fun p => match mfn P p.1 name with | some f => KI P p.1 name f p.2.2 && jac P f p.2.1 | none => false) && jA xs (r :: c.args.toList)
   | _ => false)
 | .binOp op T ra rb _, .eqa neg ks, xs => op == QU neg && (yT P 1000 T == some ks && ((pnT P T).isSome && (!P.eqGuardType P.depth T && jA xs [ra, rb])))
 | .binOp op T ra rb _, .isnilS neg, xs => op == QU neg && ((match P.underlying T with | some (.slice _) => true | _ => false) && (match Vd ra rb with | some r => jA xs [r] | none => false))
 | .binOp op T ra rb _, .eqi neg ks, xs => op == QU neg && ((match P.underlying T with | some (.interface _) => true | _ => false) && ((ks.all fun p => match P.info? p.1, P.underlying p.1 with | some i, some d => i.comparable && X9 d p.2 | _, _ => false) && jA xs [ra, rb]))
 | .convert S T r, .text, xs => (match P.underlying S with | some (.slice e) => (match P.underlying e with | some (.int .u8) => true | _ => false) | _ => false) && ((match P.underlying T with | some .string => true | _ => false) && jA xs [r])
 | .makeFunc f rs qs, .mkM n, xs => (match f, rs.toList, qs.toList with | .method n', [r], [] => n == n' && jA xs [r] | _, _, _ => false)
 | .nilCheck r, .nilM ts n, xs => (ts.all fun t => jbW P t n) && jA xs [r]
 | .convert S T r, .rune, xs => (P.underlying S).isSome && ((match P.underlying T with | some .string => true | _ => false) && jA xs [r])
 | .typeAssert r _ A ok, .tyC t ok' z, xs => A == t && (ok == ok' && ((match P.underlying A with | some (.interface _) => false | some _ => true | none => false) && ((match Kj P A with | some (_, zv) => cOK z zv | none => false) && jA xs [r])))
 | .typeAssert r _ A ok, .tyI yes no ok', xs => ok == ok' && ((match P.underlying A with | some (.interface want) => yes.all (fun t => Qw P want t true) && no.all (fun t => Qw P want t false) | _ => false) && ((match Kj P A with | some (_, .nilIface) => true | _ => false) && jA xs [r]))
 | .slice T r none none none, .slA n, xs => (match P.underlying T with | some (.array m E) => m == n && QF P E 1 | _ => false) && jA xs [r]
 | .call c, .cap0, xs => (match c.callee, c.args.toList, c.argTypes[0]? with | .builtin .cap, [r], some T => jA xs [r] && (match P.underlying T with | some (.slice _) => true | _ => false) | _, _, _ => false)
 | _, _, _ => false
def jiT (P : Program) : Op -> IOp -> Bool
 | op, .pur k xs => jgK P op k xs
 | op, .mem k xs => jgz P op k xs
 | .panic r, .panic x => jg x r
 | .move r, .mv x => jg x r
 | .assign r, .mv x => jg x r
 | .pick rc ra rb, .pick c a b => jg c rc && jg a ra && jg b rb
 | .alloc T, .alloc zs => (match Kj P T with | some (_, z) => K2 zs z.cells.toList | none => false)
 | .box _ r, .box x => jg x r
 | .box _ r, .boxv x => jg x r
 | .build T rp, .build zs parts => (match zw P T with | some (zc, place) => K2 zs zc.toList && zp place parts rp.toList | none => false)
 | .buildSlice T n rp, .buildSl esz xs => (match kz P T with
     | some (E, i) => i.size == esz && decide (0 < esz) && n == rp.size && (rp.toList.map (·.1) == List.range rp.size) && jA xs (rp.toList.map (·.2)) && (match Kj P E with | some (_, z) => z.cells.size == esz | none => false)
     | none => false)
 | .buildSlice T n rp, .buildRs esz xs => (match kz P T with
     | some (E, i) => i.size == esz && decide (0 < esz) && n == rp.size && (rp.toList.map (·.1) == List.range rp.size) && jA xs (rp.toList.map (·.2)) && (match Kj P E with | some (_, z) => z.cells.size == esz | none => false)
     | none => false)
 | .load T r, .load _ n x => jg x r && tyN P T n
 | .store T rx ry, .store n x y => jg x rx && jg y ry && QF P T n
 | .nilCheck r, .nilCheck x => jg x r
 | .binOp op _ rx ry _, .bin op' x y => op == op' && jg x rx && jg y ry
 | .binOp op T rx ry _, .eqb neg x y => op == (if neg then .neq else .eql) && jg x rx && jg y ry && (match P.underlying T with | some .bool => true | _ => false)
 | .binOp op T ra rb _, .isnil neg k x => op == (if neg then .neq else .eql) && jiO P T k && ((yG k rb && jg x ra) || (yG k ra && jg x rb))
 | .unOp op _ r, .un op' x => op == op' && jg x r
 | .convert S T r, .conv (.int k) x => jg x r && (P.underlying S).isSome && (match P.underlying T with | some (.int k') => k == k' | _ => false)
 | .convert S T r, .conv .same x => jg x r && (match P.underlying S, P.underlying T with | some .string, some .string => true | _, _ => false)
 | .convert S T r, .conv .bytes x => jg x r && (match P.underlying S, P.underlying T with | some .string, some (.slice e) => (match P.underlying e with | some (.int .u8) => true | _ => false) | _, _ => false)
 | .makeInterface T r, .mkIface T' x => T == T' && jg x r && (match P.underlying T with | some (.interface _) => false | some _ => true | none => false)
 | .makeFunc f rs qs, .mkFn f' xs ys => f == f' && jA xs rs.toList && jA ys qs.toList
 | .makeMap _ none, .mkMap => true
 | .makeSlice T rx ry, .mkSl _ esz bytes zs x y => jg x rx && jg y ry && (match kz P T with
     | some (E, i) => i.size == esz && i.bytes == bytes && (match Kj P E with | some (_, z) => z.cells.size == esz && K2 zs z.cells.toList | none => false)
     | none => false)
 | .slice T r lo hi none, .sliceS x l h => jg x r && yt l lo && yt h hi && (match P.underlying T with | some .string => true | _ => false)
 | .slice T r lo hi mx, .sliceL esz x l h m => jg x r && yt l lo && yt h hi && yt m mx && (m.isNone || h.isSome) && (match kz P T with | some (_, i) => i.size == esz | none => false)
 | .fieldAddr T r k, .fieldAddr off x => jg x r && (match P.underlying T with | some (.struct fs) => (match fs[k]? with | some f => f.offset == off && (match P.info? f.type with | some i => i.size != 0 | none => false) | none => false) | _ => false)
 | .field T r k, .field off n x => jg x r && (match P.underlying T with | some (.struct fs) => (match fs[k]? with | some f => f.offset == off && tyN P f.type n | none => false) | _ => false)
 | .indexAddr T rx ry, .idxAddr esz x y => jg x rx && jg y ry && (match kz P T with | some (_, i) => i.size == esz | none => false)
 | .indexAddr T rx ry, .idxAddrA len esz x y => jg x rx && jg y ry && (match P.underlying T with | some (.array n E) => n == len && QF P E esz | _ => false)
 | .index T rx ry, .idxS x y => jg x rx && jg y ry && (match P.underlying T with | some .string => true | _ => false)
 | .index T rx ry, .idxA len esz n x y => jg x rx && jg y ry && (match P.underlying T with | some (.array m E) => m == len && QF P E esz && tyN P E n | _ => false)
 | .lookup T rx ry ok, .lookup kk z ok' x y => ok == ok' && jg x rx && jg y ry && nt z && (match P.underlying T with | some (.map K E) => (match P.underlying K, Kj P E with | some d, some (_, zv) => XG kk d && cOK z zv | _, _ => false) | _ => false)
 | .mapUpdate T rx ry rz, .mapSet kk x y z => jg x rx && jg y ry && jg z rz && (match P.underlying T with | some (.map K _) => (match P.underlying K with | some d => XG kk d | none => false) | _ => false)
 | .insert T rx ry rz, .mapSet kk x y z => jg x rx && jg y ry && jg z rz && (match P.underlying T with | some (.map K _) => (match P.underlying K with | some d => XG kk d | none => false) | _ => false)
 | .extract r i, .extract x j => i == j && jg x r
 | .call c, io => jaZ P c io
 | _, _ => false
end Go.Idl
namespace Go.Idl
variable [Globs]
variable {P : Program} {o : Oper} {a : Act} {g : Gh} {O : List Nat} {w : World} {s : St} {res : Res} {cf : jD}
theorem vC {α : Type} {xs : Array α} {r : α} (h : xs.toList = [r]) : xs = #[r] := Array.toList_inj.1 (by simpa using h)
theorem yO {α : Type} {xs : Array α} {r q : α} (h : xs.toList = [r, q]) : xs = #[r, q] := Array.toList_inj.1 (by simpa using h)
theorem vU {T : TypeId} {n : Nat} (h : QF P T n = true) : ∃ i, P.info? T = some i /\ i.size = n := by
 unfold QF at h;split at h
 . exact ⟨_, by assumption, by simpa using h⟩
 . cases h
theorem ZW {c : Call} {io : IOp} {C0 : XH} (hcf : CallOK P C0 cf) (hC : g.C = C0) (hop : o.op = .call c) (h : jaZ P c io = true) (hs : stepOp cf io s = some res)
   (hl : WT s.ts a.tmps) (hR : R g O (s.ts.roots a.tmps) s.σ w) : OpRes P o a g O w s res := by
 have hd : ∀ c', o.op ≠ .defer c' := fun c' h => by rw [hop] at h; cases h
 unfold jaZ at h;split at h
 . simp only [zA] at h;obtain ⟨h1, h2⟩ := h;split at h1
   . rename_i hc;simp only [zA, rG] at h1;exact jb3 hcf hC hop hc h1.1 h2 h1.2 hs hl hR
   . cases h1
 . split at h
   . rename_i h1 h2;simp only [zA] at h;exact .of_val (jha hop h1 (vC h2) h.1 h.2 hs hl hR) hd
   . cases h
 . split at h
   . rename_i h1 h2;simp only [zA] at h;exact .of_val (jew hop h1 (yO h2) h.1 h.2.1 h.2.2 hs hl hR) hd
   . cases h
 . simp only [zA] at h;obtain ⟨h1, h2⟩ := h;split at h1
   . rename_i hc;have := eq_of_beq h1;subst this;exact JV hcf hC hop hc h2 hs hl hR
   . cases h1
 . simp only [zA] at h;obtain ⟨h1, h2⟩ := h;split at h1
   . rename_i hc;have := eq_of_beq h1;subst this;exact Yk hcf hC hop hc h2 hs hl hR
   . cases h1
 . simp only [zA] at h;obtain ⟨h1, h2⟩ := h;split at h1
   . rename_i hc;exact Yl hcf hC hop hc h1 h2 hs hl hR
   . cases h1
 . split at h
   . rename_i h1 h2 h3;simp only [zA] at h;obtain ⟨h4, h5⟩ := h;split at h5
     . rename_i hT; exact .of_val (jer hop h1 (vC h2) h3 h4 hT hs hl hR) hd
     . cases h5
   . cases h
 . split at h
   . rename_i h1 h2 h3;simp only [zA] at h;obtain ⟨h4, h5⟩ := h;split at h5
     . rename_i hT; exact .of_val (jep hop h1 (vC h2) h3 h4 hT hs hl hR) hd
     . cases h5
   . cases h
 . split at h
   . rename_i h1 h2 h3;simp only [zA] at h;obtain ⟨h4, h5⟩ := h;split at h5
     . rename_i hT; exact .of_val (jeq hop h1 (vC h2) h3 h4 hT hs hl hR) hd
     . cases h5
   . cases h
 . split at h
   . rename_i h1 h2 h3;simp only [zA] at h;obtain ⟨h4, h5⟩ := h;split at h5
     . rename_i he;obtain ⟨e1, e2⟩ := kh he;split at h5
       . rename_i hz;obtain ⟨z1, z2⟩ := ko hz;simp only [zA] at h5;exact .of_val (jcy hop h1 (vC h2) h3 h4 e1 z1 z2 h5.2 (by simpa using h5.1) hs hl hR) hd
       . cases h5
     . cases h5
   . cases h
 . split at h
   . rename_i h1 h2;simp only [zA] at h;obtain ⟨⟨h3, h4⟩, h5⟩ := h;have := eq_of_beq h3;subst this;exact .of_val (jaw hop h1 (yO h2) h4 h5 hs hl hR) hd
   . cases h
 . split at h
   . rename_i h1 h2 h3;simp only [zA] at h;obtain ⟨⟨h4, h5⟩, h6⟩ := h;split at h6
     . rename_i he hu;obtain ⟨e1, e2⟩ := kh he;simp only [zA, t9] at h6;obtain ⟨⟨⟨h7, h8⟩, h9⟩, h10⟩ := h6;have q1 := eq_of_beq h8;have q2 := eq_of_beq h9;subst q1 q2;split at h10
       . rename_i hz;obtain ⟨z1, z2⟩ := ko hz;rw [e2] at z1; cases z1;refine .of_val (YF hop h1 (yO h2) (yO h3) h4 h5 e1 hu (fun k hk => ?_) e2 z2 (by simpa using h10) hs hl hR) hd;subst hk; simp [jgg] at h7
       . cases h10
     . cases h6
   . cases h
 . cases h
theorem KF : ∀ (l : List (Nat × Operand)) (k : Nat), l.map (·.1) = List.range' k l.length -> l = ((l.map (·.2)).zipIdx k).map fun p => (p.2, p.1) := by
 intro l
 induction l with
 | nil => intro k _; rfl
 | cons p l ih =>
   intro k h;simp only [rU, tI, List.range'_succ, tX] at h;simp only [rU, List.zipIdx_cons];rw [<- ih (k + 1) h.2, <- h.1]
theorem V8 {ra rb r : Operand} (h : Vd ra rb = some r) : (ra = r /\ rb = .const (.slice none 0 0)) \/ (rb = r /\ ra = .const (.slice none 0 0)) := by
 unfold Vd at h;split at h
 . simp at h; exact .inl ⟨h, rfl⟩
 . simp at h; exact .inr ⟨h, rfl⟩
 . cases h
theorem Ki {want : Array (String × TypeId)} {t : TypeId} {b : Bool} (h : Qw P want t b = true) : ∃ i, P.info? t = some i /\ ((lacking want i.methods).isEmpty = b) := by
 unfold Qw at h;split at h
 . exact ⟨_, by assumption, by simpa using h⟩
 . cases h
theorem jgP {k : PurK} {xs : List Opd} (h : jgK P o.op k xs = true) (hs : stepOp cf (.pur k xs) s = some res) (hl : WT s.ts a.tmps) (hR : R g O (s.ts.roots a.tmps) s.σ w) : OpRes P o a g O w s res := by
 unfold jgK at h;split at h
 . rename_i hop;simp only [zA] at h;obtain ⟨h1, h2⟩ := h;split at h1
   . rename_i hc; exact .of_val (qm h2 (jgN hop hc h1) hs hl hR) (fun c h => by rw [hop] at h; cases h)
   . cases h1
 . rename_i hop;split at h
   . rename_i hc;simp only [zA, rG] at h;obtain ⟨h1, h2⟩ := h;refine .of_val (qm h2 (jd7 hop hc fun p hp => ?_) hs hl hR) (fun c h => by rw [hop] at h; cases h);have := h1 p hp;split at this
     . rename_i f _;simp only [zA] at this;exact ⟨f, this⟩
     . cases this
   . cases h
 . rename_i hop;simp only [zA, t9] at h;obtain ⟨h1, h2, h3, h4, h5⟩ := h;rw [eq_of_beq h1] at hop;exact .of_val (qm h5 (jgL hop (eq_of_beq h2) h3 h4) hs hl hR) (fun c h => by rw [hop] at h; cases h)
 . rename_i hop;simp only [zA] at h;obtain ⟨h1, h2, h3⟩ := h;rw [eq_of_beq h1] at hop;split at h2
   . rename_i hT;split at h3
     . rename_i hn; exact .of_val (qm h3 (jal hop hT (V8 hn)) hs hl hR) (fun c h => by rw [hop] at h; cases h)
     . cases h3
   . cases h2
 . rename_i hop;simp only [zA, rG] at h;obtain ⟨h1, h2, h3, h4⟩ := h;rw [eq_of_beq h1] at hop;split at h2
   . rename_i hT;refine .of_val (qm h4 (jgM hop hT fun p hp => ?_) hs hl hR) (fun c h => by rw [hop] at h; cases h);have := h3 p hp;split at this
     . rename_i i d hi hd;simp only [zA] at this;exact ⟨i, d, hi, this.1, hd, this.2⟩
     . cases this
   . cases h2
 . rename_i hop;simp only [zA] at h;obtain ⟨h1, h2, h3⟩ := h;split at h1
   . rename_i hS;split at h1
     . rename_i he;split at h2
       . rename_i hT; exact .of_val (qm h3 (jea hop hS he hT) hs hl hR) (fun c h => by rw [hop] at h; cases h)
       . cases h2
     . cases h1
   . cases h1
 . rename_i hop;split at h
   . rename_i hr hq;simp only [zA] at h;have e1 := eq_of_beq h.1;subst e1;exact .of_val (qm h.2 (jgO hop hr hq) hs hl hR) (fun c h => by rw [hop] at h; cases h)
   . cases h
 . rename_i hop;simp only [zA, rG] at h;exact .of_val (qm h.2 (jd8 hop h.1) hs hl hR) (fun c h => by rw [hop] at h; cases h)
 . rename_i hop;simp only [zA] at h;obtain ⟨h1, h2, h3⟩ := h;split at h2
   . rename_i hT; exact .of_val (qm h3 (jd9 hop h1 hT) hs hl hR) (fun c h => by rw [hop] at h; cases h)
   . cases h2
 . rename_i hop;simp only [zA] at h;obtain ⟨h1, h2, h3, h4, h5⟩ := h;have e1 := eq_of_beq h1;have e2 := eq_of_beq h2;subst e1 e2;split at h4
   . rename_i hz;obtain ⟨z1, z2⟩ := ko hz;split at h3
     . cases h3
     . rename_i d hne hA; exact .of_val (qm h5 (jgR hop hA (fun ms e => hne ms (by rw [e])) z1 z2 h4) hs hl hR) (fun c h => by rw [hop] at h; cases h)
     . cases h3
   . cases h4
 . rename_i hop;simp only [zA] at h;obtain ⟨h2, h3, h4, h5⟩ := h;have e2 := eq_of_beq h2;subst e2;split at h4
   . rename_i hz;obtain ⟨z1, z2⟩ := ko hz;split at h3
     . rename_i want hA;simp only [zA, rG] at h3;refine .of_val (qm h5 (jgS hop hA z1 z2 (fun t ht => ?_) (fun t ht => ?_)) hs hl hR) (fun c h => by rw [hop] at h; cases h)
       . obtain ⟨i, hi, hb⟩ := Ki (h3.1 t ht); exact ⟨i, hi, List.isEmpty_iff.1 hb⟩
       . obtain ⟨i, hi, hb⟩ := Ki (h3.2 t ht); exact ⟨i, hi, fun e => by rw [e] at hb; cases hb⟩
     . cases h3
   . cases h4
 . rename_i hop;simp only [zA] at h;obtain ⟨h1, h2⟩ := h;split at h1
   . rename_i hT;simp only [zA] at h1;obtain ⟨h3, h4⟩ := h1;have q1 := eq_of_beq h3;subst q1;obtain ⟨i, e1, e2⟩ := vU h4;exact .of_val (qm h2 (jgQ hop hT e1 e2) hs hl hR) (fun c h => by rw [hop] at h; cases h)
   . cases h1
 . rename_i hop;split at h
   . rename_i hc ha hta;simp only [zA] at h;obtain ⟨h1, h2⟩ := h;split at h2
     . rename_i hT; exact .of_val (qm h1 (jd6 hop hc ha hta hT) hs hl hR) (fun c h => by rw [hop] at h; cases h)
     . cases h2
   . cases h
 . cases h
theorem Zr {io : IOp} {C0 : XH} (hcf : CallOK P C0 cf) (hC : g.C = C0) (h : jiT P o.op io = true) (hs : stepOp cf io s = some res) (hl : WT s.ts a.tmps) (hR : R g O (s.ts.roots a.tmps) s.σ w) : OpRes P o a g O w s res := by
 unfold jiT at h;split at h
 . exact jgP h hs hl hR
 . exact jgB h hs hl hR
 . rename_i hop; exact jcb hop h hs hl hR
 . rename_i hop; exact .of_val (jfm (.inl hop) h hs hl hR) (fun c h => by rw [hop] at h; cases h)
 . rename_i hop; exact .of_val (jfm (.inr hop) h hs hl hR) (fun c h => by rw [hop] at h; cases h)
 . rename_i hop;simp only [zA] at h;exact .of_val (jev hop h.1.1 h.1.2 h.2 hs hl hR) (fun c h => by rw [hop] at h; cases h)
 . rename_i hop;split at h
   . rename_i hz;obtain ⟨z1, z2⟩ := ko hz;exact .of_val (jcw hop z1 z2 h hs hl hR) (fun c h => by rw [hop] at h; cases h)
   . cases h
 . rename_i hop; exact .of_val (jg8 hop h hs hl hR) (fun c h => by rw [hop] at h; cases h)
 . rename_i hop; exact .of_val (jem hop h hs hl hR) (fun c h => by rw [hop] at h; cases h)
 . rename_i hop;split at h
   . rename_i zc place hb;simp only [zA] at h;exact .of_val (jcx (z := .agg zc) hop h.1 (fun ps cells hf => K6 hb w ps cells hf) h.2 hs hl hR) (fun c h => by rw [hop] at h; cases h)
   . cases h
 . rename_i hop;split at h
   . rename_i he;obtain ⟨e1, e2⟩ := kh he;simp only [zA] at h;obtain ⟨⟨⟨⟨⟨h1, h2⟩, h3⟩, h4⟩, h5⟩, h6⟩ := h;have q1 := eq_of_beq h1;subst q1;split at h6
     . rename_i hz;obtain ⟨z1, z2⟩ := ko hz;rw [e2] at z1; cases z1;refine .of_val (YI hop (by rw [eq_of_beq h3]; simp) ?_ h5 e1 e2 z2 (by simpa using h6) (by simpa using h2) hs hl hR) (fun c h => by rw [hop] at h; cases h);have h4' := eq_of_beq h4;refine KF _ 0 ?_;rw [h4', List.range_eq_range']; simp
     . cases h6
   . cases h
 . rename_i hop;split at h
   . rename_i he;obtain ⟨e1, e2⟩ := kh he;simp only [zA] at h;obtain ⟨⟨⟨⟨⟨h1, h2⟩, h3⟩, h4⟩, h5⟩, h6⟩ := h;have q1 := eq_of_beq h1;subst q1;split at h6
     . rename_i hz;obtain ⟨z1, z2⟩ := ko hz;rw [e2] at z1; cases z1;refine .of_val (YH hop (by rw [eq_of_beq h3]; simp) ?_ h5 e1 e2 z2 (by simpa using h6) (by simpa using h2) hs hl hR) (fun c h => by rw [hop] at h; cases h);have h4' := eq_of_beq h4;refine KF _ 0 ?_;rw [h4', List.range_eq_range']; simp
     . cases h6
   . cases h
 . rename_i hop;simp only [zA] at h;exact .of_val (jes hop h.1 h.2 hs hl hR) (fun c h => by rw [hop] at h; cases h)
 . rename_i hop;simp only [zA] at h;obtain ⟨i, i1, i2⟩ := vU h.2;exact .of_val (jcB hop h.1.1 h.1.2 i1 i2 hs hl hR) (fun c h => by rw [hop] at h; cases h)
 . rename_i hop; exact .of_val (Xt hop h hs hl hR) (fun c h => by rw [hop] at h; cases h)
 . rename_i hop;simp only [zA] at h;have q1 := eq_of_beq h.1.1;subst q1;exact .of_val (jg7 hop h.1.2 h.2 hs hl hR) (fun c h => by rw [hop] at h; cases h)
 . rename_i hop;simp only [zA] at h;obtain ⟨⟨⟨h1, h2⟩, h3⟩, h4⟩ := h;have q1 := eq_of_beq h1;subst q1;split at h4
   . rename_i hT; exact .of_val (jg9 hop h2 h3 hT hs hl hR) (fun c h => by rw [hop] at h; cases h)
   . cases h4
 . rename_i hop;simp only [zA, Bool.or_eq_true] at h;obtain ⟨⟨h1, h2⟩, h3⟩ := h;have q1 := eq_of_beq h1;subst q1;unfold jiO at h2;split at h2
   . rename_i d hT;simp only [zA, decide_eq_true_eq] at h2
     rcases h3 with ⟨h3, h4⟩ | ⟨h3, h4⟩
     . exact .of_val (Xs hop (.inl ⟨rfl, yo h3⟩) h4 hT h2.1 hs hl hR) (fun c h => by rw [hop] at h; cases h)
     . exact .of_val (Xs hop (.inr ⟨yo h3, rfl⟩) h4 hT h2.1 hs hl hR) (fun c h => by rw [hop] at h; cases h)
   . cases h2
 . rename_i hop;simp only [zA] at h;have q1 := eq_of_beq h.1;subst q1;exact .of_val (ji5 hop h.2 hs hl hR) (fun c h => by rw [hop] at h; cases h)
 . rename_i hop;simp only [zA] at h;obtain ⟨⟨h1, h2⟩, h3⟩ := h;obtain ⟨ds, hds⟩ := Option.isSome_iff_exists.1 h2;split at h3
   . rename_i hT;have q1 := eq_of_beq h3;subst q1;exact .of_val (YJ hop h1 hds hT hs hl hR) (fun c h => by rw [hop] at h; cases h)
   . cases h3
 . rename_i hop;simp only [zA] at h;obtain ⟨h1, h3⟩ := h;split at h3
   . rename_i hS hT; exact .of_val (Xq hop h1 hS hT hs hl hR) (fun c h => by rw [hop] at h; cases h)
   . cases h3
 . rename_i hop;simp only [zA] at h;obtain ⟨h1, h3⟩ := h;split at h3
   . rename_i hS hT;split at h3
     . rename_i he;exact .of_val (Vo hop h1 hS hT he hs hl hR) (fun c h => by rw [hop] at h; cases h)
     . cases h3
   . cases h3
 . rename_i hop;simp only [zA] at h;obtain ⟨⟨h1, h2⟩, h3⟩ := h;have q1 := eq_of_beq h1;subst q1;split at h3
   . cases h3
   . rename_i d hne hT; exact .of_val (YM hop h2 hT (fun ms e => hne ms (by rw [e])) hs hl hR) (fun c h => by rw [hop] at h; cases h)
   . cases h3
 . rename_i hop;simp only [zA] at h;obtain ⟨⟨h1, h2⟩, h3⟩ := h;have q1 := eq_of_beq h1;subst q1;exact .of_val (jet hop h2 h3 hs hl hR) (fun c h => by rw [hop] at h; cases h)
 . rename_i hop; exact .of_val (jcA hop hs hl hR) (fun c h => by rw [hop] at h; cases h)
 . rename_i hop;simp only [zA] at h;obtain ⟨⟨h1, h2⟩, h3⟩ := h;split at h3
   . rename_i he;obtain ⟨e1, e2⟩ := kh he;simp only [zA] at h3;obtain ⟨⟨h4, h5⟩, h6⟩ := h3;have q1 := eq_of_beq h4;have q2 := eq_of_beq h5;subst q1 q2;split at h6
     . rename_i hz;obtain ⟨z1, z2⟩ := ko hz;rw [e2] at z1; cases z1;simp only [zA] at h6;exact .of_val (jeu hop h1 h2 e1 e2 z2 h6.2 (by simpa using h6.1) hs hl hR) (fun c h => by rw [hop] at h; cases h)
     . cases h6
   . cases h3
 . rename_i hop;simp only [zA] at h;obtain ⟨⟨⟨h1, h2⟩, h3⟩, h4⟩ := h;split at h4
   . rename_i hT; exact .of_val (jay hop h1 h2 h3 hT hs hl hR) (fun c h => by rw [hop] at h; cases h)
   . cases h4
 . rename_i hop;simp only [zA] at h;obtain ⟨⟨⟨⟨⟨h1, h2⟩, h3⟩, h4⟩, h5⟩, h6⟩ := h;split at h6
   . rename_i he;obtain ⟨e1, e2⟩ := kh he;have q1 := eq_of_beq h6;subst q1;refine .of_val (jax hop h1 h2 h3 h4 ?_ e1 e2 hs hl hR) (fun c h => by rw [hop] at h; cases h);simp only [Bool.or_eq_true] at h5
     rcases h5 with h5 | h5
     . left; simpa using h5
     . right; intro e; rw [e] at h5; simp at h5
   . cases h6
 . rename_i hop;simp only [zA] at h;obtain ⟨h1, h2⟩ := h;split at h2
   . rename_i hT;split at h2
     . rename_i hf;simp only [zA] at h2;obtain ⟨h3, h4⟩ := h2;have q1 := eq_of_beq h3;subst q1;split at h4
       . rename_i hi; exact .of_val (Vp hop h1 hT hf hi (by simpa using h4) hs hl hR) (fun c h => by rw [hop] at h; cases h)
       . cases h4
     . cases h2
   . cases h2
 . rename_i hop;simp only [zA] at h;obtain ⟨h1, h2⟩ := h;split at h2
   . rename_i hT;split at h2
     . rename_i hf;simp only [zA] at h2;obtain ⟨h3, h4⟩ := h2;have q1 := eq_of_beq h3;subst q1;exact .of_val (jcz hop h1 hT hf h4 hs hl hR) (fun c h => by rw [hop] at h; cases h)
     . cases h2
   . cases h2
 . rename_i hop;simp only [zA] at h;obtain ⟨⟨h1, h2⟩, h3⟩ := h;split at h3
   . rename_i he;obtain ⟨e1, e2⟩ := kh he;have q1 := eq_of_beq h3;subst q1;exact .of_val (YL hop h1 h2 e1 e2 hs hl hR) (fun c h => by rw [hop] at h; cases h)
   . cases h3
 . rename_i hop;simp only [zA] at h;obtain ⟨⟨h1, h2⟩, h3⟩ := h;split at h3
   . rename_i hT;simp only [zA] at h3;obtain ⟨h4, h5⟩ := h3;have q1 := eq_of_beq h4;subst q1;obtain ⟨i, i1, i2⟩ := vU h5;subst i2;exact .of_val (Xr hop h1 h2 hT i1 hs hl hR) (fun c h => by rw [hop] at h; cases h)
   . cases h3
 . rename_i hop;simp only [zA] at h;obtain ⟨⟨h1, h2⟩, h3⟩ := h;split at h3
   . rename_i hT; exact .of_val (jeo hop h1 h2 hT hs hl hR) (fun c h => by rw [hop] at h; cases h)
   . cases h3
 . rename_i hop;simp only [zA] at h;obtain ⟨⟨h1, h2⟩, h3⟩ := h;split at h3
   . rename_i hT;simp only [zA] at h3;obtain ⟨⟨h4, h5⟩, h6⟩ := h3;have q1 := eq_of_beq h4;subst q1;obtain ⟨i, i1, i2⟩ := vU h5;subst i2;exact .of_val (jen hop h1 h2 hT i1 h6 hs hl hR) (fun c h => by rw [hop] at h; cases h)
   . cases h3
 . rename_i hop;simp only [zA] at h;obtain ⟨⟨⟨⟨h1, h2⟩, h3⟩, h4⟩, h5⟩ := h;have q1 := eq_of_beq h1;subst q1;split at h5
   . rename_i hT;split at h5
     . rename_i hK hz;obtain ⟨z1, z2⟩ := ko hz;simp only [zA] at h5;exact .of_val (jav hop h2 h3 hT hK h5.1 z1 z2 h5.2 h4 hs hl hR) (fun c h => by rw [hop] at h; cases h)
     . cases h5
   . cases h5
 . rename_i hop;simp only [zA] at h;obtain ⟨⟨⟨h1, h2⟩, h3⟩, h4⟩ := h;split at h4
   . rename_i hT;split at h4
     . rename_i hK; exact .of_val (QE (.inl hop) h1 h2 h3 hT hK h4 hs hl hR) (fun c h => by rw [hop] at h; cases h)
     . cases h4
   . cases h4
 . rename_i hop;simp only [zA] at h;obtain ⟨⟨⟨h1, h2⟩, h3⟩, h4⟩ := h;split at h4
   . rename_i hT;split at h4
     . rename_i hK; exact .of_val (QE (.inr hop) h1 h2 h3 hT hK h4 hs hl hR) (fun c h => by rw [hop] at h; cases h)
     . cases h4
   . cases h4
 . rename_i hop;simp only [zA] at h;have q1 := eq_of_beq h.1;subst q1;exact .of_val (YK hop h.2 hs hl hR) (fun c h => by rw [hop] at h; cases h)
 . rename_i hop _ _; exact ZW hcf hC hop h hs hl hR
 . cases h
end Go.Idl
namespace Go.Idl
variable [Globs]
variable {C0 : XH} {P : Program} {a : Act} {g : Gh} {O : List Nat} {w : World} {s : St} {cf : jD}
structure Shape where
 n : Nat
 nv : Nat
 m : Nat
def Shape.slot (z : Shape) (j : Nat) : Nat := bif Nat.blt j z.nv then j else z.nv + (j - z.nv) % z.m
def SameSh (ts ts' : Ts) : Prop := ts'.nv = ts.nv /\ ts'.m = ts.m /\ ts'.ds = ts.ds
theorem SameSh.refl (ts : Ts) : SameSh ts ts := ⟨rfl, rfl, rfl⟩
theorem SameSh.trans {a b c : Ts} (h : SameSh a b) (k : SameSh b c) : SameSh a c := ⟨k.1.trans h.1, k.2.1.trans h.2.1, k.2.2.trans h.2.2⟩
theorem SameSh.get {x : Opd} {ts ts' : Ts} {v : IVal} (h : x.get ts = some (v, ts')) : SameSh ts ts' := by
 cases x <;> simp only [Opd.get] at h
 . split at h <;> simp at h; obtain ⟨-, rfl⟩ := h; exact .refl _
 . split at h <;> simp at h; obtain ⟨-, rfl⟩ := h; exact ⟨rfl, rfl, rfl⟩
 . simp at h; obtain ⟨-, rfl⟩ := h; exact .refl _
theorem SameSh.getAll {xs : List Opd} : ∀ {ts ts' : Ts} {vs : List IVal}, Idl.getAll xs ts = some (vs, ts') -> SameSh ts ts' := by
 induction xs with
 | nil => intro ts ts' vs h; simp [Idl.getAll] at h; rw [h.2]; exact .refl _
 | cons x xs ih =>
   intro ts ts' vs h;simp only [Idl.getAll] at h;split at h
   . rename_i h1;split at h
     . rename_i h2;simp only [zO, zP] at h;obtain ⟨-, rfl⟩ := h;exact (SameSh.get h1).trans (ih h2)
     . cases h
   . cases h
theorem SameSh.fill : ∀ {vs : List IVal} {ts : Ts} {j : Nat}, SameSh ts (ts.fill j vs) := by
 intro vs
 induction vs with
 | nil => intro ts j; exact .refl _
 | cons v vs ih => intro ts j; exact SameSh.trans ⟨rfl, rfl, rfl⟩ ih
theorem SameSh.put {ts : Ts} {d : Option Nat} {v : IVal} : SameSh ts (putT ts d v) := by cases d <;> exact ⟨rfl, rfl, rfl⟩
theorem SameSh.stepCall {f : Cal} {vs : List IVal} {ts : Ts} {r : Res} (h : Idl.stepCall cf f vs ts s = some r) : r.s.ts = ts := by
 unfold Idl.stepCall at h;split at h
 . simp only [zO] at h; subst h; rfl
 . cases h
theorem SameSh.step {o : IOp} {r : Res} (h : stepOp cf o s = some r) : SameSh s.ts r.s.ts := by
 cases o <;> simp only [stepOp, rv] at h
 case call f xs =>
   split at h
   . rename_i h1; rw [SameSh.stepCall h]; exact .getAll h1
   . cases h
 case callv f xs =>
   split at h
   . rename_i h0;split at h
     . rename_i h1; rw [SameSh.stepCall h]; exact (SameSh.get h0).trans (.getAll h1)
     . cases h
   . rename_i h0;split at h
     . rename_i h1; rw [SameSh.stepCall h]; exact (SameSh.get h0).trans (.getAll h1)
     . cases h
   . cases h
 case inv tab x xs =>
   repeat' split at h
   all_goals first | (cases h; done) | (rw [SameSh.stepCall h]; exact (SameSh.get (by assumption)).trans (.getAll (by assumption)))
 case extract x i =>
   split at h
   . rename_i h0;split at h
     . split at h
       . simp only [zO] at h; subst h; exact (SameSh.get h0).trans ⟨rfl, rfl, rfl⟩
       . simp only [zO] at h; subst h; exact SameSh.get h0
     . cases h
   . cases h
 all_goals
   repeat' split at h
   all_goals first | (cases h; done) | (simp only [zO] at h; subst h; simp only; first | exact .refl _ | exact SameSh.get (by assumption) | exact SameSh.getAll (by assumption) | exact SameSh.trans (SameSh.get (by assumption)) (SameSh.get (by assumption)) | exact SameSh.trans (SameSh.getAll (by assumption)) (SameSh.getAll (by assumption)) | exact SameSh.trans (SameSh.get (by assumption)) (SameSh.trans (SameSh.get (by assumption)) (SameSh.get (by assumption))) | exact SameSh.trans (SameSh.get (by assumption)) ⟨rfl, rfl, rfl⟩)
class Base where
 B : List Deferred
def MarksR (g : Gh) (ds : List Nat) (ms : List Deferred) : Prop :=
 ms.length = ds.length /\ ∀ (i : Nat) id d, ds[i]? = some id -> ms[i]? = some d -> ∃ b, g.ι[id]? = some (Blk.bk b) /\ d = { target := .collected b, args := #[] }
def DefsR [Base] (g : Gh) (ds : List Nat) (defers : List Deferred) : Prop := ∃ ms, defers = ms ++ Base.B /\ MarksR g ds ms
theorem MarksR.mono {g g' : Gh} {ds : List Nat} {ms : List Deferred} (h : MarksR g ds ms) (hι : ∀ (id b : Nat), g.ι[id]? = some (Blk.bk b) -> g'.ι[id]? = some (Blk.bk b)) : MarksR g' ds ms :=
 ⟨h.1, fun i id d h1 h2 => let ⟨b, q1, q2⟩ := h.2 i id d h1 h2; ⟨b, hι _ _ q1, q2⟩⟩
theorem DefsR.mono [Base] {g g' : Gh} {ds : List Nat} {defers : List Deferred} (h : DefsR g ds defers) (hι : ∀ (id b : Nat), g.ι[id]? = some (Blk.bk b) -> g'.ι[id]? = some (Blk.bk b)) : DefsR g' ds defers :=
 let ⟨ms, e, h⟩ := h; ⟨ms, e, h.mono hι⟩
theorem DefsR.nil [Base] (g : Gh) : DefsR g [] Base.B := ⟨[], rfl, rfl, fun i id d h => by simp at h⟩
theorem DefsR.nil_iff [Base] {g : Gh} {defers : List Deferred} (h : DefsR g [] defers) : defers = Base.B := by
 obtain ⟨ms, rfl, h1, -⟩ := h;have := List.eq_nil_of_length_eq_zero (by simpa using h1);subst this; rfl
theorem DefsR.mark [Base] {g : Gh} {ds : List Nat} {defers : List Deferred} {id b : Nat} (h : DefsR g ds defers) (hb : g.ι[id]? = some (Blk.bk b)) : DefsR g (id :: ds) ({ target := .collected b, args := #[] } :: defers) := by
 obtain ⟨ms, rfl, h1, h2⟩ := h;refine ⟨_ :: ms, rfl, by simp [h1], fun i id' d q1 q2 => ?_⟩
 cases i with
 | zero => simp at q1 q2; subst q1 q2; exact ⟨b, hb, rfl⟩
 | succ i => simp at q1 q2; exact h2 i id' d q1 q2
variable [Base]
structure Stand (C0 : XH) (N : Shape) (g : Gh) (O : List Nat) (s : St) (a : Act) (w : World) : Prop where
 rel : R g O (s.ts.roots a.tmps) s.σ w
 len : WT s.ts a.tmps
 defs : DefsR g s.ts.ds a.defers
 size : N.n <= a.tmps.size
 sh : s.ts.nv = N.nv /\ s.ts.m = N.m
 code : g.C = C0
structure Goes (g : Gh) (O : List Nat) (s : St) (w : World) (g' : Gh) (O' : List Nat) (s' : St) (w' : World) : Prop where
 grow : Grow O g w O' g' w'
 keep : ∃ wn, s'.wr = wn ++ s.wr /\ Keep s.σ s'.σ wn
theorem Goes.refl (g : Gh) (O : List Nat) (s : St) (w : World) : Goes g O s w g O s w := ⟨.refl O g w, ⟨[], rfl, .refl _⟩⟩
theorem Goes.trans {g1 g2 g3 : Gh} {O1 O2 O3 : List Nat} {s1 s2 s3 : St} {w1 w2 w3 : World} (h : Goes g1 O1 s1 w1 g2 O2 s2 w2) (k : Goes g2 O2 s2 w2 g3 O3 s3 w3) : Goes g1 O1 s1 w1 g3 O3 s3 w3 := by
 obtain ⟨wn, h1, h2⟩ := h.keep;obtain ⟨wn', k1, k2⟩ := k.keep;exact ⟨h.grow.trans k.grow, ⟨wn' ++ wn, by rw [k1, h1, zS], h2.trans k2⟩⟩
def qt : IExit -> Option Exit
 | .normal => some .normal
 | .exit id => some (.exit id)
 | .goto l => some (.goto l)
 | .ret => some .ret
 | .panic _ => none
def After (C0 : XH) (N : Shape) (g : Gh) (O : List Nat) (s : St) (w : World) (x : IExit) (s' : St) (Q : Exit -> Act -> World -> Prop) : Prop :=
 (∀ e g' O' a' w', qt x = some e -> Goes g O s w g' O' s' w' -> Stand C0 N g' O' s' a' w' -> Q e a' w') /\
 (∀ v g' O' a' w' v', x = .panic v -> Goes g O s w g' O' s' w' -> R g' O' ((v, v') :: s'.ts.roots a'.tmps) s'.σ w' -> DefsR g' s'.ts.ds a'.defers -> WT s'.ts a'.tmps -> Q (.panic [{ v := v', recovered := false }]) a' w')
theorem After.of_goes {N : Shape} {g1 : Gh} {O1 : List Nat} {s1 : St} {w1 : World} {x : IExit} {s' : St} {Q : Exit -> Act -> World -> Prop} (h : After C0 N g O s w x s' Q) (hg : Goes g O s w g1 O1 s1 w1) : After C0 N g1 O1 s1 w1 x s' Q :=
 ⟨fun e g' O' a' w' he k st => h.1 e g' O' a' w' he (hg.trans k) st, fun v g' O' a' w' v' he k r d wt => h.2 v g' O' a' w' v' he (hg.trans k) r d wt⟩
def QY (ops : Array Oper) : Option (Nat × Bool) -> Option (Nat × Bool) -> Bool
 | none, none => true
 | some (j, b), some (t, b') => b == b' && (match ops[j]? with | some o => o.dst == some t | none => false)
 | _, _ => false
def zQ (P : Program) (ops : Array Oper) (o : Oper) (io : IOper) : Bool := jiT P o.op io.op && o.dst == io.dst && QY ops o.guard io.guard
def vR (P : Program) (ops : Array Oper) : List Oper -> List IOper -> Bool
 | [], [] => true
 | o :: os, io :: ios => zQ P ops o io && vR P ops os ios
 | _, _ => false
omit [Base] in
theorem V.bool_iff {x : IVal} {v : Value} (h : V g x v) (b : Bool) : v = .bool b ↔ x = .bool b := by
 cases h with
 | prim v hp => cases v <;> simp [jb2] at hp ⊢
 | _ => simp
theorem yQ {N : Shape} {ops : Array Oper} {o : Oper} {io : IOper} {bw : Bool} (h : QY ops o.guard io.guard = true) (hs : Stand C0 N g O s a w) (hw : wantedI io.guard s.ts = some bw) : Region.wanted o (yielded ops a.tmps) = bw := by
 unfold QY at h;unfold wantedI at hw;unfold Region.wanted;split at h
 . rename_i h1 h2; rw [h2] at hw; simp at hw; simp [h1, hw]
 . rename_i j b t b' h1 h2;simp only [zA] at h;obtain ⟨h3, h4⟩ := h;have := eq_of_beq h3;subst this;rw [h1];rw [h2] at hw;simp only at hw ⊢;split at h4
   . rename_i og hog;have hdst : og.dst = some t := eq_of_beq h4;simp only [yielded, hog, Option.bind_some, hdst]
     cases ht : s.ts.get? t with
     | none => simp [ht] at hw
     | some x =>
       rw [ht] at hw;obtain ⟨rest, hp, -⟩ := Ts.roots_get a.tmps ht;have hV : V g x (a.tmps.getD t undef) := hs.rel.vals (x, a.tmps.getD t undef) (hp.mem_iff.2 (by simp));have hlt := (hs.len _ _ (Ts.get?_spec ht)).2;have hget : a.tmps[t]? = some (a.tmps.getD t undef) := by simp [hlt]
       rw [hget];generalize a.tmps.getD t undef = v at hV
       cases v with
       | bool b0 =>
         have := (hV.bool_iff b0).1 rfl;subst this;simp only [zO] at hw;subst hw;cases b0 <;> cases b <;> rfl
       | _ =>
         cases x with
         | bool b0 => have := (hV.bool_iff b0).2 rfl; cases this
         | _ => simp at hw; subst hw; cases b <;> rfl
   . cases h4
 . cases h
theorem vx {N : Shape} {d : Option Nat} {x : IVal} {v : Value} (hR : R g O ((x, v) :: s.ts.roots a.tmps) s.σ w) (hl : WT s.ts a.tmps) (hd : DefsR g s.ts.ds a.defers) (hN : N.n <= a.tmps.size) (hz : s.ts.nv = N.nv /\ s.ts.m = N.m) (hC : g.C = C0) (hlt : ∀ t, d = some t -> t < N.n) :
   Stand C0 N g O { s with ts := putT s.ts d x } (a.put d v) w := by
 cases d with
 | none => exact ⟨hR.drop, hl, hd, hN, hz, hC⟩
 | some t =>
   have ht : t < a.tmps.size := Nat.lt_of_lt_of_le (hlt t rfl) hN;have hW := hl.set ht x;refine ⟨?_, fun k p hp => by have := hW k p hp; simpa [Act.put, putT] using this, hd, by simpa [Act.put] using hN, hz, hC⟩;obtain ⟨rest, ev, h1, h2⟩ := Ts.roots_put hl ht x v;simp only [putT, Act.put];have h3 := hR.perm (h1.cons _)
   cases hb : s.ts.t.has (s.ts.slot t) with
   | true =>
     rw [hb] at h2;refine R.perm (R.drops (l := ev) (h3.perm ?_)) (h2.symm);simpa using (XC (a := (x, v)) (l₁ := ev) (l₂ := rest)).symm
   | false =>
     rw [hb] at h2;exact R.perm (R.drops (l := ev) h3.drop) (by simpa using h2.symm)
def yW (n : Nat) (ios : List IOper) : Bool := ios.all fun io => match io.dst with | some d => decide (d < n) | none => true
def Qk (P : Program) (ρ : Option Nat) (n : Nat) (ops : Array Oper) (Q : Exit -> Act -> World -> Prop) (tl : List Nat) : Exit -> Act -> World -> Prop := fun e a w => match e with
 | .normal => wpOpsIn (WF ρ) n P ops Q tl a w
 | e => Q e a w
theorem jhF {ρ : Option Nat} {n : Nat} {ops : Array Oper} {Q : Exit -> Act -> World -> Prop} : Qk P ρ n ops Q [] = Q := by
 funext e a w
 cases e <;> rfl
theorem Zs {tl : List Nat} {more : List Oper} {ρ : Option Nat} {n : Nat} {N : Shape} {ops : Array Oper} {Q : Exit -> Act -> World -> Prop} (hcf : CallOK P C0 cf) : ∀ {ios : List IOper} {os pre : List Oper} {g : Gh} {O : List Nat} {s s' : St} {a : Act} {w : World} {x : IExit}, ops.toList = pre ++ (os ++ more) -> vR P ops os ios = true ->
   yW N.n ios = true -> runOps cf ios s = some (x, s') -> Stand C0 N g O s a w -> After C0 N g O s w x s' (Qk P ρ n ops Q tl) -> wpOpsIn (WF ρ) n P ops Q (List.range' pre.length os.length ++ tl) a w := by
 intro ios
 induction ios with
 | nil =>
   intro os pre g O s s' a w x hops hok hds hrun hst haft;cases os <;> simp [vR] at hok;simp [runOps] at hrun;obtain ⟨rfl, rfl⟩ := hrun;exact haft.1 _ g O a w rfl (.refl _ _ _ _) hst
 | cons io ios ih =>
   intro os pre g O s s' a w x hops hok hds hrun hst haft
   cases os with
   | nil => simp [vR] at hok
   | cons o os =>
     simp only [vR, zA, zQ] at hok;obtain ⟨⟨⟨hop, hdst⟩, hgd⟩, hrest⟩ := hok;have hdst := eq_of_beq hdst;obtain ⟨iod, iop, iog⟩ := io;simp only at hop hdst hgd;subst hdst;simp only [yW, tN, zA] at hds;have hd0 : ∀ t, o.dst = some t -> t < N.n := by
       intro t ht;have := hds.1;rw [ht] at this;simpa using this
     have hget : ops[pre.length]? = some o := by
       rw [<- Array.getElem?_toList, hops]; simp
     simp only [tI, List.range'_succ, tP, wpOpsIn, hget];have hnext : ops.toList = (pre ++ [o]) ++ (os ++ more) := by rw [hops]; simp
     have hlenp : (pre ++ [o]).length = pre.length + 1 := by simp
     simp only [runOps] at hrun;split at hrun
     . rename_i hwi;rw [if_pos (yQ (o := o) (io := ⟨o.dst, iop, iog⟩) hgd hst hwi)];split at hrun
       . rename_i v s1 hstep;refine Zr hcf hst.code hop hstep hst.len hst.rel ρ n _ Q (fun _ v' w' hp => ?_) (fun h => by cases h);obtain ⟨g1, O1, wn, hg, hR, hl, hwr, hk⟩ := hp;have hst1 := vx (d := o.dst) (s := s1) hR hl (by rw [(SameSh.step hstep).2.2]; exact hst.defs.mono hg.pre) hst.size ⟨(SameSh.step hstep).1.trans hst.sh.1, (SameSh.step hstep).2.1.trans hst.sh.2⟩ (hg.code.trans hst.code) hd0;rw [<- hlenp];exact ih hnext hrest hds.2 hrun hst1 (haft.of_goes ⟨hg, ⟨wn, hwr, hk⟩⟩)
       . rename_i v s1 hstep;refine Zr hcf hst.code hop hstep hst.len hst.rel ρ n _ Q (fun h => by cases h) (fun _ v' w' hp => ?_);obtain ⟨g1, O1, wn, hg, hR, hl, hwr, hk⟩ := hp;simp only [zO, zP] at hrun;obtain ⟨rfl, rfl⟩ := hrun;exact haft.2 v g1 O1 a w' v' rfl ⟨hg, ⟨wn, hwr, hk⟩⟩ hR (by rw [(SameSh.step hstep).2.2]; exact hst.defs.mono hg.pre) hl
       . cases hrun
     . rename_i hwi;rw [if_neg (by rw [yQ (o := o) (io := ⟨o.dst, iop, iog⟩) hgd hst hwi]; simp)];refine ⟨fun _ _ => trivial, ?_⟩;have hR : R g O ((undefI, undef) :: s.ts.roots a.tmps) s.σ w := hst.rel.push (j5 g) rfl;have hst1 := vx (d := o.dst) (s := s) hR hst.len hst.defs hst.size hst.sh hst.code hd0;rw [<- hlenp];exact ih hnext hrest hds.2 hrun hst1 (haft.of_goes ⟨.refl O g w, ⟨[], rfl, .refl _⟩⟩)
     . cases hrun
theorem jgH {ρ : Option Nat} {n : Nat} {N : Shape} {ops : Array Oper} {Q : Exit -> Act -> World -> Prop} (hcf : CallOK P C0 cf) {ios : List IOper} {os pre : List Oper} {g : Gh} {O : List Nat} {s s' : St} {a : Act} {w : World} {x : IExit} (hops : ops.toList = pre ++ os) (hok : vR P ops os ios = true)
   (hds : yW N.n ios = true) (hrun : runOps cf ios s = some (x, s')) (hst : Stand C0 N g O s a w) (haft : After C0 N g O s w x s' Q) : wpOpsIn (WF ρ) n P ops Q (List.range' pre.length os.length) a w := by
 have := Zs (ρ := ρ) (n := n) (Q := Q) (tl := []) (more := []) hcf (by rw [rP]; exact hops) hok hds hrun hst (by rw [jhF]; exact haft);simpa using this
end Go.Idl
namespace Go.Idl
variable [Globs]
variable {P : Program} {a : Act} {g : Gh} {O : List Nat} {w : World} {s : St} {cf : jD}
def jeg (P : Program) : ResultVar -> RV -> Bool
 | .tmp t, .t i => t == i
 | .cell t T, .cell i n => t == i && tyN P T n
 | _, _ => false
def KK (P : Program) : List ResultVar -> List RV -> Bool
 | [], [] => true
 | r :: rs, v :: vs => jeg P r v && KK P rs vs
 | _, _ => false
def jaK (tmps : Array Value) (rs : List ResultVar) : Sem (List Value) := rs.mapM fun r => match r with
 | .tmp t => pure (tmps.getD t undef)
 | .cell a t => do loadVar t (<- asAddr (tmps.getD a undef))
theorem Zv {tmps : Array Value} : jaK tmps [] = pure [] := by simp [jaK]
theorem jef {tmps : Array Value} {t : Nat} {rs : List ResultVar} : (jaK tmps (.tmp t :: rs)).run P w = ((jaK tmps rs).run P w).andThen fun us w' => .ok (tmps.getD t undef :: us) w' := by
 simp only [jaK, List.mapM_cons, Sem.run_bind, Sem.run_pure, Result.andThen_ok]
theorem jck {tmps : Array Value} {t : Nat} {T : TypeId} {rs : List ResultVar} {ad : Addr} (h : tmps.getD t undef = .pointer (some ad)) {u : Value} {w' : World} (hl : (loadVar T ad).run P w = .ok u w') :
   (jaK tmps (.cell t T :: rs)).run P w = ((jaK tmps rs).run P w').andThen fun us w' => .ok (u :: us) w' := by
 simp only [jaK, List.mapM_cons, Sem.run_bind, h, asAddr, Sem.run_pure, Result.andThen_ok, hl]
theorem Yt {tmps : Array Value} : ∀ {vs : List RV} {rs : List ResultVar} {l : jG} {s s' : St} {g : Gh} {O : List Nat} {w : World} {xs : List IVal}, KK P rs vs = true -> readRes vs s = some (xs, s') -> WT s.ts tmps ->
   R g O (l ++ s.ts.roots tmps) s.σ w ->
   ∃ us : List Value, (jaK tmps rs).run P w = .ok us w /\ xs.length = us.length /\ WT s'.ts tmps /\
     R g O (xs.zip us ++ (l ++ s'.ts.roots tmps)) s'.σ w /\ ∃ wn, s'.wr = wn ++ s.wr /\ Keep s.σ s'.σ wn /\ wn.all (fun p => !p.2) = true := by
 intro vs
 induction vs with
 | nil =>
   intro rs l s s' g O w xs hok hrd hl hR;cases rs <;> simp [KK] at hok;simp [readRes] at hrd;obtain ⟨rfl, rfl⟩ := hrd;exact ⟨[], by simp [Zv, Sem.run_pure], rfl, hl, by simpa using hR, [], rfl, .refl _, rfl⟩
 | cons v vs ih =>
   intro rs l s s' g O w xs hok hrd hl hR
   cases rs with
   | nil => simp [KK] at hok
   | cons r rs =>
     simp only [KK, zA] at hok
     cases v with
     | t i =>
       simp only [readRes] at hrd;split at hrd
       . rename_i x hx;split at hrd
         . rename_i ys s1 hrest;simp only [zO, zP] at hrd;obtain ⟨rfl, rfl⟩ := hrd;have hr : r = .tmp i := by cases r <;> simp [jeg] at hok; rw [hok.1]
           subst hr;have hm := je (a := ⟨tmps, []⟩) (x := .m i) (r := .tmp i) (ts' := s.ts.set i (un3 x)) (v := x) (by simp [jg]) (by simp [Opd.get, hx]) hl hR;obtain ⟨us, h1, h2, h3, h4, wn, h5, h6, h7⟩ := ih (s := { s with ts := s.ts.set i (un3 x) }) (l := (x, (⟨tmps, []⟩ : Act).eval (.tmp i)) :: l) hok.2 hrest hm.2 (by simpa using hm.1);refine ⟨tmps.getD i undef :: us, ?_, by simp [h2], h3, ?_, wn, h5, h6, h7⟩
           . rw [jef, h1, Result.andThen_ok]
           . refine h4.perm ?_;simp only [tJ, tP, Act.eval];exact XC
         . cases hrd
       . cases hrd
     | cell i n =>
       simp only [readRes] at hrd;split at hrd
       . rename_i id off hx;split at hrd
         . rename_i cs hcs;split at hrd
           . rename_i z hz;split at hrd
             . rename_i ys s1 hrest;simp only [zO, zP] at hrd;obtain ⟨rfl, rfl⟩ := hrd;obtain ⟨T, hr, hT⟩ : ∃ T, r = .cell i T /\ tyN P T n = true := by
                 cases r with
                 | tmp t => simp [jeg] at hok
                 | cell t T => simp only [jeg, zA] at hok; exact ⟨T, by rw [eq_of_beq hok.1.1], hok.1.2⟩
               subst hr;obtain ⟨rest0, hp0, -⟩ := Ts.roots_get tmps hx;have hV0 : V g (.ptr id off) (tmps.getD i undef) := hR.vals (.ptr id off, tmps.getD i undef) (rZ _ (hp0.mem_iff.2 (by simp)));obtain ⟨b, hget, hι⟩ := hV0.ptr_inv;obtain ⟨u, hrun, hR', hk, _⟩ := hR.loadMove hι (jw hcs) hT hz;obtain ⟨us, h1, h2, h3, h4, wn, h5, h6, h7⟩ := ih (s := { s with σ := s.σ.set id (.cells (putCells cs off (un2 z).cells)), wr := (id, false) :: s.wr }) (l := (z, u) :: l) hok.2 hrest hl (by simpa using hR');refine ⟨u :: us, ?_, by simp [h2], h3, ?_, wn ++ [(id, false)], by rw [h5]; simp, hk.trans h6, by simp [h7]⟩
               . rw [jck hget hrun, h1, Result.andThen_ok]
               . refine h4.perm ?_;simp only [tJ, tP];exact XC
             . cases hrd
           . cases hrd
         . cases hrd
       . cases hrd
theorem R.merge {xs : List IVal} {us : List Value} {l : jG} {σ : List IObj} (h : R g O (xs.zip us ++ l) σ w) (hl : xs.length = us.length) (hnt : ∀ x ∈ xs, nt x = true) :
   R g O ((tupV xs, if hh : us.toArray.size = 1 then us.toArray[0] else .tuple us.toArray) :: l) σ w := by
 have hlist : xs.length = 1 \/ xs.length ≠ 1 := by omega
 rcases hlist with h1 | h1
 . obtain ⟨x, rfl⟩ := List.length_eq_one_iff.1 h1;obtain ⟨u, rfl⟩ := List.length_eq_one_iff.1 (hl ▸ h1);simpa [tupV] using h
 . have e : tupV xs = .tup xs := by
     cases xs with
     | nil => rfl
     | cons x xs => cases xs with
       | nil => simp at h1
       | cons y ys => rfl
   rw [e, dif_neg (by simp; omega)];have hV : V g (.tup xs) (.tuple us.toArray) := .tup xs us.toArray (by simpa using hl) (fun i x v hx hv => zK (vs := us) (fun p hp => h.vals p (by simp [hp])) hx (by simpa using hv)) hnt;have hown : jC (.tup xs) (.tuple us.toArray) = jN (xs.zip us) := by
     simp only [jC, jN]
     congr 1
     apply List.ext_getElem?;intro i;simp only [tT, rM, List.zip]
     cases hx : xs[i]? with
     | none => simp
     | some x => cases hu : us[i]? with
       | none => simp [hu]
       | some u => simp [hu]; exact (yu (hnt x (zM hx)) u).symm
   have e1 : jN ((.tup xs, .tuple us.toArray) :: l) = jN (xs.zip us ++ l) := by rw [qR, <- hown]; simp [jN]
   refine ⟨h.len, fun p hp => ?_, h.objo, by rw [e1]; exact h.nodup, by rw [e1]; exact h.sub, h.lt, h.claim, h.apart, h.spare, h.glob, h.zs⟩
   rcases List.mem_cons.1 hp with rfl | hp
   . exact hV
   . exact h.vals p (by simp [hp])
theorem OBJ.cut {b n : Nat} {x : IObj} (h : OBJ g w b x) (hr : RLO n x) : OBJ (g.cut n) w b x := by
 cases x with
 | cells cs =>
   obtain ⟨c, el, fz, h1, h0, h2, h3⟩ := h;exact ⟨c, el, fz, h1, h0, h2, fun i x v hx hv => ⟨(h3 i x v hx hv).1.cut n (hr x (zM hx)), (h3 i x v hx hv).2⟩⟩
 | map es =>
   obtain ⟨mes, clock, h1, h2, h3, h4⟩ := h;refine ⟨mes, clock, h1, h2, fun i e me he hm => ?_, h4⟩;obtain ⟨⟨q1, q2⟩, q3⟩ := h3 i e me he hm;have := hr e (zM he);exact ⟨⟨q1.cut n this.1, q2.cut n this.2⟩, q3⟩
 | loop L =>
   obtain ⟨r, h1, h2⟩ := h;exact ⟨r, h1, h2.st, h2.ps, h2.pend, h2.wt, h2.ds, fun p hp => ⟨(h2.vals p hp).1.cut n (hr p hp), (h2.vals p hp).2⟩, h2.code⟩
 | defr => exact h
 | it s pos => exact h
 | dead => trivial
theorem OBJ.rlo {b : Nat} {x : IObj} (h : OBJ g w b x) : RLO g.ι.length x := by
 cases x with
 | cells cs =>
   obtain ⟨c, el, fz, h1, h0, h2, h3⟩ := h;intro x hx;obtain ⟨i, hi⟩ := ju hx;obtain ⟨v, hv⟩ := ym h2 hi;exact (h3 i x v hi hv).1.rl
 | map es =>
   obtain ⟨mes, clock, h1, h2, h3, _⟩ := h;intro e he;obtain ⟨i, hi⟩ := ju he;obtain ⟨me, hm⟩ := jV h2.symm hi;obtain ⟨⟨q1, q2⟩, _⟩ := h3 i e me hi hm;exact ⟨q1.rl, q2.rl⟩
 | loop L =>
   obtain ⟨r, h1, h2⟩ := h;exact fun p hp => (h2.vals p hp).1.rl
 | defr => trivial
 | it s pos => trivial
 | dead => trivial
theorem RLO.le {n m : Nat} {x : IObj} (h : RLO n x) (hle : n <= m) : RLO m x := by
 cases x with
 | cells cs => exact fun x hx => (h x hx).le hle
 | map es => exact fun e he => ⟨(h e he).1.le hle, (h e he).2.le hle⟩
 | loop L => exact fun p hp => (h p hp).le hle
 | _ => trivial
theorem R.rlo {l : jG} {σ : List IObj} (h : R g O l σ w) {id : Nat} {o : IObj} (ho : σ[id]? = some o) : RLO σ.length o := by
 have hid' : id < g.ι.length := by rw [h.len]; exact ja ho
 have h1 := h.objo id (g.ι[id]) o (by simp [hid']) ho
 cases hb : g.ι[id] with
 | un zs =>
   rw [hb] at h1;obtain ⟨rfl, h2⟩ := h1;exact RLO.le (n := 0) h2 (Nat.zero_le _)
 | bk b => rw [hb] at h1; rw [<- h.len]; exact OBJ.rlo h1
theorem Jn {l : jG} {σ : List IObj} {g' : Gh} {O' : List Nat} {w' : World} {s' : St} {v : IVal} {v' : Value} {pan : Bool} (h : R g O l σ w) (hg : Grow O g w O' g' w') (hR : R g' O' [(v, v')] s'.σ w') (hk : Keep σ s'.σ s'.wr) :
   ∃ g'', Grow O g w O' g'' w' /\ R g'' O' [((finish σ.length pan v s').v, v')] (finish σ.length pan v s').σ w' /\ Keep σ (finish σ.length pan v s').σ (finish σ.length pan v s').wr /\ (finish σ.length pan v s').pan = pan := by
 have hkf : ∀ σ2 : List IObj, Keep σ σ2 s'.wr -> Keep σ σ2 (s'.wr.filter fun p => decide (p.1 < σ.length)) := by
   intro σ2 hk2;refine ⟨hk2.1, fun n hn hw ho => hk2.2 n hn (fun p hp hp2 => ?_) ho⟩
   by_cases hlt : p.1 < σ.length
   . exact hw p (List.mem_filter.2 ⟨hp, by simpa using hlt⟩) hp2
   . omega
 unfold finish;split
 . rename_i hcond;simp only [zA, rG] at hcond;obtain ⟨hnr, hwr⟩ := hcond;have hlow : ∀ id o, id < σ.length -> s'.σ[id]? = some o -> RLO σ.length o := by
     refine hk.2 σ.length (rS _) (fun p hp hp2 => ?_) (fun id o hid ho => ?_)
     . have := hwr p hp;simp only [Bool.or_eq_true, t9, decide_eq_true_eq] at this
       rcases this with h1 | h1
       . rw [h1] at hp2; cases hp2
       . exact h1
     . exact h.rlo ho
   have hι : (g'.cut σ.length).ι = g'.ι.take σ.length := rfl;have hSsub : (kt w' (g'.ι.take σ.length) (s'.σ.take σ.length)).Sublist (kt w' g'.ι s'.σ) := by
     simp only [kt];rw [<- List.take_zipWith];exact KW (List.take_sublist _ _)
   have hsub : (jN [(v, v')] ++ kt w' (g'.ι.take σ.length) (s'.σ.take σ.length)).Sublist (jN [(v, v')] ++ kt w' g'.ι s'.σ) := List.Sublist.append (.refl _) hSsub;have hget : ∀ {α : Type} {l : List α} {id : Nat} {x : α}, (l.take σ.length)[id]? = some x -> l[id]? = some x /\ id < σ.length := by
     intro α l id x hx;rw [tK] at hx;split at hx
     . exact ⟨hx, by assumption⟩
     . cases hx
   refine ⟨g'.cut σ.length, ⟨hg.size, hg.same, hg.mono, fun id b hb => ?_, hg.fresh, hg.code, hg.os, hg.tape, hg.output, hg.zm⟩, ⟨?_, fun p hp => ?_, fun id b o h1 h2 => ?_, hR.nodup.sublist hsub, fun b hb => hR.sub b (hsub.mem hb), hR.lt, hR.claim, fun id b o h1 h2 => hR.apart id b o (hget h1).1 (hget h2).1, hR.spare, hR.glob, hR.zs⟩, ?_, rfl⟩
   . rw [hι, tK, if_pos (by rw [<- h.len]; exact ja hb)];exact hg.preo id b hb
   . simp [Gh.cut, hR.len]
   . simp only [List.mem_singleton] at hp;subst hp;exact (hR.vals (v, v') (by simp)).cut _ ((hR.vals (v, v') (by simp)).norl _ hnr)
   . obtain ⟨q1, q2⟩ := hget h1;obtain ⟨q3, _⟩ := hget h2
     cases b with
     | un zs => exact hR.objo id (.un zs) o q1 q3
     | bk b => exact (hR.objs id b o q1 q3).cut (hlow id o q2 q3)
   . refine hkf _ ⟨by have := hk.1; simp only [tL]; omega, fun n hn hw ho id o hid hgo => ?_⟩;exact hk.2 n hn hw ho id o hid (hget hgo).1
 . exact ⟨g', hg, hR, hkf _ hk, rfl⟩
theorem ZC {gfn : Func} {tmps : Array Value} {Rp : Ending -> World -> Prop} {F : Fence} {n : Nat} {l : jG} {u : FrameMode} {base : List Deferred} (hu : u ≠ .run) : ∀ (ds : List Nat) (σ σ' : List IObj) (ms : List Deferred) (w : World), shut σ ds = some σ' -> MarksR g ds ms -> R g O l σ w ->
   (∀ w', R g O l σ' w' -> Grow O g w O g w' -> LeavesInM F n P gfn tmps Rp base u w') -> LeavesInM F n P gfn tmps Rp (ms ++ base) u w := by
 intro ds
 induction ds with
 | nil =>
   intro σ σ' ms w hs hd hR hk;have : ms = [] := List.eq_nil_of_length_eq_zero (by simpa using hd.1);subst this;simp [shut] at hs;subst hs;exact hk w hR (.refl _ _ _)
 | cons id ds ih =>
   intro σ σ' ms w hs hd hR hk
   cases ms with
   | nil => have := hd.1; simp at this
   | cons d ms =>
     obtain ⟨b, hι, rfl⟩ := hd.2 0 id d rfl rfl;simp only [shut] at hs;split at hs
     . rename_i hσ;have hob : w.heap[b]? = some (.deferred (some [])) := hR.objs id b _ hι hσ;have hlt : b < w.heap.size := (Array.getElem?_eq_some_iff.1 hob).1;obtain ⟨hR', hG⟩ := hR.putObj (ob' := .dead) (x := .deferred none) hι hσ (by simp) hlt (by rw [hob]; simp) trivial (.inr rfl) rfl;refine ⟨hu, .inl ⟨b, _, rfl, run_takeDeferred hob, ?_⟩⟩;exact ih _ σ' ms _ hs ⟨by have := hd.1; simp at this; exact this, fun i id' d' h1 h2 => hd.2 (i + 1) id' d' (by simpa using h1) (by simpa using h2)⟩ hR' (fun w' k1 k2 => hk w' k1 (hG.trans k2))
     . cases hs
theorem Xo : ∀ (ds : List Nat) (σ σ' : List IObj), shut σ ds = some σ' -> Keep σ σ' (ds.map fun id => (id, false)) := by
 intro ds
 induction ds with
 | nil => intro σ σ' h; simp [shut] at h; subst h; exact .refl _
 | cons id ds ih =>
   intro σ σ' h;simp only [shut] at h;split at h
   . have h1 := ih _ _ h;have h2 : Keep σ (σ.set id .dead) [(id, false)] := Keep.set fun n _ _ _ => trivial;have h3 := h2.trans h1;refine ⟨h3.1, fun n hn hw ho => h3.2 n hn (fun p hp hp2 => hw p ?_ hp2) ho⟩;simp only [List.mem_append, List.mem_singleton, rU, List.mem_cons] at hp ⊢
     rcases hp with hp | hp
     . exact .inr hp
     . exact .inl (by simpa using hp)
   . cases h
end Go.Idl
namespace Go.Idl
variable [Globs]
def plain : Opd -> Bool
 | .m _ => false
 | _ => true
def Qz : Option Opd -> Bool
 | some x => plain x
 | none => true
theorem vw {x : Opd} (h : plain x = true) {ts ts' : Ts} {v : IVal} (hg : x.get ts = some (v, ts')) : ts' = ts := by
 cases x <;> simp [plain] at h <;> simp [Opd.get] at hg
 . split at hg
   . simp at hg; exact hg.2.symm
   . cases hg
 . exact hg.2.symm
theorem jb {x : Opd} {xs : List Opd} {ts ts' : Ts} {vs : List IVal} : getAll (x :: xs) ts = some (vs, ts') ↔ ∃ v t1 ws, x.get ts = some (v, t1) /\ getAll xs t1 = some (ws, ts') /\ vs = v :: ws := by
 simp only [getAll]
 constructor
 . intro h;split at h
   . rename_i v t1 hx;split at h
     . rename_i ws t2 hxs;simp at h;obtain ⟨rfl, rfl⟩ := h;exact ⟨v, t1, ws, hx, hxs, rfl⟩
     . cases h
   . cases h
 . rintro ⟨v, t1, ws, h1, h2, rfl⟩;simp [h1, h2]
theorem jf {ts ts' : Ts} {vs : List IVal} : getAll [] ts = some (vs, ts') ↔ vs = [] /\ ts' = ts := by
 simp only [getAll, zO, zP];exact ⟨fun h => ⟨h.1.symm, h.2.symm⟩, fun h => ⟨h.1.symm, h.2.symm⟩⟩
theorem vI {xs ys : List Opd} : ∀ {ts ts' : Ts} {vs : List IVal}, getAll (xs ++ ys) ts = some (vs, ts') ↔ ∃ v1 t1 v2, getAll xs ts = some (v1, t1) /\ getAll ys t1 = some (v2, ts') /\ vs = v1 ++ v2 := by
 induction xs with
 | nil =>
   intro ts ts' vs;simp only [tQ, jf]
   constructor
   . intro h; exact ⟨[], ts, vs, ⟨rfl, rfl⟩, h, rfl⟩
   . rintro ⟨_, _, v2, ⟨rfl, rfl⟩, h, rfl⟩; exact h
 | cons x xs ih =>
   intro ts ts' vs;simp only [tP, jb, ih]
   constructor
   . rintro ⟨v, t1, _, h1, ⟨v1, t2, v2, h2, h3, rfl⟩, rfl⟩; exact ⟨v :: v1, t2, v2, ⟨v, t1, v1, h1, h2, rfl⟩, h3, rfl⟩
   . rintro ⟨_, t2, v2, ⟨v, t1, v1, h1, h2, rfl⟩, h3, rfl⟩; exact ⟨v, t1, _, h1, ⟨v1, t2, v2, h2, h3, rfl⟩, rfl⟩
def j6 : IOp -> Bool
 | .pick _ a b => plain a && plain b
 | .sliceS _ lo hi => Qz lo && Qz hi
 | .sliceL _ _ lo hi mx => Qz lo && (Qz hi && Qz mx)
 | .extract x _ => plain x
 | _ => true
theorem kO {lo : Option Opd} (hp : Qz lo = true) {ts ts2 t1 t2 : Ts} {vs : List IVal} {d : Nat} (h1 : getAll lo.toList ts = some (vs, t1)) (h2 : getAll lo.toList ts2 = some (vs, t2)) :
   t1 = ts /\ t2 = ts2 /\ kD lo ts2 d = kD lo ts d := by
 cases lo with
 | none =>
   simp only [Option.toList, jf] at h1 h2;exact ⟨h1.2, h2.2, rfl⟩
 | some x =>
   simp only [Option.toList, jb, jf] at h1 h2;obtain ⟨v, t, ws, a1, ⟨rfl, rfl⟩, rfl⟩ := h1;obtain ⟨v', t', ws', b1, ⟨rfl, rfl⟩, e⟩ := h2;simp at e;subst e;have := vw hp a1;have := vw hp b1;subst t1 t2;refine ⟨rfl, rfl, ?_⟩;simp only [kD, a1, b1];cases v <;> rfl
theorem yN {cf : jD} {o : IOp} (hd : j6 o = true) {s : St} {ts2 t1 t2 : Ts} {vs : List IVal} {r : Res}
   (h1 : getAll (opdsOf o) s.ts = some (vs, t1)) (h2 : getAll (opdsOf o) ts2 = some (vs, t2)) (hs : stepOp cf o s = some r) :
   r.s.ts = t1 /\ stepOp cf o { s with ts := ts2 } = some { r with s := { r.s with ts := t2 } } := by
 cases o
 case panic x =>
   simp only [opdsOf, jb, jf] at h1 h2;obtain ⟨v, t, ws, a1, ⟨rfl, rfl⟩, rfl⟩ := h1;obtain ⟨v', t', ws', b1, ⟨rfl, rfl⟩, e⟩ := h2;simp only [tX] at e;obtain ⟨rfl, -⟩ := e;simp only [stepOp, a1, b1, rv, markW] at hs ⊢
   repeat' split at hs
   all_goals first | (cases hs; done) | (simp only [zO] at hs; subst hs; simp_all; done) | (simp only [zO] at hs; subst hs; simp_all; obtain ⟨rfl, rfl⟩ := a2; simp_all; done)
 case clear zs x =>
   simp only [opdsOf, jb, jf] at h1 h2;obtain ⟨v, t, ws, a1, ⟨rfl, rfl⟩, rfl⟩ := h1;obtain ⟨v', t', ws', b1, ⟨rfl, rfl⟩, e⟩ := h2;simp only [tX] at e;obtain ⟨rfl, -⟩ := e;simp only [stepOp, a1, b1, rv, markW] at hs ⊢;split at hs
   . rename_i e1;simp only [zO, zP] at e1;obtain ⟨rfl, rfl⟩ := e1;simp only;split at hs
     . split at hs
       . rename_i hc;rw [if_pos hc];simp only [zO] at hs; subst hs; exact ⟨rfl, rfl⟩
       . cases hs
     . cases hs
   . rename_i e1;simp only [zO, zP] at e1;obtain ⟨rfl, rfl⟩ := e1;simp only [zO] at hs; subst hs; exact ⟨rfl, rfl⟩
   . cases hs
 case pur k xs =>
   simp only [opdsOf] at h1 h2;simp only [stepOp, h1, h2, rv] at hs ⊢;split at hs
   . rename_i hp; simp only [zO] at hs; subst hs; simp [hp]
   . cases hs
 case mem k xs =>
   simp only [opdsOf] at h1 h2;simp only [stepOp, h1, h2] at hs ⊢;split at hs
   . rename_i hp; simp only [zO] at hs; subst hs; simp [hp]
   . cases hs
 case mv x | box x | vOf G tab x | boxv x | load mvf n x | nilCheck x | isnil neg k x | un op x | conv c x | mkIface ty x | fieldAddr o x | field o n x | lenS x | lenL x | lenM x =>
   simp only [opdsOf, jb, jf] at h1 h2;obtain ⟨v, t, ws, a1, ⟨rfl, rfl⟩, rfl⟩ := h1;obtain ⟨v', t', ws', b1, ⟨rfl, rfl⟩, e⟩ := h2;simp only [tX] at e;obtain ⟨rfl, -⟩ := e;simp only [stepOp, a1, b1, rv, markW] at hs ⊢
   repeat' split at hs
   all_goals first | (cases hs; done) | (simp only [zO] at hs; subst hs; simp_all; done) | (simp only [zO] at hs; subst hs; simp_all; obtain ⟨rfl, rfl⟩ := a2; simp_all; done)
 case vSet G tab x y =>
   simp only [opdsOf, jb, jf] at h1 h2;obtain ⟨v, t, ws, a1, ⟨v2, t3, ws2, a2, ⟨rfl, rfl⟩, rfl⟩, rfl⟩ := h1;obtain ⟨v', t', ws', b1, ⟨v2', t3', ws2', b2, ⟨rfl, rfl⟩, rfl⟩, e⟩ := h2;simp only [tX] at e;obtain ⟨rfl, rfl, -⟩ := e;simp only [stepOp, a1, b1, markW] at hs ⊢;split at hs
   . rename_i e1;simp only [zO, zP] at e1;obtain ⟨rfl, rfl⟩ := e1;simp only [a2, b2] at hs ⊢;split at hs
     . rename_i e2;simp only [zO, zP] at e2;obtain ⟨rfl, rfl⟩ := e2;split at hs
       . rename_i q1 q2;simp only [q1, q2] at hs ⊢;split at hs
         . rename_i q3;rw [if_pos q3];split at hs
           . rename_i q4;split at hs
             . rename_i q5;rw [if_pos q5];simp only [zO] at hs; subst hs; exact ⟨rfl, rfl⟩
             . cases hs
           . cases hs
         . cases hs
       . cases hs
     . cases hs
   . cases hs
 case store n x y | bin op x y | eqa neg x y | eqb neg x y | mkSl br esz bytes zs x y | idxAddr esz x y | idxAddrA len esz x y | idxS x y | idxA len esz n x y | lookup kk z ok x y | append br str esz bytes x y =>
   simp only [opdsOf, jb, jf] at h1 h2;obtain ⟨v, t, ws, a1, ⟨v2, t3, ws2, a2, ⟨rfl, rfl⟩, rfl⟩, rfl⟩ := h1;obtain ⟨v', t', ws', b1, ⟨v2', t3', ws2', b2, ⟨rfl, rfl⟩, rfl⟩, e⟩ := h2;simp only [tX] at e;obtain ⟨rfl, rfl, -⟩ := e;simp only [stepOp, a1, b1, a2, b2, rv, markW] at hs ⊢
   repeat' split at hs
   all_goals first | (cases hs; done) | (simp only [zO] at hs; subst hs; simp_all; done) | (simp only [zO] at hs; subst hs; simp_all; obtain ⟨rfl, rfl⟩ := a2; simp_all; done)
 case copy str esz x y =>
   simp only [opdsOf, jb, jf] at h1 h2;obtain ⟨v, t, ws, a1, ⟨v2, t3, ws2, a2, ⟨rfl, rfl⟩, rfl⟩, rfl⟩ := h1;obtain ⟨v', t', ws', b1, ⟨v2', t3', ws2', b2, ⟨rfl, rfl⟩, rfl⟩, e⟩ := h2;simp only [tX] at e;obtain ⟨rfl, rfl, -⟩ := e;cases v <;> simp [stepOp, a1, b1, a2, b2, rv, markW] at hs ⊢;split at hs
   . split at hs
     . rename_i hc;obtain ⟨rfl, hc2⟩ := hc;simp only [zO] at hs; subst hs; simp_all
     . cases hs
   . cases hs
 case mapSet kk x y z =>
   simp only [opdsOf, jb, jf] at h1 h2;obtain ⟨v, t, ws, a1, ⟨v2, t3, ws2, a2, ⟨v3, t4, ws3, a3, ⟨rfl, rfl⟩, rfl⟩, rfl⟩, rfl⟩ := h1;obtain ⟨v', t', ws', b1, ⟨v2', t3', ws2', b2, ⟨v3', t4', ws3', b3, ⟨rfl, rfl⟩, rfl⟩, rfl⟩, e⟩ := h2;simp only [tX] at e;obtain ⟨rfl, rfl, rfl, -⟩ := e;cases v <;> simp [stepOp, a1, b1, a2, b2, a3, b3, rv] at hs ⊢;split at hs
   . split at hs
     . split at hs
       . simp only [zO] at hs; subst hs; simp_all
       . cases hs
     . cases hs
   . cases hs
 case build zs parts | buildSl esz xs | buildRs esz xs =>
   simp only [opdsOf] at h1 h2;simp only [stepOp, h1, h2, rv, stepCall, addOut] at hs ⊢
   repeat' split at hs
   all_goals first | (cases hs; done) | (simp only [zO] at hs; subst hs; simp_all; done) | (simp only [zO] at hs; subst hs; simp_all; obtain ⟨rfl, rfl⟩ := a2; simp_all; done)
 case minmax mx xs =>
   simp only [opdsOf] at h1 h2
   revert h1 h2 hs
   rcases vs with _ | ⟨v, _ | ⟨v2, _ | ⟨v3, vs⟩⟩⟩ <;> intro h1 h2 hs
   . simp [stepOp, h1] at hs
   . simp [stepOp, h1] at hs
   . cases v <;> cases v2 <;> simp [stepOp, h1, h2, rv] at hs ⊢;obtain ⟨hk, hs⟩ := hs;subst hs;simp [hk]
   . simp [stepOp, h1] at hs
 case call f xs | callp f xs =>
   simp only [opdsOf] at h1 h2;simp only [stepOp, h1, h2, rv, stepCall, addOut] at hs ⊢
   repeat' split at hs
   all_goals first | (cases hs; done) | (simp only [zO] at hs; subst hs; simp_all; done) | (simp only [zO] at hs; subst hs; simp_all; obtain ⟨rfl, rfl⟩ := a2; simp_all; done)
 case alloc zs | mkMap =>
   simp only [opdsOf, jf] at h1 h2;simp only [stepOp, zO] at hs ⊢;subst hs;simp [h1.2, h2.2]
 case extract x i =>
   simp only [opdsOf, jb, jf] at h1 h2;obtain ⟨v, t, ws, a1, ⟨rfl, rfl⟩, rfl⟩ := h1;obtain ⟨v', t', ws', b1, ⟨rfl, rfl⟩, e⟩ := h2;simp only [tX] at e;obtain ⟨rfl, -⟩ := e;simp only [j6] at hd;cases v <;> simp [stepOp, a1, b1, rv] at hs ⊢;split at hs
   . cases x <;> simp [plain] at hd hs ⊢ <;> (subst hs; simp_all)
   . cases hs
 case pick c x y =>
   simp only [opdsOf, jb, jf] at h1 h2;obtain ⟨v, t, ws, a1, ⟨v2, t3, ws2, a2, ⟨v3, t4, ws3, a3, ⟨rfl, rfl⟩, rfl⟩, rfl⟩, rfl⟩ := h1;obtain ⟨v', t', ws', b1, ⟨v2', t3', ws2', b2, ⟨v3', t4', ws3', b3, ⟨rfl, rfl⟩, rfl⟩, rfl⟩, e⟩ := h2;simp only [tX] at e;obtain ⟨rfl, rfl, rfl, -⟩ := e;simp only [j6, zA] at hd;have p1 := vw hd.1 a2;have p2 := vw hd.1 b2;subst p1 p2;have p1 := vw hd.2 a3;have p2 := vw hd.2 b3;subst p1 p2
   cases v with
   | bool b => cases b <;> simp [stepOp, a1, b1, a2, b2, a3, b3, rv] at hs ⊢ <;> (subst hs; simp)
   | _ => simp [stepOp, a1] at hs
 case mkFn f xs ys =>
   simp only [opdsOf, vI] at h1 h2;obtain ⟨v1, u1, v2, a1, a2, rfl⟩ := h1;obtain ⟨v1', u1', v2', b1, b2, e⟩ := h2;have hl : v1.length = v1'.length := by rw [kA a1, kA b1]
   obtain ⟨rfl, rfl⟩ := List.append_inj e hl;simp only [stepOp, a1, b1, a2, b2, rv] at hs ⊢;split at hs
   . rename_i hc;simp only [zO] at hs;subst hs;simp [hc]
   . cases hs
 case inv tab x xs =>
   simp only [opdsOf, jb] at h1 h2;obtain ⟨v, t, ws, a1, a2, rfl⟩ := h1;obtain ⟨v', t', ws', b1, b2, e⟩ := h2;simp only [tX] at e;obtain ⟨rfl, rfl⟩ := e;simp only [stepOp, a1, b1, stepCall, addOut] at hs ⊢
   repeat' split at hs
   all_goals first | (cases hs; done) | (simp only [zO] at hs; subst hs; simp_all; done)
 case callv f xs =>
   simp only [opdsOf, jb] at h1 h2;obtain ⟨v, t, ws, a1, a2, rfl⟩ := h1;obtain ⟨v', t', ws', b1, b2, e⟩ := h2;simp only [tX] at e;obtain ⟨rfl, rfl⟩ := e
   cases v with
   | fn gf us vs =>
     cases gf <;> simp [stepOp, a1, b1, a2, b2, stepCall, addOut] at hs ⊢;split at hs
     . rename_i hc;simp only [zO] at hs;subst hs;simp [hc]
     . cases hs
   | yl id =>
     simp [stepOp, a1, b1, a2, b2, stepCall, addOut] at hs ⊢;split at hs
     . rename_i hc;simp only [zO] at hs;subst hs;simp [hc]
     . cases hs
   | _ => simp [stepOp, a1] at hs
 case sliceS x lo hi =>
   simp only [opdsOf, jb, vI] at h1 h2;obtain ⟨v, t, ws, a1, ⟨w1, t3, w2, a2, a3, rfl⟩, rfl⟩ := h1;obtain ⟨v', t', ws', b1, ⟨w1', t3', w2', b2, b3, rfl⟩, e⟩ := h2;simp only [tX] at e;obtain ⟨rfl, e⟩ := e;obtain ⟨rfl, rfl⟩ := List.append_inj e (by rw [kA a2, kA b2]);simp only [j6, zA] at hd
   cases v with
   | str b =>
     obtain ⟨rfl, rfl, q1⟩ := kO (d := 0) hd.1 a2 b2;obtain ⟨rfl, rfl, q2⟩ := kO (d := b.length) hd.2 a3 b3;simp only [stepOp, a1, b1, rv, q1, q2] at hs ⊢;split at hs
     . split at hs
       . simp only [zO] at hs; subst hs; simp_all
       . cases hs
     . cases hs
   | _ => simp [stepOp, a1] at hs
 case sliceL esz x lo hi mx =>
   simp only [opdsOf, jb, vI] at h1 h2;obtain ⟨v, t, ws, a1, ⟨w1, t3, _, a2, ⟨w2, t4, w3, a3, a4, rfl⟩, rfl⟩, rfl⟩ := h1;obtain ⟨v', t', ws', b1, ⟨w1', t3', _, b2, ⟨w2', t4', w3', b3, b4, rfl⟩, rfl⟩, e⟩ := h2;simp only [tX] at e;obtain ⟨rfl, e⟩ := e;obtain ⟨rfl, e2⟩ := List.append_inj e (by rw [kA a2, kA b2]);obtain ⟨rfl, rfl⟩ := List.append_inj e2 (by rw [kA a3, kA b3]);simp only [j6, zA] at hd
   cases v with
   | sl own r xs =>
     obtain ⟨rfl, rfl, q1⟩ := kO (d := 0) hd.1 a2 b2;obtain ⟨rfl, rfl, q2⟩ := kO (d := xs.length) hd.2.1 a3 b3;obtain ⟨rfl, rfl, q3⟩ := kO (d := xs.length) hd.2.2 a4 b4;simp only [stepOp, a1, b1, rv, q1, q2, q3] at hs ⊢
     repeat' split at hs
     all_goals first | (cases hs; done) | (simp only [zO] at hs; subst hs; simp_all; done)
   | rs e id off len =>
     obtain ⟨rfl, rfl, q1⟩ := kO (d := 0) hd.1 a2 b2;obtain ⟨rfl, rfl, q2⟩ := kO (d := len) hd.2.1 a3 b3;obtain ⟨rfl, rfl, q3⟩ := kO (d := len) hd.2.2 a4 b4;simp only [stepOp, a1, b1, rv, q1, q2] at hs ⊢
     repeat' split at hs
     all_goals first | (cases hs; done) | (simp only [zO] at hs; subst hs; simp_all; done)
   | _ => simp [stepOp, a1] at hs
end Go.Idl
