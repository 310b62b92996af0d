/- The ideal machine and its evaluators, part 4; no conditions. -/
import Derived.Laws.Externs
import Derived.Lib.Bytealg
import Derived.KernelRfl
import Derived.Laws.LoneSync
import Derived.Laws.RangeString
import Derived.Laws.IdiomStrings
import Derived.Laws.Tables
import Derived.Test.YtipgledppmelpaaGreatDoorIdlC
set_option linter.unusedSectionVars false
set_option linter.unusedVariables false
set_option linter.unusedSimpArgs false
namespace Go.Idl
open Go Go.Extern Go.Extern.Rtype
variable [Globs]
variable {P : Program} {o : Oper} {a : Act} {g : Gh} {O : List Nat} {w : World} {s : St} {res : Res} {cf : CallF}
def undP (P : Program) (t : TypeId) : Option (TypeId × TypeInfo) :=
 match P.info? t with
 | some i => match i.desc with
   | .named _ u => match P.info? u with
     | some j => some (u, j)
     | none => none
   | _ => some (t, i)
 | none => none
theorem run_under {t : TypeId} {r : TypeId × TypeInfo} (h : undP P t = some r) : (under t).run P w = .ok r w := by
 unfold undP at h
 split at h
 . rename_i i hi
   split at h
   . rename_i n u hd
     split at h
     . rename_i j hj
       simp only [zO] at h
       subst h
       simp [under, typeInfo, hi, hd, hj]
     . cases h
   . rename_i hd
     simp only [zO] at h
     subst h
     simp only [under]
     simp only [typeInfo, Sem.run_bind, run_program, Result.andThen, hi]
     simp only [Sem.run_pure]
 . cases h
def kindD (i : TypeInfo) : Option Nat :=
 match i.desc with
 | .bool => some 1
 | .int .i64 => some (if i.str == "int" then 2 else 6)
 | .int .i8 => some 3 | .int .i16 => some 4 | .int .i32 => some 5
 | .int .u64 => some (if i.str == "uint" then 7 else if i.str == "uintptr" then 12 else 11)
 | .int .u8 => some 8 | .int .u16 => some 9 | .int .u32 => some 10
 | .func _ _ _ => some 19 | .interface _ => some 20 | .map _ _ => some 21
 | .pointer _ => some 22 | .slice _ => some 23 | .string => some 24 | .struct _ => some 25
 | _ => none
def kindP (P : Program) (t : TypeId) : Option Nat := match undP P t with
 | some r => kindD r.2
 | none => none
theorem run_kind {t : TypeId} {k : Nat} (h : kindP P t = some k) : (kind t).run P w = .ok k w := by
 unfold kindP at h
 split at h
 . rename_i r hr
   simp only [kind, Sem.run_bind, run_under hr, Result.andThen]
   unfold kindD at h
   split at h <;> first | (cases h; done) | (rename_i e; simp only [zO] at h; subst h; simp only [e]; rfl)
 . cases h
def elemD : TypeDesc -> Option TypeId
 | .array _ e => some e
 | .chan _ e => some e
 | .map _ e => some e
 | .pointer e => some e
 | .slice e => some e
 | _ => none
def elemP (P : Program) (t : TypeId) : Option TypeId := match undP P t with
 | some r => elemD r.2.desc
 | none => none
theorem run_elem {t e : TypeId} (h : elemP P t = some e) : (elem? t).run P w = .ok (some e) w := by
 unfold elemP at h
 split at h
 . rename_i r hr
   simp only [elem?, Sem.run_bind, run_under hr, Result.andThen]
   unfold elemD at h
   split at h <;> first | (cases h; done) | (rename_i e; simp only [zO] at h; subst h; simp only [e]; rfl)
 . cases h
def namedD : TypeDesc -> Bool
 | .named _ _ => true
 | .bool => true
 | .int _ => true
 | .float _ => true
 | .complex _ => true
 | .string => true
 | .unsafePointer => true
 | _ => false
theorem run_hasName {t : TypeId} {i : TypeInfo} (h : P.info? t = some i) : (hasName t).run P w = .ok (namedD i.desc) w := by
 simp only [hasName, typeInfo, Sem.run_bind, run_program, Result.andThen, h, Sem.run_pure]
 unfold namedD
 split <;> rename_i e <;> first | rfl | simp_all
def daP (P : Program) (T V : TypeId) : Option Bool :=
 if T == V then some true else match P.info? T, P.info? V with
   | some i, some j => if namedD i.desc && namedD j.desc then some false else match undP P T, undP P V with
     | some (t, ti), some (v, vi) => match ti.desc with
       | .chan _ _ => none
       | _ => some (t == v)
     | _, _ => none
   | _, _ => none
theorem run_da {T U : TypeId} {b : Bool} (h : daP P T U = some b) : (directlyAssignable T U).run P w = .ok b w := by
 unfold daP at h
 unfold directlyAssignable
 split at h
 . rename_i e
   simp only [zO] at h
   subst h
   simp [e]
 . rename_i e
   split at h
   . rename_i i j hi hj
     simp only [e, Bool.false_eq_true, if_false, Sem.run_bind, run_hasName hi, run_hasName hj, Result.andThen]
     split at h
     . rename_i hn
       simp only [zO] at h
       subst h
       simp [hn]
     . rename_i hn
       simp only [hn, Bool.false_eq_true, if_false, Sem.run_bind]
       split at h
       . rename_i t ti v vi ht hv
         simp only [Sem.run_pure, Result.andThen, run_under ht, run_under hv]
         split at h
         . cases h
         . rename_i hd
           simp only [zO] at h
           subst h
           split
           . rename_i e1 _; exact absurd e1 (hd _ _)
           . rfl
       . cases h
   . cases h
def ifaceD : TypeDesc -> Option (Array (String × TypeId))
 | .interface ms => some ms
 | _ => none
def implP (P : Program) (T U : TypeId) : Option Bool :=
 match undP P T, undP P U, P.info? U with
 | some r, some q, some i => match ifaceD r.2.desc, ifaceD q.2.desc with
   | none, _ => some false
   | some want, none => some (Go.lacking want i.methods).isEmpty
   | some _, some _ => none
 | _, _, _ => none
theorem run_impl {T U : TypeId} {b : Bool} (h : implP P T U = some b) (h1 : P.methodsOfAPack P.depth T = false) (h2 : P.methodsOfAPack P.depth U = false) : (implements T U).run P w = .ok b w := by
 unfold implP at h
 split at h
 . rename_i r q i hT hU hi
   simp only [implements, noPackMethods, Sem.run_bind, run_program, Result.andThen, h1, h2, Bool.false_eq_true, if_false, Sem.run_pure, run_under hT, run_under hU]
   generalize r.2.desc = d1 at h ⊢
   generalize q.2.desc = d2 at h ⊢
   have hm : ∀ want, (Instr.missingMethod want i.methods).isNone = (Go.lacking want i.methods).isEmpty := by
     intro want
     by_cases e : Go.lacking want i.methods = []
     . rw [missingMethod_none e, e]; rfl
     . obtain ⟨m, hm⟩ := missingMethod_some e
       rw [hm]
       cases hl : Go.lacking want i.methods with
       | nil => exact absurd hl e
       | cons a r => rfl
   cases d1 with
   | interface want =>
     cases d2 with
     | interface got => simp [ifaceD] at h
     | _ =>
       simp only [ifaceD, zO] at h
       subst h
       simp only [typeInfo, Sem.run_bind, run_program, Result.andThen, hi, Sem.run_pure, hm]
   | _ =>
     simp only [ifaceD, zO] at h
     subst h
     rfl
 . cases h
def cutOK (P : Program) (name : String) (t : TypeId) : Bool := match P.cutTypes.find? (·.1 == name) with
 | some (_, u) => t == u
 | none => false
theorem run_cut {name : String} {t : TypeId} (h : cutOK P name t = true) : (cutType name).run P w = .ok t w := by
 unfold cutOK at h
 split at h
 . rename_i n u hf
   have := eq_of_beq h
   subst this
   simp [cutType, hf]
 . cases h
theorem run_handle (t : TypeId) : (handle t).run P w = .ok (.pointer (some ⟨P.globals.size, t, none⟩)) w := rfl
theorem run_ofHandle (t : TypeId) : (ofHandle (.pointer (some ⟨P.globals.size, t, none⟩))).run P w = .ok t w := by
 simp [ofHandle, handleType]
theorem run_noPack {what : String} {t : TypeId} (h : P.packed t = false) : (noPack what t).run P w = .ok () w := by simp [noPack, h]
theorem run_noPackHeld {what : String} {t : TypeId} (h : P.holdsPacked P.depth t = false) : (noPackHeld what t).run P w = .ok () w := by simp [noPackHeld, h]
theorem run_noPackMethods {what : String} {t : TypeId} (h : P.methodsOfAPack P.depth t = false) : (noPackMethods what t).run P w = .ok () w := by simp [noPackMethods, h]
theorem run_toType {rt t : TypeId} (h : cutOK P "internal/reflectlite.rtype" rt = true) : (ReflectliteType.toType t).run P w = .ok (.iface rt (.agg #[.pointer (some ⟨P.globals.size, t, none⟩)])) w := by
 simp [ReflectliteType.toType, run_cut h, run_handle, Result.andThen]
theorem ofRtype_eq (h : Value) : ReflectliteType.ofRtype (.agg #[h]) = (do let t <- ofHandle h; noPack "a Type asked or handed on" t; pure t) := rfl
theorem run_ofRtype {t : TypeId} (h : P.packed t = false) : (ReflectliteType.ofRtype (.agg #[.pointer (some ⟨P.globals.size, t, none⟩)])).run P w = .ok t w := by
 rw [ofRtype_eq]
 simp [run_ofHandle, run_noPack h, Result.andThen]
def extName : ExtK -> String
 | .typeOf _ _ => "internal/reflectlite.TypeOf"
 | .vType _ _ => "(internal/reflectlite.Value).Type"
 | .vIsNil _ _ => "(internal/reflectlite.Value).IsNil"
 | .vElem _ _ => "(internal/reflectlite.Value).Elem"
 | .rElem _ _ _ => "(internal/reflectlite.rtype).Elem"
 | .rCmp _ _ => "(internal/reflectlite.rtype).Comparable"
 | .rImpl _ _ => "(internal/reflectlite.rtype).Implements"
 | .rAsg _ _ => "(internal/reflectlite.rtype).AssignableTo"
 | .aKind _ _ => "(*internal/abi.Type).Kind"
 | .cntS => "internal/bytealg.CountString"
 | .idxBS => "internal/bytealg.IndexByteString"
 | .mk0 a => if a then "internal/race.Disable" else "internal/race.Enable"
 | .mk1 a => if a then "internal/race.Acquire" else "internal/race.ReleaseMerge"
def extFn : ExtK -> Array Value -> Sem Value
 | .typeOf _ _ => ReflectliteType.typeOf
 | .vType _ _ => ReflectliteValue.methodAny (ReflectliteValue.valueError "reflectlite.Value.Type" 0) fun t _ _ _ => ReflectliteType.toType t
 | .vIsNil _ _ => ReflectliteValue.method (ReflectliteValue.valueError "reflectlite.Value.IsNil" 0) ReflectliteValue.isNil
 | .vElem _ _ => ReflectliteValue.method (ReflectliteValue.valueError "reflectlite.Value.Elem" 0) ReflectliteValue.elem
 | .rElem _ _ _ => ReflectliteType.method ReflectliteType.elem
 | .rCmp _ _ => ReflectliteType.method fun t => do noPackHeld "Comparable" t; pure (.bool (<- typeInfo t).comparable)
 | .rImpl _ _ => ReflectliteType.relation "Implements" ReflectliteType.implements_
 | .rAsg _ _ => ReflectliteType.relation "AssignableTo" ReflectliteType.assignableTo
 | .aKind _ _ => ReflectliteType.abiMethod fun t => do pure (.int .u8 (<- kind t))
 | .cntS => BytealgCount.count
 | .idxBS => BytealgIndexByte.indexByte
 | .mk0 a => if a then fun _ => do mark .disable; pure Race.none_ else fun _ => do mark .enable; pure Race.none_
 | .mk1 a => if a then Race.marked .acquire else Race.marked .releaseMerge
theorem ext_find {fn : Func} {k : ExtK} (h : fn.name = extName k) (ho : fn.origin = "") : Extern.findNext fn = none /\ Extern.find fn = some (extFn k) := by
 unfold Extern.findNext Extern.find
 rw [h, ho]
 cases k
 case mk0 a => cases a <;> exact ⟨by kernel_rfl, by kernel_rfl⟩
 case mk1 a => cases a <;> exact ⟨by kernel_rfl, by kernel_rfl⟩
 all_goals exact ⟨by kernel_rfl, by kernel_rfl⟩
def extOK (P : Program) : ExtK -> Bool
 | .typeOf rt G => G == P.globals.size && cutOK P "internal/reflectlite.rtype" rt
 | .vType rt G => G == P.globals.size && cutOK P "internal/reflectlite.rtype" rt
 | .vIsNil G tab => G == P.globals.size && tab.all fun t => !P.packed t && tyN P t none
 | .vElem G tab => G == P.globals.size && tab.all fun p => !P.packed p.1 && (tyN P p.1 none && (elemP P p.1 == some p.2.1 && kindP P p.2.1 == some p.2.2))
 | .rElem rt G tab => G == P.globals.size && (cutOK P "internal/reflectlite.rtype" rt && tab.all fun p => !P.packed p.1 && elemP P p.1 == some p.2)
 | .rCmp G tab => G == P.globals.size && tab.all fun p => !P.packed p.1 && (!P.holdsPacked P.depth p.1 && (match P.info? p.1 with | some i => i.comparable == p.2 | none => false))
 | .rImpl G tab => G == P.globals.size && tab.all fun p => !P.packed p.1.1 && (!P.packed p.1.2 && (!P.methodsOfAPack P.depth p.1.1 && (!P.methodsOfAPack P.depth p.1.2 && (kindP P p.1.2 == some 20 && implP P p.1.2 p.1.1 == some p.2))))
 | .rAsg G tab => G == P.globals.size && tab.all fun p => !P.packed p.1.1 && (!P.packed p.1.2 && (!P.methodsOfAPack P.depth p.1.1 && (!P.methodsOfAPack P.depth p.1.2 && (match daP P p.1.2 p.1.1, implP P p.1.2 p.1.1 with | some a, some b => (a || b) == p.2 | _, _ => false))))
 | .aKind G tab => G == P.globals.size && tab.all fun p => !P.packed p.1 && kindP P p.1 == some p.2
 | _ => true
theorem cntB_eq (c : UInt8) : ∀ (l : List UInt8) (n : Nat), cntB c.toNat l n = n + Lib.countByte l c := by
 intro l
 induction l with
 | nil => intro n; simp [cntB, Lib.countByte]
 | cons b l ih =>
   intro n
   have hb : Nat.beq b.toNat c.toNat = (b == c) := by
     cases h : b == c with
     | true => have := eq_of_beq h; subst this; exact Nat.beq_refl _
     | false =>
       cases h' : Nat.beq b.toNat c.toNat with
       | false => rfl
       | true => have := UInt8.toNat.inj (zN h'); subst this; simp at h
   simp only [cntB, ih, hb, Lib.countByte, List.count_cons]
   cases b == c <;> simp; omega
theorem idxB_eq (c : UInt8) : ∀ (l : List UInt8) (k : Nat), idxB c.toNat l k = if Lib.indexByte l c = -1 then -1 else Lib.indexByte l c + k := by
 intro l
 induction l with
 | nil => intro k; simp [idxB, Lib.indexByte]
 | cons b l ih =>
   intro k
   have hb : Nat.beq b.toNat c.toNat = (b == c) := by
     cases h : b == c with
     | true => have := eq_of_beq h; subst this; exact Nat.beq_refl _
     | false =>
       cases h' : Nat.beq b.toNat c.toNat with
       | false => rfl
       | true => have := UInt8.toNat.inj (zN h'); subst this; simp at h
   have hge := Lib.indexByte_ge l c
   have e : Lib.indexByte (b :: l) c = if b == c then 0 else if Lib.indexByte l c == -1 then -1 else Lib.indexByte l c + 1 := rfl
   generalize Lib.indexByte (b :: l) c = x at e ⊢
   simp only [idxB, ih, hb]
   generalize Lib.indexByte l c = y at e hge ⊢
   cases hbc : b == c with
   | true => rw [hbc] at e; simp at e; subst e; simp
   | false =>
     rw [hbc] at e
     simp at e
     by_cases h : y = -1
     . simp [h] at e ⊢; simp [e]
     . simp [h] at e ⊢
       subst e
       rw [if_neg (by omega)]
       omega
theorem hdl_inv {G : Nat} {h : IVal} {hv : Value} {t : TypeId} (hV : V g h hv) (ht : hdlT G h = some t) : hv = .pointer (some ⟨G, t, none⟩) := by
 unfold hdlT at ht
 split at ht
 . split at ht
   . rename_i e
     simp only [zO] at ht
     subst ht e
     cases hV; rfl
   . cases ht
 . cases ht
theorem agg1_inv {h : IVal} {u : Value} (hV : V g (.agg [h]) u) : ∃ hv, u = .agg #[hv] /\ V g h hv := by
 cases hV with
 | agg _ vs hl hv hi =>
   obtain ⟨hv', e⟩ : ∃ x, vs = #[x] := by
     obtain ⟨l⟩ := vs
     match l, hl with
     | [x], _ => exact ⟨x, rfl⟩
   subst e
   exact ⟨hv', rfl, hv 0 _ _ rfl rfl⟩
theorem agg3_inv {h p q : IVal} {u : Value} (hV : V g (.agg [h, p, q]) u) : ∃ hv pv qv, u = .agg #[hv, pv, qv] /\ V g h hv /\ V g p pv /\ V g q qv := by
 cases hV with
 | agg _ vs hl hv hi =>
   obtain ⟨x, y, z, e⟩ : ∃ x y z, vs = #[x, y, z] := by
     obtain ⟨l⟩ := vs
     match l, hl with
     | [x, y, z], _ => exact ⟨x, y, z, rfl⟩
   subst e
   exact ⟨x, y, z, rfl, hv 0 _ _ rfl rfl, hv 1 _ _ rfl rfl, hv 2 _ _ rfl rfl⟩
theorem pv1_inv {r : Bool} {c : IVal} {u : Value} (hV : V g (.pv r [c] 0) u) : ∃ b o cv, u = .pointer (some ⟨b, o, none⟩) /\ V g c cv /\ c.isCell = true /\ g.M b o = some cv /\ un1 c = c := by
 cases hV with
 | pv _ _ _ vs a hs ho hl hv hf hr hm =>
   obtain ⟨cv, e⟩ : ∃ x, vs = [x] := by
     match vs, hl with
     | [x], _ => exact ⟨x, rfl⟩
   subst e
   obtain ⟨b, o, sp⟩ := a
   simp only at hs
   subst hs
   exact ⟨b, o, cv, rfl, hv 0 _ _ rfl rfl, (hf c (by simp)).2, by have := hm 0 cv rfl; simpa using this, (hf c (by simp)).1⟩
theorem pvany_inv {r : Bool} {cs : List IVal} {off : Nat} {u : Value} (hV : V g (.pv r cs off) u) : ∃ a, u = .pointer (some a) := by
 cases hV with
 | pv _ _ _ vs a hs ho hl hv hf hr hm => exact ⟨a, rfl⟩
theorem rt_V (g : Gh) (rt G : Nat) (t : TypeId) : V g (rtI rt G t) (.iface rt (.agg #[.pointer (some ⟨G, t, none⟩)])) /\ own3 (rtI rt G t) (.iface rt (.agg #[.pointer (some ⟨G, t, none⟩)])) = [] := by
 refine ⟨.iface _ _ _ (.agg _ _ rfl (fun i x v hx hv => ?_) (by simp [hdlI, IVal.isCell])) ⟨rfl, rfl⟩, rfl⟩
 cases i with
 | zero => simp at hx hv; subst hx hv; exact .prim _ rfl
 | succ i => simp at hx
theorem methodAny_eq (z : Sem Value) (f : TypeId -> Addr -> Nat -> Nat -> Sem Value) (v : Value) :
   ReflectliteValue.methodAny z f #[v] = (do match <- ReflectliteValue.partsAny v with | none => z | some (t, a, fl) => f t a fl (fl % 32)) := rfl
theorem method_eq (z : Sem Value) (f : TypeId -> Addr -> Nat -> Nat -> Sem Value) (v : Value) :
   ReflectliteValue.method z f #[v] = (do match <- ReflectliteValue.parts v with | none => z | some (t, a, fl) => f t a fl (fl % 32)) := rfl
def vfl (f : Int) : Prop := f = 150 \/ f = 406
theorem run_partsAny {t : TypeId} {ad : Addr} {f : Int} (hf : vfl f) : (ReflectliteValue.partsAny (.agg #[.pointer (some ⟨P.globals.size, t, none⟩), .pointer (some ad), .int .u64 f])).run P w = .ok (some (t, ad, f.toNat)) w := by
 have e : ReflectliteValue.partsAny (.agg #[.pointer (some ⟨P.globals.size, t, none⟩), .pointer (some ad), .int .u64 f]) = (do pure (some (<- ofHandle (.pointer (some ⟨P.globals.size, t, none⟩)), ad, f.toNat))) := by
   rcases hf with rfl | rfl <;> rfl
 rw [e]
 simp [run_ofHandle, Result.andThen]
theorem run_parts {t : TypeId} {ad : Addr} {f : Int} (hf : vfl f) (hp : P.packed t = false) : (ReflectliteValue.parts (.agg #[.pointer (some ⟨P.globals.size, t, none⟩), .pointer (some ad), .int .u64 f])).run P w = .ok (some (t, ad, f.toNat)) w := by
 simp [ReflectliteValue.parts, run_partsAny hf, run_noPack hp, Result.andThen]
theorem run_loadP {T : TypeId} {b o : Nat} {c : IVal} {cv : Value} (hT : tyN P T none = true) (hV : V g c cv) (hc : c.isCell = true) (hm : w.cell? ⟨b, o, none⟩ = some cv) : ∃ u, (loadVar T ⟨b, o, none⟩).run P w = .ok u w /\ V g c u := by
 obtain ⟨u, h1, h2, -⟩ := run_loadVar (P := P) (w := w) (n := none) (cs := [c]) (vs := [cv]) (b := b) (e := o) (off := 0) (z := c) hT (Nat.le_refl _) (fun i x v hx hv => by
   cases i with
   | zero => simp at hx hv; subst hx hv; exact hV
   | succ i => simp at hx) (by simpa using hc) (fun j v hj => by
   cases j with
   | zero => simp at hj; subst hj; exact hm
   | succ j => simp at hj) rfl
 exact ⟨u, h1, h2⟩
theorem args1 {vs : List IVal} {us : List Value} {x : IVal} (e : vs = [x]) (hl : vs.length = us.length) (hv : ∀ (i : Nat) x u, vs[i]? = some x -> us[i]? = some u -> V g x u) : ∃ u, us = [u] /\ V g x u := by
 subst e
 match us, hl with
 | [u], _ => exact ⟨u, rfl, hv 0 _ _ rfl rfl⟩
theorem args2 {vs : List IVal} {us : List Value} {x y : IVal} (e : vs = [x, y]) (hl : vs.length = us.length) (hv : ∀ (i : Nat) x u, vs[i]? = some x -> us[i]? = some u -> V g x u) : ∃ u v, us = [u, v] /\ V g x u /\ V g y v := by
 subst e
 match us, hl with
 | [u, v], _ => exact ⟨u, v, rfl, hv 0 _ _ rfl rfl, hv 1 _ _ rfl rfl⟩
theorem find_mem {α : Type} {p : α -> Bool} {l : List α} {x : α} (h : l.find? p = some x) : x ∈ l /\ p x = true := ⟨List.mem_of_find?_eq_some h, List.find?_some h⟩
theorem iface_inv {t : TypeId} {x : IVal} {u : Value} (hV : V g (.iface t x) u) : ∃ v, u = .iface t v /\ V g x v /\ Flat x := by
 cases hV with
 | iface _ _ v hv hf => exact ⟨v, rfl, hv, hf⟩
theorem rtMethod_eq (f : TypeId -> Sem Value) (r : Value) : ReflectliteType.method f #[r] = (do f (<- ReflectliteType.ofRtype r)) := rfl
theorem relation_eq (n : String) (f : TypeId -> TypeId -> Sem Bool) (r v : Value) (u : TypeId) : ReflectliteType.relation n f #[r, .iface u v] = (do pure (.bool (<- f (<- ReflectliteType.ofRtype v) (<- ReflectliteType.ofRtype r)))) := rfl
theorem abi_eq (f : TypeId -> Sem Value) (h : Value) : ReflectliteType.abiMethod f #[h] = (do let t <- ofHandle h; noPack "a method of abi.Type" t; f t) := rfl
theorem ext_run {k : ExtK} (hk : extOK P k = true) {vs : List IVal} {us : List Value} (hl : vs.length = us.length) (hv : ∀ (i : Nat) x u, vs[i]? = some x -> us[i]? = some u -> V g x u)
   (hm : ∀ b o c, g.M b o = some c -> w.cell? ⟨b, o, none⟩ = some c) {v : IVal} (h : extI k vs = some v) : ∃ u, (extFn k us.toArray).run P w = .ok u w /\ V g v u /\ own3 v u = [] := by
 unfold extI at h
 split at h
 . -- typeOf
   rename_i rt G t x
   simp only [zO] at h
   subst h
   simp only [extOK, zA, beq_iff_eq] at hk
   obtain ⟨rfl, hk⟩ := hk
   obtain ⟨u, rfl, hV⟩ := args1 rfl hl hv
   obtain ⟨v, rfl, -, -⟩ := iface_inv hV
   exact ⟨_, run_toType hk, rt_V g rt _ t⟩
 . -- vType
   rename_i rt G hd r cs off f
   split at h
   . rename_i t ht
     split at h
     . rename_i hf
       simp only [zO] at h
       subst h
       simp only [extOK, zA, beq_iff_eq] at hk
       obtain ⟨rfl, hk⟩ := hk
       obtain ⟨u, rfl, hV⟩ := args1 rfl hl hv
       obtain ⟨hv', pv, qv, rfl, v1, v2, v3⟩ := agg3_inv hV
       have := hdl_inv v1 ht; subst this
       obtain ⟨ad, rfl⟩ := pvany_inv v2
       cases v3
       refine ⟨_, ?_, rt_V g rt _ t⟩
       simp only [extFn]
       rw [methodAny_eq]
       simp only [Sem.run_bind, run_partsAny (.inl hf), Result.andThen, run_toType hk]
     . cases h
   . cases h
 . -- vIsNil
   rename_i G tab hd r c f
   split at h
   . rename_i t ht
     split at h
     . rename_i hf
       obtain ⟨hf, hc⟩ := hf
       simp only [extOK, zA, beq_iff_eq, List.all_eq_true, Bool.not_eq_true'] at hk
       obtain ⟨rfl, hk⟩ := hk
       obtain ⟨hp, hT⟩ := hk t (List.contains_iff_mem.1 hc)
       obtain ⟨u, rfl, hV⟩ := args1 rfl hl hv
       obtain ⟨hv', pv, qv, rfl, v1, v2, v3⟩ := agg3_inv hV
       have := hdl_inv v1 ht; subst this
       obtain ⟨b, o, cv, rfl, vc, hcell, hM, -⟩ := pv1_inv v2
       cases v3
       obtain ⟨lu, hlu, vlu⟩ := run_loadP (w := w) hT vc hcell (hm _ _ _ hM)
       have e : ∀ p, lu = .pointer p -> (extFn (.vIsNil P.globals.size tab) [Value.agg #[.pointer (some ⟨P.globals.size, t, none⟩), .pointer (some ⟨b, o, none⟩), .int .u64 f]].toArray).run P w = .ok (.bool p.isNone) w := by
         intro p hp'
         simp only [extFn]
         rw [method_eq]
         subst hf hp'
         simp only [Sem.run_bind, run_parts (.inl rfl) hp, Result.andThen, ReflectliteValue.isNil]
         simp [hlu, Result.andThen]
         cases p <;> rfl
       split at h
       . simp only [zO] at h; subst h
         cases vlu
         exact ⟨_, e _ rfl, .bool _, rfl⟩
       . simp only [zO] at h; subst h
         cases vlu
         exact ⟨_, e _ rfl, .bool _, rfl⟩
       . simp only [zO] at h; subst h
         obtain ⟨ad, rfl⟩ := pvany_inv vlu
         exact ⟨_, e _ rfl, .bool _, rfl⟩
       . cases h
     . cases h
   . cases h
 . -- vElem
   rename_i G tab hd r c f
   split at h
   . rename_i t ht
     split at h
     . rename_i hf
       split at h
       . rename_i t' e k hfind
         split at h
         . rename_i id off
           simp only [zO] at h
           subst h
           simp only [extOK, zA, beq_iff_eq, List.all_eq_true, Bool.not_eq_true'] at hk
           obtain ⟨rfl, hk⟩ := hk
           obtain ⟨hmem, he⟩ := find_mem hfind
           have := eq_of_beq he; subst this
           obtain ⟨hp, hT, hE, hK⟩ := hk _ hmem
           obtain ⟨u, rfl, hV⟩ := args1 rfl hl hv
           obtain ⟨hv', pv, qv, rfl, v1, v2, v3⟩ := agg3_inv hV
           have := hdl_inv v1 ht; subst this
           obtain ⟨b, o, cv, rfl, vc, hcell, hM, -⟩ := pv1_inv v2
           cases v3
           obtain ⟨lu, hlu, vlu⟩ := run_loadP (w := w) hT vc hcell (hm _ _ _ hM)
           subst hf
           cases vlu with
           | ptr _ _ b' hb' =>
           refine ⟨.agg #[.pointer (some ⟨P.globals.size, e, none⟩), .pointer (some ⟨b', off, none⟩), .int .u64 (k + 384 : Nat)], ?_, .agg _ _ rfl (fun i x v hx hv' => ?_) (by simp [hdlI, IVal.isCell]), rfl⟩
           . simp only [extFn]
             rw [method_eq]
             simp only [Sem.run_bind, run_parts (.inl rfl) hp, Result.andThen, ReflectliteValue.elem]
             have e1 : ((150 : Int).toNat % 32 != 20 && (150 : Int).toNat % 32 != 22) = false := rfl
             simp only [e1, Bool.false_eq_true, if_false, Sem.run_bind, hlu, Result.andThen, run_elem hE]
             show (ReflectliteValue.mk e ⟨b', off, none⟩ ReflectliteValue.flagAddr).run P w = _
             simp [ReflectliteValue.mk, run_handle, run_kind hK, Result.andThen, ReflectliteValue.flagIndir, ReflectliteValue.flagAddr]
             omega
           . match i with
             | 0 => simp at hx hv'; subst hx hv'; exact .prim _ rfl
             | 1 => simp at hx hv'; subst hx hv'; exact .ptr _ _ _ hb'
             | 2 => simp at hx hv'; subst hx hv'; exact .int _ _
             | i + 3 => simp at hx
         . cases h
       . cases h
     . cases h
   . cases h
 . -- rElem
   rename_i rt G tab hd
   split at h
   . rename_i t ht
     split at h
     . rename_i u e hf
       simp only [zO] at h
       subst h
       simp only [extOK, zA, beq_iff_eq, List.all_eq_true, Bool.not_eq_true'] at hk
       obtain ⟨rfl, hcut, hk⟩ := hk
       obtain ⟨hmem, he⟩ := find_mem hf
       have := eq_of_beq he; subst this
       obtain ⟨hp, hE⟩ := hk _ hmem
       obtain ⟨u', rfl, hV⟩ := args1 rfl hl hv
       obtain ⟨hv', rfl, v1⟩ := agg1_inv hV
       have := hdl_inv v1 ht; subst this
       refine ⟨_, ?_, rt_V g rt _ e⟩
       simp only [extFn]
       rw [rtMethod_eq]
       simp only [Sem.run_bind, run_ofRtype hp, Result.andThen, ReflectliteType.elem, run_elem hE, run_toType hcut]
     . cases h
   . cases h
 . -- rCmp
   rename_i G tab hd
   split at h
   . rename_i t ht
     split at h
     . rename_i u b hf
       simp only [zO] at h
       subst h
       simp only [extOK, zA, beq_iff_eq, List.all_eq_true, Bool.not_eq_true'] at hk
       obtain ⟨rfl, hk⟩ := hk
       obtain ⟨hmem, he⟩ := find_mem hf
       have := eq_of_beq he; subst this
       obtain ⟨hp, hH, hE⟩ := hk _ hmem
       split at hE
       . rename_i i hi
         have hE := eq_of_beq hE
         simp only at hE
         subst hE
         obtain ⟨u', rfl, hV⟩ := args1 rfl hl hv
         obtain ⟨hv', rfl, v1⟩ := agg1_inv hV
         have := hdl_inv v1 ht; subst this
         refine ⟨.bool i.comparable, ?_, .bool _, rfl⟩
         simp only [extFn]
         rw [rtMethod_eq]
         simp only [Sem.run_bind, run_ofRtype hp, Result.andThen, run_noPackHeld hH, typeInfo, run_program, hi, Sem.run_pure]
       . cases hE
     . cases h
   . cases h
 . -- rImpl
   rename_i G tab hd u0 hd'
   split at h
   . rename_i t t' ht ht'
     split at h
     . rename_i p b hf
       simp only [zO] at h
       subst h
       simp only [extOK, zA, beq_iff_eq, List.all_eq_true, Bool.not_eq_true'] at hk
       obtain ⟨rfl, hk⟩ := hk
       obtain ⟨hmem, he⟩ := find_mem hf
       simp only [zA, beq_iff_eq] at he
       obtain ⟨e1, e2⟩ := he
       subst e1 e2
       obtain ⟨hp, hp', hM, hM', hK, hI⟩ := hk _ hmem
       obtain ⟨x, y, rfl, hV, hV'⟩ := args2 rfl hl hv
       obtain ⟨hv1, rfl, v1⟩ := agg1_inv hV
       obtain ⟨y', rfl, hV', -⟩ := iface_inv hV'
       obtain ⟨hv2, rfl, v2⟩ := agg1_inv hV'
       have := hdl_inv v1 ht; subst this
       have := hdl_inv v2 ht'; subst this
       refine ⟨.bool b, ?_, .bool _, rfl⟩
       simp only [extFn]
       show (ReflectliteType.relation _ _ #[_, _]).run P w = _
       rw [relation_eq]
       have e20 : ((20 : Nat) != 20) = false := rfl
       have hrun : (ReflectliteType.implements_ p.2 p.1).run P w = .ok b w := by
         simp only [ReflectliteType.implements_, Sem.run_bind, run_kind hK, Result.andThen, e20, Bool.false_eq_true, if_false, run_noPackMethods hM, run_noPack hp', run_impl hI hM' hM]
       simp only [Sem.run_bind, run_ofRtype hp, run_ofRtype hp', Result.andThen, hrun, Sem.run_pure]
     . cases h
   . cases h
 . -- rAsg
   rename_i G tab hd u0 hd'
   split at h
   . rename_i t t' ht ht'
     split at h
     . rename_i p b hf
       simp only [zO] at h
       subst h
       simp only [extOK, zA, beq_iff_eq, List.all_eq_true, Bool.not_eq_true'] at hk
       obtain ⟨rfl, hk⟩ := hk
       obtain ⟨hmem, he⟩ := find_mem hf
       simp only [zA, beq_iff_eq] at he
       obtain ⟨e1, e2⟩ := he
       subst e1 e2
       obtain ⟨hp, hp', hM, hM', hI⟩ := hk _ hmem
       split at hI
       . rename_i b1 b2 hd1 hd2
         have hI := eq_of_beq hI
         simp only at hI
         subst hI
         obtain ⟨x, y, rfl, hV, hV'⟩ := args2 rfl hl hv
         obtain ⟨hv1, rfl, v1⟩ := agg1_inv hV
         obtain ⟨y', rfl, hV', -⟩ := iface_inv hV'
         obtain ⟨hv2, rfl, v2⟩ := agg1_inv hV'
         have := hdl_inv v1 ht; subst this
         have := hdl_inv v2 ht'; subst this
         refine ⟨.bool (b1 || b2), ?_, .bool _, rfl⟩
         simp only [extFn]
         show (ReflectliteType.relation _ _ #[_, _]).run P w = _
         rw [relation_eq]
         have hrun : (ReflectliteType.assignableTo p.2 p.1).run P w = .ok (b1 || b2) w := by
           simp only [ReflectliteType.assignableTo]
           split
           . simp only [Sem.run_bind, run_noPackMethods hM, run_noPackMethods hM', Result.andThen, run_da hd1, run_impl hd2 hM' hM, Sem.run_pure]
           . simp only [Sem.run_bind, Result.andThen, run_da hd1, run_impl hd2 hM' hM, Sem.run_pure]
         simp only [Sem.run_bind, run_ofRtype hp, run_ofRtype hp', Result.andThen, hrun, Sem.run_pure]
       . cases hI
     . cases h
   . cases h
 . -- aKind
   rename_i G tab hd
   split at h
   . rename_i t ht
     split at h
     . rename_i u n hf
       simp only [zO] at h
       subst h
       simp only [extOK, zA, beq_iff_eq, List.all_eq_true, Bool.not_eq_true'] at hk
       obtain ⟨rfl, hk⟩ := hk
       obtain ⟨hmem, he⟩ := find_mem hf
       have := eq_of_beq he; subst this
       obtain ⟨hp, hK⟩ := hk _ hmem
       obtain ⟨u', rfl, hV⟩ := args1 rfl hl hv
       have := hdl_inv hV ht; subst this
       refine ⟨.int .u8 n, ?_, .int _ _, rfl⟩
       simp only [extFn]
       rw [abi_eq]
       simp only [Sem.run_bind, run_ofHandle, run_noPack hp, Result.andThen, run_kind hK, Sem.run_pure]
     . cases h
   . cases h
 . -- cntS
   rename_i sb c
   simp only [zO] at h
   subst h
   obtain ⟨u, v, rfl, hV, hW⟩ := args2 rfl hl hv
   cases hV with
   | str bs =>
   cases hW
   refine ⟨_, Lib.run_countString bs c w, ?_⟩
   have e : c.toNat % 256 = c.toNat.toUInt8.toNat := by simp
   rw [e, cntB_eq, Nat.zero_add]
   exact ⟨.int _ _, rfl⟩
 . -- idxBS
   rename_i sb c
   simp only [zO] at h
   subst h
   obtain ⟨u, v, rfl, hV, hW⟩ := args2 rfl hl hv
   cases hV with
   | str bs =>
   cases hW
   refine ⟨_, Lib.run_indexByteString bs c w, ?_⟩
   have e : c.toNat % 256 = c.toNat.toUInt8.toNat := by simp
   rw [e, idxB_eq]
   have e2 : (if Lib.indexByte bs.data.toList c.toNat.toUInt8 = -1 then (-1 : Int) else Lib.indexByte bs.data.toList c.toNat.toUInt8 + (0 : Nat)) = Lib.indexByte bs.data.toList c.toNat.toUInt8 := by
     split <;> simp_all
   rw [e2]
   exact ⟨.int _ _, rfl⟩
 . -- mk0
   rename_i a
   simp only [zO] at h
   subst h
   refine ⟨.tuple #[], ?_, .tup _ _ rfl (by simp) (by simp), rfl⟩
   cases a <;> rfl
 . -- mk1
   rename_i a id off
   simp only [zO] at h
   subst h
   obtain ⟨u, rfl, hV⟩ := args1 rfl hl hv
   obtain ⟨b, rfl, -⟩ := hV.ptr_inv
   refine ⟨.tuple #[], ?_, .tup _ _ rfl (by simp) (by simp), rfl⟩
   cases a <;> rfl
 . cases h
end Go.Idl
namespace Go.Idl
open Go.Extern Go.Extern.Rtype
variable [Globs]
variable {P : Program} {o : Oper} {a : Act} {g : Gh} {O : List Nat} {w : World} {s : St} {res : Res} {cf : CallF}
def recvT (P : Program) (t : TypeId) (ptr : Bool) : Bool :=
 match P.underlying t with
 | some (.pointer _) => ptr
 | some _ => !ptr
 | none => false
theorem run_receiverAt {t : TypeId} {ptr : Bool} {v : Value} {wr : Option String} (h : recvT P t ptr = true) : (receiverAt t (.val v) ptr wr).run P w = .ok v w := by
 unfold recvT at h
 split at h
 . rename_i e hu
   subst h
   simp [receiverAt, run_underlying hu, Result.andThen, Place.get]
 . rename_i d hne hu
   cases ptr with
   | true => simp at h
   | false =>
     simp only [receiverAt, Sem.run_bind, run_underlying hu, Result.andThen]; rfl
 . cases h
def recvOK (P : Program) (t : TypeId) (name : String) (f : FuncId) (rk : RecvK) : Bool :=
 match P.info? t with
 | some i => match i.methods.find? (fun m => m.name == name) with
   | some m => match m.func with
     | some (f', ptr) => f == f' && (match rk, m.path.toList with
       | .same, [] => recvT P t ptr
       | .fld off n, [s] => !s.deref && (match P.underlying s.struct with
         | some (.struct fs) => match fs[s.index]? with
           | some fd => fd.offset == off && (tyN P fd.type n && recvT P fd.type ptr)
           | none => false
         | _ => false)
       | _, _ => false)
     | none => false
   | none => false
 | none => false
theorem run_method {fuel : Nat} {t : TypeId} {name : String} {f : FuncId} {rk : RecvK} {x y : IVal} {v : Value} (h : recvOK P t name f rk = true) (hV : V g x v) (hf : Flat x) (hy : recvI rk x = some y) :
   ∃ u, (Go.method (fuel + 1) t v name).run P w = .ok (f, u) w /\ V g y u /\ own3 y u = [] := by
 unfold recvOK at h
 split at h
 . rename_i i hi
   split at h
   . rename_i m hm
     split at h
     . rename_i f' ptr hfn
       simp only [zA, beq_iff_eq] at h
       obtain ⟨rfl, h⟩ := h
       split at h
       . rename_i hp
         simp only [recvI, zO] at hy
         subst hy
         refine ⟨v, ?_, hV, own3_flat hf v⟩
         simp only [Go.method, typeInfo, Sem.run_bind, run_program, Result.andThen, hi, Sem.run_pure, hm, hp, follow, hfn, run_receiverAt h]
       . rename_i off n st hp
         simp only [zA, Bool.not_eq_true'] at h
         obtain ⟨hd, h⟩ := h
         split at h
         . rename_i fs hs
           split at h
           . rename_i fd hfd
             simp only [zA, beq_iff_eq] at h
             obtain ⟨ho, hT, hr⟩ := h
             subst ho
             cases x with
             | agg cs =>
               simp only [recvI] at hy
               obtain ⟨vs, rfl, hl', hv, hc⟩ := hV.agg_inv
               obtain ⟨u, hu, hVu, hou⟩ := run_part (P := P) (w := w) hT hl' hv hc hy
               refine ⟨u, ?_, hVu, ?_⟩
               . simp only [Go.method, typeInfo, Sem.run_bind, run_program, Result.andThen, hi, Sem.run_pure, hm, hp, follow, run_underlying hs, hfd, hd, Bool.false_eq_true, if_false, hu, hfn, run_receiverAt hr]
               . have := own3_flat hf (.agg vs)
                 simp only [own3, own2] at this
                 rw [this] at hou
                 exact List.sublist_nil.1 hou
             | _ => simp [recvI] at hy
           . cases h
         . cases h
       . cases h
     . cases h
   . cases h
 . cases h
theorem extract_one (x : Value) (us : Array Value) : (#[x] ++ us).extract 1 (#[x] ++ us).size = us := by
 apply Array.ext'
 simp
def isExt (P : Program) (f : FuncId) (k : ExtK) : Bool := match P.funcs[f]? with
 | some fn => fn.name == extName k && (fn.origin == "" && (fn.body.isNone && extOK P k))
 | none => false
theorem run_ext {f : FuncId} {k : ExtK} (h : isExt P f k = true) {vs : List IVal} {us : Array Value} (hl : vs.length = us.toList.length) (hv : ∀ (i : Nat) x u, vs[i]? = some x -> us.toList[i]? = some u -> V g x u)
   (hm : ∀ b o c, g.M b o = some c -> w.cell? ⟨b, o, none⟩ = some c) {v : IVal} (he : extI k vs = some v) : ∃ u, (callFunc f us).run P w = .ok (.value u) w /\ V g v u /\ own3 v u = [] := by
 unfold isExt at h
 split at h
 . rename_i fn hf
   simp only [zA, beq_iff_eq] at h
   obtain ⟨h1, h2, h3, h4⟩ := h
   obtain ⟨e1, e2⟩ := ext_find h1 h2
   obtain ⟨u, q1, q2, q3⟩ := ext_run (w := w) h4 hl hv hm he
   refine ⟨u, ?_, q2, q3⟩
   rw [run_callFunc_extern hf (by rw [h1]; cases k <;> first | rfl | (rename_i a; cases a <;> rfl)) h3 e1 e2]
   have e : us.toList.toArray = us := by simp
   rw [e] at q1
   rw [q1]; rfl
 . cases h
theorem pur_ext {k : ExtK} {c : Call} {f : FuncId} (hop : o.op = .call c) (hc : c.callee = .value (.func f)) (h : isExt P f k = true) : PurSim P o a (.ext k) c.args.toList := by
 intro g w vs v hl hv hm he
 obtain ⟨u, q1, q2, q3⟩ := run_ext (w := w) (us := c.args.map a.eval) h (by simpa using hl) (fun i x u hx hu => by
   simp only [Array.toList_map, List.getElem?_map, Option.map_eq_some_iff] at hu
   obtain ⟨r, hr, rfl⟩ := hu
   exact hv i x r hx hr) hm he
 refine ⟨u, ?_, q2, q3⟩
 simp only [execOp, hop, resolve, hc, Act.eval, Deferred.ofValue, Sem.run_bind, Sem.run_pure, Result.andThen, invoke]
 simpa using q1
theorem pur_invX {tab : List (TypeId × ExtK × RecvK)} {c : Call} {r : Operand} {name : String} (hop : o.op = .call c) (hc : c.callee = .invoke r name)
   (h : ∀ p ∈ tab, ∃ f, recvOK P p.1 name f p.2.2 = true /\ isExt P f p.2.1 = true) : PurSim P o a (.invX tab) (r :: c.args.toList) := by
 intro g w vs v hl hv hm he
 cases vs with
 | nil => simp [purI] at he
 | cons x0 vs =>
 cases x0 with
 | iface t x =>
   simp only [purI] at he
   split at he
   . rename_i t' k rk hfind
     split at he
     . rename_i y hy
       obtain ⟨hmem, ht⟩ := find_mem hfind
       have := eq_of_beq ht; subst this
       obtain ⟨f, hr, hx⟩ := h _ hmem
       obtain ⟨xv, hxv, hVx, hfx⟩ := iface_inv (hv 0 _ r rfl rfl)
       obtain ⟨u, q1, q2, q3⟩ := run_method (w := w) (fuel := P.types.size + (Made.depth - 1)) hr hVx hfx hy
       obtain ⟨u', p1, p2, p3⟩ := run_ext (w := w) (us := #[u] ++ c.args.map a.eval) hx (by simpa using hl) (fun i x u' hx hu => by
         cases i with
         | zero => simp at hx hu; subst hx hu; exact q2
         | succ i =>
           simp only [List.getElem?_cons_succ] at hx
           have hu' : (c.args.toList.map a.eval)[i]? = some u' := by simpa using hu
           simp only [List.getElem?_map, Option.map_eq_some_iff] at hu'
           obtain ⟨r', hr', rfl⟩ := hu'
           exact hv (i + 1) x r' (by rw [List.getElem?_cons_succ]; exact hx) (by rw [List.getElem?_cons_succ]; exact hr')) hm he
       refine ⟨u', ?_, p2, p3⟩
       have hfu : P.types.size + Made.depth = P.types.size + (Made.depth - 1) + 1 := rfl
       have harg : (#[Value.iface t' xv] ++ c.args.map a.eval)[0]? = some (.iface t' xv) := by rw [Array.getElem?_append_left (by simp)]; rfl
       simp only [execOp, hop, resolve, hc, Sem.run_bind, Sem.run_pure, Result.andThen, invoke, hxv]
       rw [harg]
       simp only [extract_one, callMethod, Sem.run_bind, run_program, Result.andThen, hfu, q1]
       exact p1
     . cases he
   . cases he
 | _ => simp [purI] at he
end Go.Idl
namespace Go.Idl
open Go.Extern Go.Extern.Rtype
variable [Globs]
variable {P : Program} {o : Oper} {a : Act} {g : Gh} {O : List Nat} {w : World} {s : St} {res : Res} {cf : CallF}
theorem opRes_inv {tab : List (TypeId × FuncId × RecvK)} {c : Call} {r : Operand} {name : String} {x : Opd} {xs : List Opd} {C0 : CRel} (hcf : CallOK P C0 cf) (hC : g.C = C0) (hop : o.op = .call c) (hc : c.callee = .invoke r name)
   (hr : opdOK x r = true) (hx : opdsOK xs c.args.toList = true) (ht : ∀ p ∈ tab, recvOK P p.1 name p.2.1 p.2.2 = true) (hs : stepOp cf (.inv tab x xs) s = some res)
   (hl : WT s.ts a.tmps) (hR : R g O (s.ts.roots a.tmps) s.σ w) : OpRes P o a g O w s res := by
 simp only [stepOp] at hs
 split at hs
 . rename_i t v ts h
   split at hs
   . rename_i t' f rk hfind
     split at hs
     . rename_i y hy
       split at hs
       . rename_i vs ts' h'
         obtain ⟨hmem, he⟩ := find_mem hfind
         have := eq_of_beq he; subst this
         obtain ⟨h1, h2⟩ := get_sim (l := []) hr h hl hR
         obtain ⟨h3, h4, h5⟩ := getAll_sim (l := [(.iface t' v, a.eval r)]) hx h' h2 h1
         have hV : V g (.iface t' v) (a.eval r) := h3.vals (.iface t' v, a.eval r) (by simp)
         obtain ⟨xv, hxv, hVx, hfx⟩ := iface_inv hV
         obtain ⟨u, q1, q2, q3⟩ := run_method (w := w) (fuel := P.types.size + (Made.depth - 1)) (ht _ hmem) hVx hfx hy
         have hbase : R g O (vs.zip (c.args.toList.map a.eval) ++ ts'.roots a.tmps) s.σ w := by
           have hp : (vs.zip (c.args.toList.map a.eval) ++ ([(IVal.iface t' v, a.eval r)] ++ ts'.roots a.tmps)).Perm ((IVal.iface t' v, a.eval r) :: (vs.zip (c.args.toList.map a.eval) ++ ts'.roots a.tmps)) := List.perm_middle
           exact (h3.perm hp).drop
         refine opRes_call (rargs := #[u] ++ c.args.map a.eval) hcf hC (fun c' h => by rw [hop] at h; cases h) (fun hf => ?_) (by simp at h5 ⊢; omega) ?_ h4 hs
         . obtain ⟨fn, f1, f2, f3⟩ := hf
           have hfu : P.types.size + Made.depth = P.types.size + (Made.depth - 1) + 1 := rfl
           have harg : (#[Value.iface t' xv] ++ c.args.map a.eval)[0]? = some (.iface t' xv) := by rw [Array.getElem?_append_left (by simp)]; rfl
           simp only [execOp, hop, resolve, hc, Sem.run_bind, Sem.run_pure, Result.andThen, invoke, hxv]
           rw [harg]
           simp only [extract_one, callMethod, Sem.run_bind, run_program, Result.andThen, hfu, q1]
           simp [callFunc, f1, f2, f3]
         . have e : (y :: vs).zip (#[u] ++ c.args.map a.eval).toList = (y, u) :: vs.zip (c.args.toList.map a.eval) := by simp
           rw [e]
           exact hbase.push q2 q3
       . cases hs
     . cases hs
   . cases hs
 . cases hs
def isVOf (P : Program) (f : FuncId) (G : Nat) (tab : List (TypeId × Nat)) : Bool := match P.funcs[f]? with
 | some fn => fn.name == "internal/reflectlite.ValueOf" && (fn.origin == "" && (fn.body.isNone && (G == P.globals.size && tab.all fun p => kindP P p.1 == some p.2)))
 | none => false
theorem vOf_find {fn : Func} (h : fn.name = "internal/reflectlite.ValueOf") (ho : fn.origin = "") : Extern.findNext fn = none /\ Extern.find fn = some (fun args => ReflectliteValue.unpack (args.getD 0 (.tuple #[]))) := by
 unfold Extern.findNext Extern.find
 rw [h, ho]
 exact ⟨by kernel_rfl, by kernel_rfl⟩
theorem sim_vOf {G : Nat} {tab : List (TypeId × Nat)} {c : Call} {f : FuncId} {r : Operand} {x : Opd} (hop : o.op = .call c) (hc : c.callee = .value (.func f)) (ha : c.args = #[r]) (hf : isVOf P f G tab = true) (hx : opdOK x r = true)
   (hs : stepOp cf (.vOf G tab x) s = some res) (hl : WT s.ts a.tmps) (hR : R g O (s.ts.roots a.tmps) s.σ w) : SimV P o a g O w s res := by
 unfold isVOf at hf
 split at hf
 . rename_i fn hfn
   simp only [zA, beq_iff_eq, List.all_eq_true] at hf
   obtain ⟨f1, f2, f3, f4, f5⟩ := hf
   obtain ⟨e1, e2⟩ := vOf_find f1 f2
   simp only [stepOp] at hs
   split at hs
   . rename_i t v ts h
     split at hs
     . rename_i t' k hfind
       split at hs
       . rename_i hcell
         simp only [rv, zO] at hs
         subst hs
         obtain ⟨hmem, he⟩ := find_mem hfind
         have := eq_of_beq he; subst this
         have hk := f5 _ hmem
         obtain ⟨h1, h2⟩ := get_sim (l := []) hx h hl hR
         obtain ⟨xv, hxv, hVx, hfx⟩ := iface_inv h1.head
         subst f4
         have hrun : (execOp a.eval o).run P w = .ok (.value (.agg #[.pointer (some ⟨P.globals.size, t', none⟩), .pointer (some ⟨w.heap.size, 0, none⟩), .int .u64 (k + 128 : Nat)])) (w.alloc (.cells xv.cells t')) := by
           have : (callFunc f #[.iface t' xv]).run P w = .ok (.value (.agg #[.pointer (some ⟨P.globals.size, t', none⟩), .pointer (some ⟨w.heap.size, 0, none⟩), .int .u64 (k + 128 : Nat)])) (w.alloc (.cells xv.cells t')) := by
             rw [run_callFunc_extern hfn (by rw [f1]; rfl) f3 e1 e2]
             show ((ReflectliteValue.unpack (.iface t' xv)).run P w).andThen _ = _
             simp [ReflectliteValue.unpack, ReflectliteValue.mk, run_newVar, run_handle, run_kind hk, Result.andThen, ReflectliteValue.flagIndir]
           simp only [execOp, hop, resolve, hc, Act.eval, Deferred.ofValue, Sem.run_bind, Sem.run_pure, Result.andThen, invoke, ha]
           have e : (#[] : Array Value) ++ (#[r].map a.eval) ++ #[] = #[.iface t' xv] := by simp [<- hxv]
           simpa [<- hxv] using this
         obtain ⟨q1, q2⟩ := hVx.cells
         obtain ⟨g', hR', hg, hι⟩ := h1.drop.newPv (cs := v.cells.map un1) (vs := xv.cells) (rf := ext v.cells) (el := t') (by simpa using q1) (fun i y u hy hu => by
             simp only [List.getElem?_map, Option.map_eq_some_iff] at hy
             obtain ⟨y', hy', rfl⟩ := hy
             exact (q2 i y' u hy' hu).un1) (fun y hy => by
             simp only [List.mem_map] at hy
             obtain ⟨y', hy', rfl⟩ := hy
             exact ⟨un1_un1 y', by rw [isCell_un1]; exact List.all_eq_true.1 hcell y' hy'⟩) (fun hrf y hy => by
             simp only [List.mem_map] at hy
             obtain ⟨y', hy', rfl⟩ := hy
             simp only [ext, Bool.not_eq_false', List.all_eq_true] at hrf
             have := hrf y' hy'
             have hcell := List.all_eq_true.1 hcell y' hy'
             cases y' <;> simp_all [nr2, nr1, nr0, un1, IVal.isCell])
         refine ⟨rfl, _, _, _, hrun, rfl, g', O, [], hg, ?_, h2, rfl, Keep.refl _⟩
         refine hR'.swap (fun hVp => ?_) (List.nil_sublist _)
         refine .agg _ _ rfl (fun i x v hx hv' => ?_) (by simp [hdlI, IVal.isCell])
         match i with
         | 0 => simp at hx hv'; subst hx hv'; exact .prim _ rfl
         | 1 => simp at hx hv'; subst hx hv'; exact hVp
         | 2 => simp at hx hv'; subst hx hv'; exact .int _ _
         | i + 3 => simp at hx
       . cases hs
     . cases hs
   . cases hs
 . cases hf
theorem R.putAt {l : Roots} {σ : List IObj} {v : IVal} {uv : Value} {id off b : Nat} {cs : List IVal} (hroot : R g O ((v, uv) :: l) σ w) (hι : g.ι[id]? = some b) (hσ : σ[id]? = some (.cells cs)) (hput : off + v.cells.length <= cs.length) (hcell : v.cells.all IVal.isCell = true) :
   ∃ w', (storeCells ⟨b, off, none⟩ uv.cells.toList).run P w = .ok () w' /\ R g O ((undefI, undef) :: l) (σ.set id (.cells (putCells cs off v.cells))) w' /\ Grow O g w O g w' /\ Keep σ (σ.set id (.cells (putCells cs off v.cells))) [(id, !(v.cells.all nr1))] := by
 obtain ⟨c, el, hh, hsz, hc⟩ := hroot.objs id b _ hι hσ
 have hV := hroot.head
 obtain ⟨p1, p2⟩ := hV.cells
 have hun : uv.cells.toList.length = v.cells.length := by rw [Array.length_toList, <- p1]
 have hput' : off + uv.cells.toList.length <= c.toList.length := by
   rw [hun]
   have h0 : c.toList.length = c.size := by simp
   omega
 have hones : ∀ u ∈ uv.cells.toList, u.oneCell' = true := by
   intro u hu
   obtain ⟨j, hj⟩ := mem_idx hu
   have hj' : uv.cells[j]? = some u := by simpa using hj
   obtain ⟨x, hx⟩ : ∃ x, v.cells[j]? = some x := by
     have := (Array.getElem?_eq_some_iff.1 hj').1
     exact ⟨v.cells[j]'(by omega), by simp⟩
   have hVj := p2 j x u hx hj'
   exact oneCell_of (by rw [<- hVj.isCell]; exact List.all_eq_true.1 hcell x (zM hx))
 let row := (c.toList.take off ++ uv.cells.toList ++ c.toList.drop (off + uv.cells.toList.length)).toArray
 have hst : (storeCells ⟨b, off, none⟩ uv.cells.toList).run P w = .ok () (w.setRow b row) := by
   have := run_storeCells_atF P b off el (0, 0) uv.cells.toList 0 c w hh (by simp) (by simpa using hput') hones
   simpa [row] using this
 have hrow : (w.setRow b row).heap[b]? = some (.cells row el (0, 0)) := setRow_heap w b c row el _ hh
 have hOB : OBJ g (w.setRow b row) b (.cells (putCells cs off v.cells)) := by
   refine ⟨row, el, hrow, ?_, fun j x u hxj huj => ?_⟩
   . rw [putCells_len hput]; simp [row]; simp at hput' hun; omega
   . rw [putCells_get hput] at hxj
     have huj' : (c.toList.take off ++ uv.cells.toList ++ c.toList.drop (off + uv.cells.toList.length))[j]? = some u := by simpa [row] using huj
     rw [putR_get hput', hun] at huj'
     split at hxj
     . rename_i hj
       rw [if_pos hj] at huj'
       have huj'' : uv.cells[j - off]? = some u := by simpa using huj'
       exact ⟨p2 _ _ _ hxj huj'', List.all_eq_true.1 hcell x (zM hxj)⟩
     . rename_i hj
       rw [if_neg hj] at huj'
       exact hc j x u hxj (by simpa using huj')
 have hf := setRow_fields w b row
 have hR' := hroot.upd (y := undefI) (u := undef) (id := id) (b := b) (ob := .cells cs) (ob' := .cells (putCells cs off v.cells)) (w' := w.setRow b row) (undef_V g) hι hσ (by simp) (fun k hk => setRow_other w b k row hk) hf.2.2.2 (fun c' el' fz' hc' => by
   rw [hh] at hc'; cases hc'
   exact ⟨row, el, hrow, by simp [row]; simp at hput'; omega⟩) hOB (by
   simp only [ownO, blockCells, hh, hrow]
   obtain ⟨A, C, e1, e2⟩ := own_put (cs := cs) (ws := v.cells) (c := c.toList) (us := uv.cells.toList) (off := off) (by simpa using hsz) (by rw [hun]) hput
   rw [show row.toList = c.toList.take off ++ uv.cells.toList ++ c.toList.drop (off + uv.cells.toList.length) from rfl, e1, e2, own_cells hV hcell]
   show SubP (b :: (A ++ own3 v uv ++ C)) (own3 v uv ++ b :: (A ++ _ ++ C))
   refine SubP.perm_right (List.perm_middle.symm) ?_
   refine SubP.append_left [b] ?_
   refine SubP.perm_left (a := own3 v uv ++ (A ++ C)) ?_ ?_
   . rw [<- zS]; exact List.perm_append_comm.append_right C
   . refine SubP.append_left _ (SubP.of_sub ?_)
     rw [zS]
     exact List.Sublist.append (.refl _) (List.sublist_append_right _ _))
 refine ⟨_, hst, hR', ?_, Keep.set fun m hid hm ho => ?_⟩
 . exact Grow.of_setRow g w (hroot.sub b (List.mem_append_right _ (ownS_mem hι hσ (by simp [ownO])))) _ (fun k hk => setRow_other w b k row hk) hf.2.2.2 hf.1 hf.2.1 hf.2.2.1
 . refine RLO_put hput (ho _ hσ) (fun x hx => ?_)
   obtain ⟨j, hj⟩ := mem_idx hx
   obtain ⟨u, hu⟩ := get_of_size p1 hj
   have hVx := p2 j x u hj hu
   by_cases hnr : v.cells.all nr1 = true
   . exact hVx.norl m (nr3_of_nr2 (nr2_of_nr1 (List.all_eq_true.1 hnr x hx)))
   . exact absurd (hm (by simpa using hnr)) (by omega)
def isVSet (P : Program) (f : FuncId) (G : Nat) (tab : List TypeId) : Bool := match P.funcs[f]? with
 | some fn => fn.name == "(internal/reflectlite.Value).Set" && (fn.origin == "" && (fn.body.isNone && (G == P.globals.size && tab.all fun t => !P.packed t && tyN P t none)))
 | none => false
theorem vSet_find {fn : Func} (h : fn.name = "(internal/reflectlite.Value).Set") (ho : fn.origin = "") : Extern.findNext fn = none /\ Extern.find fn = some ReflectliteValue.set := by
 unfold Extern.findNext Extern.find
 rw [h, ho]
 exact ⟨by kernel_rfl, by kernel_rfl⟩
theorem set_eq (v x : Value) : ReflectliteValue.set #[v, x] = (do
   let (some (dst, a, fl), some (src, b, _)) := (<- ReflectliteValue.parts v, <- ReflectliteValue.parts x)
     | unsupported (.noEntry "extern/(internal/reflectlite.Value).Set.zeroValue")
   if fl / ReflectliteValue.flagAddr % 2 == 0 then unsupported (.noEntry "extern/(internal/reflectlite.Value).Set.unaddressable")
   let val <- loadVar src b
   if <- directlyAssignable dst src then storeVar dst a val
   else if <- implements dst src then
     if (<- kind src) == 20 then
       match val with
       | .nilIface => unsupported (.noEntry "extern/reflectlite: a nil value of one interface type handed on as a value of another")
       | _ => storeVar dst a val
     else storeVar dst a (.iface src val)
   else panicString ("reflectlite.Set: value of type " ++ (<- spelt src) ++ " is not assignable to type " ++ (<- spelt dst))
   pure (.tuple #[])) := rfl
theorem sim_vSet {G : Nat} {tab : List TypeId} {c : Call} {f : FuncId} {rx ry : Operand} {x y : Opd} (hop : o.op = .call c) (hc : c.callee = .value (.func f)) (ha : c.args = #[rx, ry]) (hf : isVSet P f G tab = true) (hx : opdOK x rx = true) (hy : opdOK y ry = true)
   (hs : stepOp cf (.vSet G tab x y) s = some res) (hl : WT s.ts a.tmps) (hR : R g O (s.ts.roots a.tmps) s.σ w) : SimV P o a g O w s res := by
 unfold isVSet at hf
 split at hf
 . rename_i fn hfn
   simp only [zA, beq_iff_eq, List.all_eq_true, Bool.not_eq_true'] at hf
   obtain ⟨f1, f2, f3, rfl, f5⟩ := hf
   obtain ⟨e1, e2⟩ := vSet_find f1 f2
   simp only [stepOp] at hs
   split at hs
   . rename_i hd id off fl ts h
     split at hs
     . rename_i hd' rr v fl' ts' h'
       split at hs
       . rename_i t t' ht ht'
         split at hs
         . rename_i hcond
           obtain ⟨rfl, rfl, rfl, hcon⟩ := hcond
           split at hs
           . rename_i cs hcs
             split at hs
             . rename_i hoff
               simp only [zO] at hs
               subst hs
               obtain ⟨hp, hT⟩ := f5 t (List.contains_iff_mem.1 hcon)
               obtain ⟨h1, h2⟩ := get_sim (l := []) hx h hl hR
               have hVx : V g (.agg [hd, .ptr id off, .int .u64 406]) (a.eval rx) := h1.head
               obtain ⟨h3, h4⟩ := get_sim (l := [(.agg [hd, .ptr id off, .int .u64 406], a.eval rx)]) hy h' h2 h1
               obtain ⟨x1, x2, x3, ex, v1, v2, v3⟩ := agg3_inv hVx
               have := hdl_inv v1 ht; subst this
               obtain ⟨b, rfl, hι⟩ := v2.ptr_inv
               cases v3
               obtain ⟨y1, y2, y3, ey, u1, u2, u3⟩ := agg3_inv h3.head
               have := hdl_inv u1 ht'; subst this
               obtain ⟨b', o', cv, rfl, vc, hcell, hM, hun1⟩ := pv1_inv u2
               cases u3
               obtain ⟨lu, hlu, vlu⟩ := run_loadP (w := w) hT vc hcell (h3.claim _ _ _ hM)
               have hroot : R g O ((v, lu) :: ts'.roots a.tmps) s.σ w := by
                 have hb : R g O (ts'.roots a.tmps) s.σ w := by
                   have := h3.drop
                   exact R.drop (by simpa using this)
                 have hfl : Flat v := ⟨by cases v <;> simp_all [IVal.isCell, un2], by cases v <;> simp_all [IVal.isCell, nt]⟩
                 exact hb.push vlu (own3_flat hfl lu)
               have hσ := loadCell_some hcs
               have hvc : v.cells = [v] := by cases v <;> simp [IVal.isCell] at hcell <;> rfl
               obtain ⟨w', hst, hR', hg, hk⟩ := R.putAt (P := P) (off := off) hroot hι hσ (by rw [hvc]; simp; omega) (by rw [hvc]; simpa using hcell)
               rw [hvc] at hR' hk
               obtain ⟨i, hi, hisz⟩ : ∃ i, P.info? t = some i /\ i.size = 1 := by
                 obtain ⟨-, i, q1, q2⟩ := run_isAgg (w := w) hT
                 exact ⟨i, q1, by simpa using q2⟩
               have hlsz : lu.cells.size = 1 := by
                 have := vlu.cells.1
                 rw [hvc] at this
                 simpa using this.symm
               have hrun : (execOp a.eval o).run P w = .ok (.value (.tuple #[])) w' := by
                 have hset : (ReflectliteValue.set #[a.eval rx, a.eval ry]).run P w = .ok (.tuple #[]) w' := by
                   rw [ex, ey, set_eq]
                   have hda : (directlyAssignable t t).run P w = .ok true w := run_da (by simp [daP])
                   have hfl : ((406 : Int).toNat / ReflectliteValue.flagAddr % 2 == 0) = false := rfl
                   have hsv : (storeVar t ⟨b, off, none⟩ lu).run P w = .ok () w' := by
                     simp [storeVar, run_sizeOf hi, hlsz, hisz, hst]
                   simp only [Sem.run_bind, run_parts (.inr rfl) hp, run_parts (.inl rfl) hp, Result.andThen, hfl, Bool.false_eq_true, if_false, hlu, hda, if_true, hsv, Sem.run_pure]
                 have : (callFunc f #[a.eval rx, a.eval ry]).run P w = .ok (.value (.tuple #[])) w' := by
                   rw [run_callFunc_extern hfn (by rw [f1]; rfl) f3 e1 e2, hset]; rfl
                 simp only [execOp, hop, resolve, hc, Deferred.ofValue, Sem.run_bind, Sem.run_pure, Result.andThen, invoke, ha]
                 simpa [Act.eval] using this
               refine ⟨rfl, undef, _, _, hrun, rfl, g, O, [(id, !([v].all nr1))], hg, hR', h4, rfl, hk⟩
             . cases hs
           . cases hs
         . cases hs
       . cases hs
     . cases hs
   . cases hs
 . cases hf
end Go.Idl
namespace Go.Idl
open Go.Extern
variable [Globs]
variable {P : Program} {o : Oper} {a : Act} {g : Gh} {O : List Nat} {w : World} {s : St} {res : Res} {cf : CallF}
def kn : IntKind -> Option String
 | .i32 => some "Int32"
 | .i64 => some "Int64"
 | .u32 => some "Uint32"
 | .u64 => some "Uint64"
 | _ => none
def memName : MemK -> Option String
 | .aload k => (kn k).map fun n => "sync/atomic.Load" ++ n
 | .astore k => (kn k).map fun n => "sync/atomic.Store" ++ n
 | .acas k => (kn k).map fun n => "sync/atomic.CompareAndSwap" ++ n
 | .aadd k => (kn k).map fun n => "sync/atomic.Add" ++ n
 | _ => none
def memFn : MemK -> Array Value -> Sem Value
 | .aload k => Atomic.loadT (.int k)
 | .astore _ => Atomic.storeT
 | .acas k => Atomic.casT (.int k)
 | .aadd k => Atomic.update (Op.intArith .add) k true
 | _ => fun _ => pure undef
theorem mem_find {fn : Func} {k : MemK} (h : memName k = some fn.name) (ho : fn.origin = "") : Extern.findNext fn = none /\ Extern.find fn = some (memFn k) := by
 unfold Extern.findNext Extern.find
 cases k with
 | aload k => cases k <;> simp only [memName, kn, Option.map_some, Option.map_none, zO, reduceCtorEq] at h <;> (rw [<- h, ho]; exact ⟨by kernel_rfl, by kernel_rfl⟩)
 | astore k => cases k <;> simp only [memName, kn, Option.map_some, Option.map_none, zO, reduceCtorEq] at h <;> (rw [<- h, ho]; exact ⟨by kernel_rfl, by kernel_rfl⟩)
 | acas k => cases k <;> simp only [memName, kn, Option.map_some, Option.map_none, zO, reduceCtorEq] at h <;> (rw [<- h, ho]; exact ⟨by kernel_rfl, by kernel_rfl⟩)
 | aadd k => cases k <;> simp only [memName, kn, Option.map_some, Option.map_none, zO, reduceCtorEq] at h <;> (rw [<- h, ho]; exact ⟨by kernel_rfl, by kernel_rfl⟩)
 | _ => cases h
theorem mem_name {fn : Func} {k : MemK} (h : memName k = some fn.name) : (fn.name == "runtime.NumGoroutine") = false := by
 cases k with
 | aload k => cases k <;> simp only [memName, kn, Option.map_some, Option.map_none, zO, reduceCtorEq] at h <;> (rw [<- h]; rfl)
 | astore k => cases k <;> simp only [memName, kn, Option.map_some, Option.map_none, zO, reduceCtorEq] at h <;> (rw [<- h]; rfl)
 | acas k => cases k <;> simp only [memName, kn, Option.map_some, Option.map_none, zO, reduceCtorEq] at h <;> (rw [<- h]; rfl)
 | aadd k => cases k <;> simp only [memName, kn, Option.map_some, Option.map_none, zO, reduceCtorEq] at h <;> (rw [<- h]; rfl)
 | _ => cases h
def isMem (P : Program) (f : FuncId) (k : MemK) : Bool := match P.funcs[f]? with
 | some fn => memName k == some fn.name && (fn.origin == "" && fn.body.isNone)
 | none => false
theorem storeOne {b off : Nat} {x u : Value} (hx : x.oneCell' = true) (hc : w.cell? ⟨b, off, none⟩ = some u) (hz : w.frozen? ⟨b, off, none⟩ = false) :
   (storeCells ⟨b, off, none⟩ [x]).run P w = .ok () (w.setCell ⟨b, off, none⟩ x) := by
 simp only [storeCells, Sem.run_bind, Sem.run_pure]
 rw [show (Addr.add ⟨b, off, none⟩ 0) = ⟨b, off, none⟩ from rfl, run_store P w _ x _ hx, hc, hz]
 rfl
theorem cell_obj {l : Roots} {σ : List IObj} {id b off : Nat} {cs : List IVal} {x : IVal} (hR : R g O l σ w) (hι : g.ι[id]? = some b) (hσ : σ[id]? = some (.cells cs)) (hx : cs[off]? = some x) :
   ∃ u, w.cell? ⟨b, off, none⟩ = some u /\ V g x u /\ w.frozen? ⟨b, off, none⟩ = false := by
 obtain ⟨c, el, hh, hsz, hc⟩ := hR.objs id b _ hι hσ
 have hlt := lt_of_get hx
 obtain ⟨u, hu⟩ : ∃ u, c[off]? = some u := ⟨c[off]'(by omega), by simp⟩
 refine ⟨u, by simp [World.cell?, hh, hu], (hc off x u hx hu).1, ?_⟩
 simp [World.frozen?, hh]
theorem R.putInt {l : Roots} {σ : List IObj} {id b off : Nat} {cs : List IVal} {k : IntKind} {y : Int} (hR : R g O l σ w) (hι : g.ι[id]? = some b) (hσ : σ[id]? = some (.cells cs)) (hoff : off < cs.length) :
   R g O ((undefI, undef) :: l) (σ.set id (.cells (putCells cs off [.int k y]))) (w.setCell ⟨b, off, none⟩ (.int k y)) /\ Grow O g w O g (w.setCell ⟨b, off, none⟩ (.int k y)) /\ Keep σ (σ.set id (.cells (putCells cs off [.int k y]))) [(id, false)] := by
 obtain ⟨u, h1, -, h3⟩ := cell_obj hR hι hσ (show cs[off]? = some cs[off] by simp)
 obtain ⟨w', q1, q2, q3, q4⟩ := R.putAt (P := default) (off := off) (hR.push (x := .int k y) (v := .int k y) (.int k y) rfl) hι hσ (by simp [IVal.cells]; omega) (by simp [IVal.cells, IVal.isCell])
 have e : (storeCells ⟨b, off, none⟩ (Value.int k y).cells.toList).run (default : Program) w = .ok () (w.setCell ⟨b, off, none⟩ (.int k y)) := by
   simp only [Value.cells]
   exact storeOne rfl h1 h3
 rw [e] at q1
 simp only [Result.ok.injEq, true_and] at q1
 subst q1
 exact ⟨q2, q3, by simpa [IVal.cells, nr1, nr0] using q4⟩
theorem V.int_run {k : IntKind} {n : Int} {v : Value} (h : V g (.int k n) v) : v = .int k n := by cases h; rfl
def MemRun (P : Program) (g : Gh) (O : List Nat) (w : World) (σ : List IObj) (l : Roots) (m : Sem Next) (v : IVal) (σ' : List IObj) (wr : List (Nat × Bool)) : Prop :=
 ∃ v' w' g' O', m.run P w = .ok (.value v') w' /\ Grow O g w O' g' w' /\ R g' O' ((v, v') :: l) σ' w' /\ Keep σ σ' wr
theorem mem_atom {k : MemK} {fn : Func} {f : FuncId} {l : Roots} {σ σ' : List IObj} {wr : List (Nat × Bool)} {vs : List IVal} {us : List Value} {v : IVal} (hf : P.funcs[f]? = some fn) (hn : memName k = some fn.name) (ho : fn.origin = "") (hb : fn.body.isNone = true)
   (hR : R g O (vs.zip us ++ l) σ w) (hl : vs.length = us.length) (h : memI k vs σ = some (v, σ', wr)) : MemRun P g O w σ l (callFunc f us.toArray) v σ' wr := by
 obtain ⟨e1, e2⟩ := mem_find hn ho
 have hname := mem_name hn
 have hv : ∀ (i : Nat) x u, vs[i]? = some x -> us[i]? = some u -> V g x u := fun i x u hx hu => hR.vals (x, u) (List.mem_append_left _ (zM (List.getElem?_zip_eq_some.2 ⟨hx, hu⟩)))
 have hRl : R g O l σ w := R.drops (l := vs.zip us) hR
 unfold memI at h
 split at h
 . rename_i k0 id off
   obtain ⟨u, rfl, hV⟩ := args1 rfl hl hv
   obtain ⟨b, rfl, hι⟩ := hV.ptr_inv
   split at h
   . rename_i cs hcs
     have hσ := loadCell_some hcs
     split at h
     . rename_i k' n hx
       split at h
       . rename_i hk
         subst hk
         simp only [zO, zP] at h
         obtain ⟨rfl, rfl, rfl⟩ := h
         obtain ⟨u, c1, c2, c3⟩ := cell_obj hRl hι hσ hx
         have := c2.int_run; subst this
         exact ⟨_, _, g, O, run_call_load hf hname hb e1 _ e2 c1, .refl _ _ _, hRl.push (.int _ _) rfl, .refl _⟩
       . cases h
     . cases h
   . cases h
 . rename_i k0 id off k1 y
   obtain ⟨u, v2, rfl, hV, hW⟩ := args2 rfl hl hv
   obtain ⟨b, rfl, hι⟩ := hV.ptr_inv
   have := hW.int_run; subst this
   split at h
   . rename_i cs hcs
     have hσ := loadCell_some hcs
     split at h
     . rename_i hk
       obtain ⟨hoff, rfl⟩ := hk
       simp only [zO, zP] at h
       obtain ⟨rfl, rfl, rfl⟩ := h
       obtain ⟨u, c1, c2, c3⟩ := cell_obj hRl hι hσ (show cs[off]? = some cs[off] by simp)
       obtain ⟨p1, p2, p3⟩ := hRl.putInt (k := k0) (y := y) hι hσ hoff
       exact ⟨_, _, g, O, run_call_store hf hname hb e1 e2 c1 c3, p2, p1, p3⟩
     . cases h
   . cases h
 . rename_i k0 id off k1 x k2 y
   obtain ⟨u, v2, v3, rfl, hV, hW, hX⟩ : ∃ u v2 v3, us = [u, v2, v3] /\ V g (.ptr id off) u /\ V g (.int k1 x) v2 /\ V g (.int k2 y) v3 := by
     match us, hl with
     | [u, v2, v3], _ => exact ⟨u, v2, v3, rfl, hv 0 _ _ rfl rfl, hv 1 _ _ rfl rfl, hv 2 _ _ rfl rfl⟩
   obtain ⟨b, rfl, hι⟩ := hV.ptr_inv
   have := hW.int_run; subst this
   have := hX.int_run; subst this
   split at h
   . rename_i cs hcs
     have hσ := loadCell_some hcs
     split at h
     . rename_i k' n hx
       split at h
       . rename_i hk
         obtain ⟨rfl, rfl, rfl⟩ := hk
         obtain ⟨u, c1, c2, c3⟩ := cell_obj hRl hι hσ hx
         have := c2.int_run; subst this
         split at h
         . rename_i hnx
           subst hnx
           simp only [zO, zP] at h
           obtain ⟨rfl, rfl, rfl⟩ := h
           obtain ⟨p1, p2, p3⟩ := hRl.putInt (k := k0) (y := y) hι hσ (lt_of_get hx)
           exact ⟨_, _, g, O, run_call_cas_hit hf hname hb e1 _ e2 c1 c3, p2, p1.drop.push (.bool true) rfl, p3⟩
         . rename_i hnx
           simp only [zO, zP] at h
           obtain ⟨rfl, rfl, rfl⟩ := h
           exact ⟨_, _, g, O, run_call_cas_miss hf hname hb e1 _ e2 c1 c3 hnx, .refl _ _ _, hRl.push (.bool false) rfl, .refl _⟩
       . cases h
     . cases h
   . cases h
 . rename_i k0 id off k1 y
   obtain ⟨u, v2, rfl, hV, hW⟩ := args2 rfl hl hv
   obtain ⟨b, rfl, hι⟩ := hV.ptr_inv
   have := hW.int_run; subst this
   split at h
   . rename_i cs hcs
     have hσ := loadCell_some hcs
     split at h
     . rename_i k' n hx
       split at h
       . rename_i hk
         obtain ⟨rfl, rfl⟩ := hk
         simp only [zO, zP] at h
         obtain ⟨rfl, rfl, rfl⟩ := h
         obtain ⟨u, c1, c2, c3⟩ := cell_obj hRl hι hσ hx
         have := c2.int_run; subst this
         obtain ⟨p1, p2, p3⟩ := hRl.putInt (k := k0) (y := k0.wrap (n + y)) hι hσ (lt_of_get hx)
         exact ⟨_, _, g, O, run_call_add hf hname hb e1 _ e2 c1 c3 rfl, p2, p1.drop.push (.int _ _) rfl, p3⟩
       . cases h
     . cases h
   . cases h
 . cases hn
 . cases hn
 . cases hn
 . cases h
theorem R.putObj {l : Roots} {σ : List IObj} {id b : Nat} {ob ob' : IObj} {x : Obj} (h : R g O l σ w) (hι : g.ι[id]? = some b) (hσ : σ[id]? = some ob) (hlive : ob ≠ .dead) (hb : b < w.heap.size) (hnc : ∀ c el fz, w.heap[b]? ≠ some (.cells c el fz))
   (hob : OBJ g (w.putObj b x) b ob') (ho : ownO (w.putObj b x) b ob' = [b] \/ ownO (w.putObj b x) b ob' = []) (ho' : ownO w b ob = [b]) :
   R g O l (σ.set id ob') (w.putObj b x) /\ Grow O g w O g (w.putObj b x) := by
 have hs : (w.putObj b x).heap.size = w.heap.size := by simp
 have hw : ∀ k, k ≠ b -> (w.putObj b x).heap[k]? = w.heap[k]? := fun k hk => World.putObj_heap_other hk
 have hbO : b ∈ O := h.sub b (List.mem_append_right _ (ownS_mem hι hσ (by rw [ho']; simp)))
 refine ⟨?_, Grow.of_setRow g w hbO _ hw hs rfl rfl rfl⟩
 have h1 := h.push (undef_V g) rfl
 have h2 := h1.upd (y := undefI) (u := undef) (id := id) (b := b) (ob := ob) (ob' := ob') (w' := w.putObj b x) (undef_V g) hι hσ hlive hw hs (fun c el fz hc => absurd hc (hnc c el fz)) hob (by
   rw [ho']
   have e0 : own3 undefI undef = [] := rfl
   rw [e0, List.nil_append, List.nil_append]
   rcases ho with ho | ho
   . rw [ho]; exact SubP.refl _
   . rw [ho]; exact SubP.of_sub (by simp))
 exact h2.drop
theorem memI_iter {l : Roots} {σ σ' : List IObj} {wr : List (Nat × Bool)} {vs : List IVal} {us : List Value} {v : IVal} {T : TypeId} (hT : P.underlying T = some .string)
   (hR : R g O (vs.zip us ++ l) σ w) (hl : vs.length = us.length) (h : memI .iter vs σ = some (v, σ', wr)) : ∃ u, us = [u] /\ MemRun P g O w σ l (do pure (.value (<- Instr.range T u))) v σ' wr := by
 have hv : ∀ (i : Nat) x u, vs[i]? = some x -> us[i]? = some u -> V g x u := fun i x u hx hu => hR.vals (x, u) (List.mem_append_left _ (zM (List.getElem?_zip_eq_some.2 ⟨hx, hu⟩)))
 have hRl : R g O l σ w := R.drops (l := vs.zip us) hR
 simp only [memI] at h
 split at h
 all_goals try contradiction
 rename_i sb σ0
 simp only [zO, zP] at h
 obtain ⟨rfl, rfl, rfl⟩ := h
 obtain ⟨u, rfl, hV⟩ := args1 rfl hl hv
 cases hV with
 | str bs =>
 refine ⟨_, rfl, ?_⟩
 have hnew := (hRl.push (undef_V g) rfl).new (obr := .stringIter bs 0) (ob := .it bs.data.toList 0) (fun _ => ⟨bs, alloc_new w _, rfl⟩) ⟨[], rfl, by simp⟩
 refine ⟨_, _, g.fresh w.heap.size, w.heap.size :: O, ?_, growFresh hRl _, hnew.push (.ptr _ 0 w.heap.size ?_) rfl, Keep.snoc _ _⟩
 . simp only [Sem.run_bind, run_range_string w T bs hT, Result.andThen, Sem.run_pure]; rfl
 . simp [Gh.fresh, <- hRl.len]
theorem run_nextAt {b pos : Nat} {bs : ByteArray} {ty : TypeId} (h : w.heap[b]? = some (.stringIter bs pos)) (hp : pos < bs.size) (ha : (bs[pos]'hp).toNat < 128) :
   (Instr.next (.pointer (some ⟨b, 0, none⟩)) true ty).run P w = .ok (.tuple #[.bool true, .int .i64 pos, .int .i32 (bs[pos]'hp).toNat]) (w.putObj b (.stringIter bs (pos + 1))) := by
 simp only [Instr.next, getObj, setObj, Sem.run_bind, Sem.run, h, Result.andThen, hp, if_true, decode_ascii bs pos hp ha]
 simp [goInt, Sem.run, h, World.putObj]
theorem run_nextEnd {b pos : Nat} {bs : ByteArray} {ty : TypeId} (h : w.heap[b]? = some (.stringIter bs pos)) (hp : ¬ pos < bs.size) :
   (Instr.next (.pointer (some ⟨b, 0, none⟩)) true ty).run P w = .ok (.tuple #[.bool false]) w := by
 simp [Instr.next, getObj, Sem.run, h, hp]
theorem memI_next {l : Roots} {σ σ' : List IObj} {wr : List (Nat × Bool)} {vs : List IVal} {us : List Value} {v : IVal} {ty : TypeId}
   (hR : R g O (vs.zip us ++ l) σ w) (hl : vs.length = us.length) (h : memI .next vs σ = some (v, σ', wr)) : ∃ u, us = [u] /\ MemRun P g O w σ l (do pure (.value (<- Instr.next u true ty))) v σ' wr := by
 have hv : ∀ (i : Nat) x u, vs[i]? = some x -> us[i]? = some u -> V g x u := fun i x u hx hu => hR.vals (x, u) (List.mem_append_left _ (zM (List.getElem?_zip_eq_some.2 ⟨hx, hu⟩)))
 have hRl : R g O l σ w := R.drops (l := vs.zip us) hR
 simp only [memI] at h
 split at h
 all_goals try contradiction
 rename_i id σ0
 obtain ⟨u, rfl, hV⟩ := args1 rfl hl hv
 obtain ⟨b, rfl, hι⟩ := hV.ptr_inv
 refine ⟨_, rfl, ?_⟩
 split at h
 . rename_i sb pos hσ
   obtain ⟨bs, hh, hbs⟩ := hRl.objs id b _ hι hσ
   split at h
   . rename_i c hc
     split at h
     . rename_i h128
       simp only [zO, zP] at h
       obtain ⟨rfl, rfl, rfl⟩ := h
       subst hbs
       have hp : pos < bs.size := by
         have := lt_of_get hc
         rw [<- Lib.size_eq] at this; exact this
       have hbc : (bs[pos]'hp) = c := by
         have := (List.getElem?_eq_some_iff.1 hc).2
         rw [<- this]; rfl
       have hlt : b < w.heap.size := (Array.getElem?_eq_some_iff.1 hh).1
       have hrun := run_nextAt (P := P) (ty := ty) hh hp (by rw [hbc]; exact h128)
       obtain ⟨p1, p2⟩ := hRl.putObj (ob' := .it bs.data.toList (pos + 1)) (x := .stringIter bs (pos + 1)) hι hσ (by simp) hlt (by rw [hh]; simp) ⟨bs, World.putObj_heap_same hlt, rfl⟩ (.inl rfl) rfl
       refine ⟨_, _, g, O, ?_, p2, p1.push (v := .tuple #[.bool true, .int .i64 pos, .int .i32 c.toNat]) ?_ rfl, Keep.set fun _ _ _ _ => trivial⟩
       . simp only [Sem.run_bind, hrun, Result.andThen, Sem.run_pure, hbc]
       . refine .tup _ _ rfl (fun i x v hx hu => ?_) (by simp [nt])
         match i with
         | 0 => simp at hx hu; subst hx hu; exact .bool _
         | 1 => simp at hx hu; subst hx hu; exact .int _ _
         | 2 => simp at hx hu; subst hx hu; exact .int _ _
         | i + 3 => simp at hx
     . cases h
   . rename_i hc
     simp only [zO, zP] at h
     obtain ⟨rfl, rfl, rfl⟩ := h
     subst hbs
     have hp : ¬ pos < bs.size := by
       have := List.getElem?_eq_none_iff.1 hc
       rw [<- Lib.size_eq] at this; omega
     have hrun := run_nextEnd (P := P) (ty := ty) hh hp
     refine ⟨_, _, g, O, ?_, .refl _ _ _, hRl.push (v := .tuple #[.bool false]) ?_ rfl, .refl _⟩
     . simp only [Sem.run_bind, hrun, Result.andThen, Sem.run_pure]
     . refine .tup _ _ rfl (fun i x v hx hu => ?_) (by simp [nt])
       match i with
       | 0 => simp at hx hu; subst hx hu; exact .bool _
       | i + 1 => simp at hx
 . cases h
theorem memI_uptr {l : Roots} {σ σ' : List IObj} {wr : List (Nat × Bool)} {vs : List IVal} {us : List Value} {v : IVal} {S T t : TypeId} (hS : P.underlying S = some (.pointer t)) (hT : P.underlying T = some .unsafePointer)
   (hsz : (P.info? t).map (fun i => decide (i.size = 0)) = some false)
   (hR : R g O (vs.zip us ++ l) σ w) (hl : vs.length = us.length) (h : memI .uptr vs σ = some (v, σ', wr)) : ∃ u, us = [u] /\ MemRun P g O w σ l (do pure (.value (<- convert S T u))) v σ' wr := by
 have hv : ∀ (i : Nat) x u, vs[i]? = some x -> us[i]? = some u -> V g x u := fun i x u hx hu => hR.vals (x, u) (List.mem_append_left _ (zM (List.getElem?_zip_eq_some.2 ⟨hx, hu⟩)))
 have hRl : R g O l σ w := R.drops (l := vs.zip us) hR
 simp only [memI] at h
 split at h
 all_goals try contradiction
 rename_i id off σ0
 obtain ⟨u, rfl, hV⟩ := args1 rfl hl hv
 obtain ⟨b, rfl, hι⟩ := hV.ptr_inv
 refine ⟨_, rfl, ?_⟩
 split at h
 . rename_i cs hcs
   split at h
   . rename_i hoff
     simp only [zO, zP] at h
     obtain ⟨rfl, rfl, rfl⟩ := h
     obtain ⟨u, c1, -, -⟩ := cell_obj hRl hι (loadCell_some hcs) (show cs[off]? = some cs[off] by simp)
     refine ⟨_, _, g, O, ?_, .refl _ _ _, hRl.push (.ptr id off b hι) rfl, .refl _⟩
     simp only [Sem.run_bind, run_convert_to_unsafe hS hT hsz c1, Result.andThen, Sem.run_pure]
   . cases h
 . cases h
def memOK (P : Program) : Op -> MemK -> List Opd -> Bool
 | .call c, k, xs => (match c.callee with | .value (.func f) => isMem P f k | _ => false) && opdsOK xs c.args.toList
 | .convert S T r, .uptr, xs => (match P.underlying S, P.underlying T with | some (.pointer t), some .unsafePointer => (P.info? t).map (fun i => decide (i.size = 0)) == some false | _, _ => false) && opdsOK xs [r]
 | .range T r, .iter, xs => (match P.underlying T with | some .string => true | _ => false) && opdsOK xs [r]
 | .next r is, .next, xs => is && opdsOK xs [r]
 | _, _, _ => false
theorem mem_res {k : MemK} {xs : List Opd} (h : memOK P o.op k xs = true) (hs : stepOp cf (.mem k xs) s = some res) (hl : WT s.ts a.tmps) (hR : R g O (s.ts.roots a.tmps) s.σ w) : OpRes P o a g O w s res := by
 simp only [stepOp] at hs
 split at hs
 . rename_i vs ts hga
   split at hs
   . rename_i v σ' wr hm
     simp only [zO] at hs
     subst hs
     have key : ∀ (rs : List Operand), opdsOK xs rs = true -> (∀ c, o.op ≠ .defer c) -> (R g O (vs.zip (rs.map a.eval) ++ ts.roots a.tmps) s.σ w -> vs.length = (rs.map a.eval).length -> MemRun P g O w s.σ (ts.roots a.tmps) (execOp a.eval o) v σ' wr) -> OpRes P o a g O w s ⟨false, v, { ts := ts, σ := σ', wr := wr ++ s.wr }⟩ := by
       intro rs hx hd hrun
       obtain ⟨h1, h2, h3⟩ := getAll_sim (l := []) hx hga hl hR
       obtain ⟨v', w', g', O', q1, q2, q3, q4⟩ := hrun (by simpa using h1) h3
       exact .of_val ⟨rfl, v', w', _, q1, rfl, g', O', wr, q2, q3, h2, rfl, q4⟩ hd
     unfold memOK at h
     split at h
     . rename_i c hop
       simp only [zA] at h
       obtain ⟨h1, h2⟩ := h
       split at h1
       . rename_i f hc
         unfold isMem at h1
         split at h1
         . rename_i fn hf
           simp only [zA, beq_iff_eq] at h1
           refine key _ h2 (fun c h => by rw [hop] at h; cases h) (fun hR' hl' => ?_)
           have := mem_atom hf h1.1 h1.2.1 h1.2.2 hR' hl' hm
           have e : execOp a.eval o = callFunc f ((c.args.toList.map a.eval).toArray) := by
             have ea : (c.args.toList.map a.eval).toArray = c.args.map a.eval := by apply Array.ext'; simp
             rw [ea]
             simp [execOp, hop, resolve, hc, Act.eval, Deferred.ofValue, invoke]
           rw [e]; exact this
         . cases h1
       . cases h1
     . rename_i S T r hop
       simp only [zA] at h
       obtain ⟨h1, h2⟩ := h
       split at h1
       . rename_i t hS hT
         refine key _ h2 (fun c h => by rw [hop] at h; cases h) (fun hR' hl' => ?_)
         obtain ⟨u, hu, this⟩ := memI_uptr hS hT (eq_of_beq h1) hR' hl' hm
         simp only [List.map_cons, List.map_nil, List.cons.injEq, and_true] at hu
         have e : execOp a.eval o = (do pure (.value (<- convert S T (a.eval r)))) := by simp only [execOp, hop]
         rw [e, hu]; exact this
       . cases h1
     . rename_i T r hop
       simp only [zA] at h
       obtain ⟨h1, h2⟩ := h
       split at h1
       . rename_i hT
         refine key _ h2 (fun c h => by rw [hop] at h; cases h) (fun hR' hl' => ?_)
         obtain ⟨u, hu, this⟩ := memI_iter hT hR' hl' hm
         simp only [List.map_cons, List.map_nil, List.cons.injEq, and_true] at hu
         have e : execOp a.eval o = (do pure (.value (<- Instr.range T (a.eval r)))) := by simp only [execOp, hop]
         rw [e, hu]; exact this
       . cases h1
     . rename_i r is hop
       simp only [zA] at h
       obtain ⟨h1, h2⟩ := h
       subst h1
       refine key _ h2 (fun c h => by rw [hop] at h; cases h) (fun hR' hl' => ?_)
       obtain ⟨u, hu, this⟩ := memI_next (ty := o.type) hR' hl' hm
       simp only [List.map_cons, List.map_nil, List.cons.injEq, and_true] at hu
       have e : execOp a.eval o = (do pure (.value (<- Instr.next (a.eval r) true o.type))) := by simp only [execOp, hop]
       rw [e, hu]; exact this
     . cases h
   . cases hs
 . cases hs
theorem panic_res {x : Opd} {r : Operand} (hop : o.op = .panic r) (hx : opdOK x r = true) (hs : stepOp cf (.panic x) s = some res) (hl : WT s.ts a.tmps) (hR : R g O (s.ts.roots a.tmps) s.σ w) : OpRes P o a g O w s res := by
 simp only [stepOp] at hs
 split at hs
 . rename_i t v ts h
   simp only [zO] at hs
   subst hs
   obtain ⟨h1, h2⟩ := get_sim (l := []) hx h hl hR
   obtain ⟨u, hu, -, -⟩ := iface_inv h1.head
   intro ρ n next Q _ hp
   refine ⟨fun _ _ => trivial, ?_⟩
   rw [Oper.semAt_eq _ _ _ (fun c h => by rw [hop] at h; cases h)]
   have e : (execOp a.eval o).run P w = .halt (.panic (.iface t u)) w := by
     simp only [execOp, hop, hu]; rfl
   rw [e]
   refine hp rfl (.iface t u) w ⟨g, O, [], .refl _ _ _, ?_, h2, rfl, .refl _⟩
   have := h1; rw [hu] at this; simpa using this
 . cases hs
end Go.Idl
namespace Go.Idl
variable [Globs]
variable {P : Program} {g : Gh} {O : List Nat} {w : World}
theorem R.free_of {l : Roots} {σ : List IObj} {b : Nat} (h : R g O l σ w) (hb : b ∉ ownL l ++ ownS w g.ι σ) : R g (O.filter (fun k => k != b)) l σ w := by
 have hm : ∀ k, k ∈ O.filter (fun k => k != b) -> k ∈ O := fun k hk => (List.mem_filter.1 hk).1
 refine ⟨h.len, h.vals, h.objs, h.nodup, fun k hk => List.mem_filter.2 ⟨h.sub k hk, ?_⟩, fun k hk => h.lt k (hm k hk), h.claim, h.apart, fun k hk => h.spare k (hm k hk), h.glob, h.zs⟩
 have : k ≠ b := fun e => hb (e ▸ hk)
 simpa using this
def Gh.renew (g : Gh) (b : Nat) : Gh := { g with ι := g.ι ++ [b], T := fun k => if k = b then none else g.T k }
theorem R.renew {x y : IVal} {v u : Value} {l : Roots} {σ : List IObj} {id b : Nat} {ob ob' : IObj} {w' : World} (h : R g O ((x, v) :: l) σ w) (hι : g.ι[id]? = some b) (hσ : σ[id]? = some ob) (hlive : ob ≠ .dead)
   (hw : ∀ k, k ≠ b -> w'.heap[k]? = w.heap[k]?) (hs : w'.heap.size = w.heap.size) (hsp : ∀ c el fz, w.heap[b]? = some (.cells c el fz) -> ∃ c' el', w'.heap[b]? = some (.cells c' el' fz) /\ c'.size = c.size)
   (hy : V g y u) (hyo : SubP (own3 y u) (own3 x v ++ ownO w b ob)) (hyb : b ∉ own3 y u) (hob : OBJ (g.renew b) w' b ob') (hown : ∃ r, ownO w' b ob' = b :: r /\ r.Sublist (own3 y u)) (h1 : w'.os = w.os) (h2 : w'.tape = w.tape) (h3 : w'.output = w.output) :
   ∃ O', R (g.renew b) O' l ((σ.set id .dead) ++ [ob']) w' /\ Grow O g w O' (g.renew b) w' := by
 have hbO : b ∈ O := h.sub b (List.mem_append_right _ (ownS_mem hι hσ (ownO_head hlive)))
 have hM : ∀ o, g.M b o = none := h.apart id b ob hι hσ (ownO_head hlive)
 have hd := h.upd (ob' := .dead) (w' := w') hy hι hσ hlive hw hs hsp trivial (by
   simp only [ownO, List.append_nil]
   exact hyo)
 -- nothing owns the block now
 have hnb : b ∉ ownL ((y, u) :: l) ++ ownS w' g.ι (σ.set id .dead) := by
   intro hm
   have hn := h.nodup
   have hin : b ∈ ownS w g.ι σ := ownS_mem hι hσ (ownO_head hlive)
   have e : ownL ((y, u) :: l) = own3 y u ++ ownL l := by simp [ownL]
   have e' : ownL ((x, v) :: l) = own3 x v ++ ownL l := by simp [ownL]
   rcases List.mem_append.1 hm with hm | hm
   . rw [e] at hm
     rcases List.mem_append.1 hm with hm | hm
     . exact hyb hm
     . exact (List.nodup_append.1 hn).2.2 b (by rw [e']; exact List.mem_append_right _ hm) b hin rfl
   . simp only [ownS, List.mem_flatten] at hm
     obtain ⟨c, hc, hbc⟩ := hm
     obtain ⟨j, k, z, q1, q2, rfl⟩ := mem_zipWith hc
     by_cases hj : j = id
     . subst hj
       rw [List.getElem?_set_self (lt_of_get hσ)] at q2; cases q2
       simp [ownO] at hbc
     . rw [List.getElem?_set_ne (by omega)] at q2
       have hk : ownO w' k z = ownO w k z \/ k = b := by
         by_cases e : k = b
         . exact .inr e
         . exact .inl (ownO_same (hw k e) z)
       have hnS := (List.nodup_append.1 hn).2.1
       have g1 : (List.zipWith (ownO w) g.ι σ)[id]? = some (ownO w b ob) := by simp [List.getElem?_zipWith, hι, hσ]
       have g2 : (List.zipWith (ownO w) g.ι σ)[j]? = some (ownO w k z) := by simp [List.getElem?_zipWith, q1, q2]
       rcases hk with hk | hk
       . rw [hk] at hbc
         exact nodup_getElem hnS g1 g2 (by omega) (ownO_head hlive) hbc
       . subst hk
         by_cases hyd : z = .dead
         . subst hyd; simp [ownO] at hbc
         . exact nodup_getElem hnS g1 g2 (by omega) (ownO_head hlive) (ownO_head hyd)
 have hf := hd.free_of hnb
 have hkf : b ∉ O.filter (fun k => k != b) := by simp
 have hg : R { g with T := fun k => if k = b then none else g.T k } (O.filter (fun k => k != b)) ((y, u) :: l) (σ.set id .dead) w' := by
   refine hf.ghost hkf rfl rfl (fun _ _ _ => rfl) (fun _ _ h => h) (fun k hk => by simp [hk]) (fun o v hm => ?_)
   rw [hM o] at hm; cases hm
 have ha := hg.addObj (k := b) (ob := ob') hkf (by rw [hs]; exact h.lt b hbO) hM (by simp) hob hown
 refine ⟨_, ha, ⟨by omega, fun k hk hkO => ⟨hw k (fun e => hkO (e ▸ hbO)), ?_, fun _ => rfl⟩, fun _ _ _ h => h, fun j k hj => ?_, fun k hk => ?_, rfl, h1, h2, h3, fun _ => Nat.le_refl _⟩⟩
 . have : k ≠ b := fun e => hkO (e ▸ hbO)
   simp [Gh.renew, this]
 . simp only [Gh.renew]; rw [zL (lt_of_get hj)]; exact hj
 . rcases List.mem_cons.1 hk with rfl | hk
   . exact .inl hbO
   . exact .inl (List.mem_filter.1 hk).1
end Go.Idl
namespace Go.Idl
variable [Globs]
variable {P : Program} {o : Oper} {a : Act} {g : Gh} {O : List Nat} {w : World} {s : St} {res : Res} {cf : CallF}
theorem cells_all : ∀ {ys : List IVal} {us : List Value}, ys.length = us.length -> (∀ (j : Nat) y u, ys[j]? = some y -> us[j]? = some u -> V g y u) -> (∀ y ∈ ys, nt y = true) ->
   (ys.flatMap fun v => (un2 v).cells).length = (flatV us).length /\ ∀ (j : Nat) x v, (ys.flatMap fun v => (un2 v).cells)[j]? = some x -> (flatV us)[j]? = some v -> V g x v /\ un1 x = x /\ x.isCell = true := by
 intro ys
 induction ys with
 | nil => intro us h _ _; have : us = [] := List.length_eq_zero_iff.1 h.symm; subst this; simp [flatV]
 | cons y ys ih =>
   intro us h hv hn
   cases us with
   | nil => simp at h
   | cons u us =>
     have hV := hv 0 y u rfl rfl
     obtain ⟨h1, h2⟩ := ih (us := us) (by simpa using h) (fun j y u hy hu => hv (j + 1) y u (by simpa using hy) (by simpa using hu)) (fun y hy => hn y (by simp [hy]))
     have e : flatV (u :: us) = u.cells.toList ++ flatV us := by simp [flatV]
     obtain ⟨c1, c2⟩ := hV.un2.cells
     have hfl := flat_of hV (hn y (by simp))
     have el : (un2 y).cells.length = u.cells.toList.length := by simpa using c1
     simp only [List.flatMap_cons]
     rw [e]
     refine ⟨by simp only [List.length_append, h1, el], fun j x v hx hv' => ?_⟩
     by_cases hj : j < (un2 y).cells.length
     . rw [zL hj] at hx
       rw [zL (by omega)] at hv'
       obtain ⟨q1, q2⟩ := hfl x (zM hx)
       exact ⟨c2 j x v hx (by simpa using hv'), q1, q2⟩
     . rw [zR (by omega)] at hx
       rw [zR (by omega), <- el] at hv'
       exact h2 _ x v hx hv'
theorem ones_all {ys : List IVal} {us : List Value} (hl : ys.length = us.length) (hv : ∀ (j : Nat) y u, ys[j]? = some y -> us[j]? = some u -> V g y u) (hn : ∀ y ∈ ys, nt y = true) : ∀ v ∈ flatV us, v.oneCell' = true := by
 obtain ⟨h1, h2⟩ := cells_all hl hv hn
 intro v hv'
 obtain ⟨j, hj⟩ := mem_idx hv'
 obtain ⟨x, hx⟩ := get_of_len h1.symm hj
 obtain ⟨q1, _, q3⟩ := h2 j x v hx hj
 exact oneCell_of (by rw [<- q1.isCell]; exact q3)
theorem own1_take {A : List IVal} {c : List Value} (n : Nat) : (List.zipWith own1 (A.take n) (c.take n)).flatten.Sublist (List.zipWith own1 A c).flatten := by
 rw [<- List.take_zipWith]
 generalize List.zipWith own1 A c = l
 have : l.flatten = (l.take n).flatten ++ (l.drop n).flatten := by rw [<- List.flatten_append, List.take_append_drop]
 rw [this]; exact List.sublist_append_left _ _
theorem own_snoc {A B : List IVal} {C D : List Value} (hl : A.length = C.length) (hB : ∀ (j : Nat) x v, B[j]? = some x -> D[j]? = some v -> own1 x v = []) : (List.zipWith own1 (A ++ B) (C ++ D)).flatten = (List.zipWith own1 A C).flatten := by
 rw [List.zipWith_append hl, List.flatten_append]
 rw [show (List.zipWith own1 B D).flatten = [] from flatten_nil (fun x hx => by
   obtain ⟨j, y, v, h1, h2, rfl⟩ := mem_zipWith hx
   exact hB j y v h1 h2)]
 simp
theorem sim_appendR {isS : Bool} {x y : Opd} {rx ry : Operand} {c : Call} {T U E : TypeId} {du : TypeDesc} {i : TypeInfo} {z : Value} (hop : o.op = .call c) (hc : c.callee = .builtin .append) (ha : c.args = #[rx, ry]) (hta : c.argTypes = #[T, U]) (hx : opdOK x rx = true) (hy : opdOK y ry = true)
   (hT : P.underlying T = some (.slice E)) (hU : P.underlying U = some du) (hdu : ∀ k, du ≠ .int k) (hi : P.info? E = some i) (hz : i.zero = some z) (hzs : z.cells.size = i.size)
   (hs : stepOp cf (.append true isS i.size i.bytes x y) s = some res) (hl : WT s.ts a.tmps) (hR : R g O (s.ts.roots a.tmps) s.σ w) : SimV P o a g O w s res := by
 simp only [stepOp] at hs
 split at hs
 . rename_i base ts h
   split at hs
   . rename_i yv ts' h'
     split at hs
     . rename_i ys hys
       have hexec : ∀ r w', (Builtin.append_ #[T, U] o.type #[a.eval rx, a.eval ry]).run P w = .ok r w' -> (execOp a.eval o).run P w = .ok (.value r) w' := by
         intro r w' hr
         simp [execOp, hop, resolve, hc, ha, hta, invoke, builtin, hr]
       obtain ⟨h1, h2⟩ := get_sim (l := []) hx h hl hR
       obtain ⟨h3, h4⟩ := get_sim (l := [(base, a.eval rx)]) hy h' h2 h1
       obtain ⟨us, u1, u2, u3, u4, u5, u6⟩ := elemsOf_sim (P := P) h3 h3.head hys
       obtain ⟨k1, k2⟩ := cells_all u1 u2 u3
       have hflen : (flatV us).length = ys.length * i.size := by rw [flatV_len u4, u1]
       have hroot : R g O ((base, a.eval rx) :: ts'.roots a.tmps) s.σ w := h3.drop
       have hV := hroot.head
       generalize hrx : a.eval rx = rxv at hV hroot
       split at hs
       . rename_i own rf xs
         split at hs
         . rename_i hcond
           obtain ⟨hown, h0, hb1, hb2⟩ := hcond
           subst hown
           simp only [if_true] at hs
           split at hs
           . rename_i hxs
             have hxs : xs = [] := List.length_eq_zero_iff.1 hxs
             subst hxs
             have hlenx : ∃ ad, rxv = .slice ad 0 0 := by
               cases hV with
               | nil => exact ⟨none, rfl⟩
               | sl _ _ _ vs ad cap _ _ hc' hl' hv' hf' hr' hz' hcl ho hn =>
                 have := (ho (by omega)).2.1 rfl
                 subst this
                 exact ⟨some ad, rfl⟩
             obtain ⟨ad, rfl⟩ := hlenx
             split at hs
             . rename_i hys0
               have hys0 : ys = [] := List.length_eq_zero_iff.1 hys0
               subst hys0
               simp only [rv, zO] at hs
               subst hs
               have hus : us = [] := List.length_eq_zero_iff.1 (by simpa using u1.symm)
               subst hus
               have hrun : (Builtin.append_ #[T, U] o.type #[.slice ad 0 0, a.eval ry]).run P w = .ok (.slice ad (0 + 0) 0) w := by
                 refine run_append_room' hT hU hdu hi u5 (u6 w rfl) (by simp) ?_
                 cases ad <;> simp [flatV, storeCells]
               exact SimV.same (hexec _ _ (by rw [hrx]; exact hrun)) hroot h4
             . rename_i hys0
               simp only [zO] at hs
               subst hs
               have hneed : (0 + ys.length) * i.bytes <= 140737488355328 := by simp only [List.length_nil] at hb1; omega
               have hrun := run_append_grow' (ty := o.type) (base := ad) (sLen := 0) (sCap := 0) (olds := []) hT hU hdu hi hz u5 u6 (fun W _ => by
                 cases ad with
                 | none => simp [Builtin.firstCells]
                 | some ad => exact run_firstCells_some (P := P) W i.size 0 ad 0 0 [] (by simp) (by simp)) (by omega) (by simp only [List.length_nil] at hb2; omega) (growslice_fits (by omega) hneed)
               have hge := grownCap_ge w (0 + ys.length) 0 E
               generalize hcapd : grownCap w (0 + ys.length) 0 E = cap' at hrun hge
               simp only [Nat.zero_add] at hrun hge
               have hzc : (Builtin.zeroCells z.cells (cap' - ys.length)).size = (cap' - ys.length) * i.size := by
                 simp [Builtin.zeroCells, hzs]
               have hR0 : R g O ((.sl i.size rf [], .slice ad 0 0) :: ts'.roots a.tmps) s.σ w.drew := hroot.world (Nat.le_refl _) (fun _ _ => rfl)
               have hG0 : Grow O g w O g w.drew := ⟨Nat.le_refl _, fun _ _ _ => ⟨rfl, rfl, fun _ => rfl⟩, fun _ _ _ h => h, fun _ _ h => h, fun _ h => .inl h, rfl, rfl, rfl, rfl, fun _ => Nat.le_refl _⟩
               have hcs : (([] : List Value).toArray ++ (flatV us).toArray ++ Builtin.zeroCells z.cells (cap' - ys.length)).size = cap' * i.size := by
                 simp only [Array.size_append, hzc, List.size_toArray, hflen, List.length_nil, Nat.zero_add]
                 rw [<- Nat.add_mul]; congr 1; omega
               have hget : ∀ (j : Nat) v, (([] : List Value).toArray ++ (flatV us).toArray ++ Builtin.zeroCells z.cells (cap' - ys.length))[j]? = some v -> j < ys.length * i.size -> (flatV us)[j]? = some v := by
                 intro j v hj hlt
                 rw [Array.getElem?_append_left (by simp [hflen]; exact hlt)] at hj
                 simpa using hj
               have hι : ∀ id b, g.ι[id]? = some b -> (g.fresh w.heap.size).ι[id]? = some b := fun id b hb => by simp only [Gh.fresh]; rw [zL (lt_of_get hb)]; exact hb
               have hcl : ∀ (j : Nat) x v, (ys.flatMap fun v => (un2 v).cells)[j]? = some x -> (([] : List Value).toArray ++ (flatV us).toArray ++ Builtin.zeroCells z.cells (cap' - ys.length))[j]? = some v -> V g x v /\ un1 x = x /\ x.isCell = true := by
                 intro j x v hxj hvj
                 have := lt_of_get hxj
                 rw [k1, hflen] at this
                 exact k2 j x v hxj (hget j v hvj this)
               have hnew := hR0.new (obr := .cells (([] : List Value).toArray ++ (flatV us).toArray ++ Builtin.zeroCells z.cells (cap' - ys.length)) E) (ob := .cells (ys.flatMap fun v => (un2 v).cells)) (fun _ =>
                 ⟨_, E, alloc_new _ _, by rw [k1, hflen, hcs]; exact Nat.mul_le_mul_right _ (by omega), fun j x v hxj hvj => by
                   obtain ⟨q1, q2, q3⟩ := hcl j x v hxj hvj
                   exact ⟨q1.mono hι (fun _ _ _ h => h) (by rw [own3_cell q3, own1_flat q2]; simp), q3⟩⟩) ⟨[], by
                 simp only [ownO]
                 rw [flatten_nil]
                 intro cc hcm
                 obtain ⟨j, x, y, q1, q2, rfl⟩ := mem_zipWith hcm
                 have hb : blockCells (w.drew.alloc (.cells (([] : List Value).toArray ++ (flatV us).toArray ++ Builtin.zeroCells z.cells (cap' - ys.length)) E)) w.drew.heap.size = _ := blockCells_new ..
                 rw [hb] at q2
                 exact own1_flat (hcl j x y q1 (by rw [<- Array.getElem?_toList]; exact q2)).2.1 _, by simp⟩
               refine ⟨rfl, _, _, _, hexec _ _ (by rw [hrx]; exact hrun), rfl, _, w.heap.size :: O, [], hG0.trans ((growFresh hR0 _).trans (Grow.setZ _ _ _ _ _)), (hnew.setZ (z := cap' * i.size) (alloc_new _ _) (by rw [hcs]; exact Nat.le_refl _)).push (.rs _ _ _ _ _ _ ?_ (by omega) (by rw [Nat.zero_add]; exact setZ_ge _ _ _)) rfl, h4, rfl, Keep.snoc _ _⟩
               simp [Gh.fresh, Gh.setZ, <- hR.len]
           . cases hs
         . cases hs
       . rename_i e id off len
         split at hs
         . rename_i hcond
           obtain ⟨-, he, ho, h0, hb1, hb2⟩ := hcond
           subst he ho
           split at hs
           . rename_i cs hcs
             split at hs
             . rename_i hlen
               simp only [zO] at hs
               subst hs
               obtain ⟨b, cap, rfl, hι, hcap, hz0⟩ := hV.rs_inv'
               have hσ := loadCell_some hcs
               obtain ⟨c, el, hh, hsz, hc'⟩ := hroot.objs id b _ hι hσ
               have hA : (cs.take (len * i.size)).length = len * i.size := by simp; omega
               have hC : (c.toList.take (len * i.size)).length = len * i.size := by simp; omega
               have hVA : ∀ (j : Nat) x v, (cs.take (len * i.size))[j]? = some x -> (c.toList.take (len * i.size))[j]? = some v -> V g x v /\ x.isCell = true := by
                 intro j x v hx hv
                 have hj := lt_of_get hx
                 rw [hA] at hj
                 rw [List.getElem?_take, if_pos hj] at hx hv
                 exact hc' j x v hx (by simpa using hv)
               have hy : V g (.agg (cs.take (len * i.size))) (.agg (c.toList.take (len * i.size)).toArray) := by
                 refine .agg _ _ (by simp only [List.size_toArray]; rw [hA, hC]) (fun j x v hx hv => (hVA j x v hx (by simpa using hv)).1) (fun x hx => ?_)
                 obtain ⟨j, hj⟩ := mem_idx hx
                 obtain ⟨v, hv⟩ := get_of_len (hA.trans hC.symm) hj
                 exact (hVA j x v hj hv).2
               have hoy : own3 (.agg (cs.take (len * i.size))) (.agg (c.toList.take (len * i.size)).toArray) = (List.zipWith own1 (cs.take (len * i.size)) (c.toList.take (len * i.size))).flatten := rfl
               have hob : ownO w b (.cells cs) = b :: (List.zipWith own1 cs c.toList).flatten := by simp [ownO, blockCells, hh]
               have hsub := own1_take (A := cs) (c := c.toList) (len * i.size)
               have hlive : IObj.cells cs ≠ .dead := by simp
               have hnd : (ownO w b (.cells cs)).Nodup := by
                 have h5 := (List.nodup_append.1 hroot.nodup).2.1
                 refine h5.sublist (List.sublist_flatten_of_mem ?_)
                 refine zM (i := id) ?_
                 simp [List.getElem?_zipWith, hι, hσ]
               have hbA : b ∉ (List.zipWith own1 (cs.take (len * i.size)) (c.toList.take (len * i.size))).flatten := by
                 rw [hob, List.nodup_cons] at hnd
                 exact fun hm => hnd.1 (hsub.mem hm)
               have hyo : SubP (own3 (.agg (cs.take (len * i.size))) (.agg (c.toList.take (len * i.size)).toArray)) (own3 (.rs i.size id 0 len) (.slice (some ⟨b, 0, none⟩) len cap) ++ ownO w b (.cells cs)) := by
                 rw [hoy, hob]
                 exact .of_sub ((hsub.trans (List.sublist_cons_self _ _)).trans (List.sublist_append_right _ _))
               have hBget : ∀ {F : List Value} (j : Nat) x v, (cs.take (len * i.size) ++ ys.flatMap fun v => (un2 v).cells)[j]? = some x -> (c.toList.take (len * i.size) ++ (flatV us ++ F))[j]? = some v ->
                   ((cs.take (len * i.size))[j]? = some x /\ (c.toList.take (len * i.size))[j]? = some v) \/ (V g x v /\ un1 x = x /\ x.isCell = true) := by
                 intro F j x v hx hv
                 by_cases hj : j < len * i.size
                 . rw [zL (by omega)] at hx hv
                   exact .inl ⟨hx, hv⟩
                 . rw [zR (by omega), hA] at hx
                   rw [zR (by omega), hC] at hv
                   have := lt_of_get hx
                   rw [zL (by omega)] at hv
                   exact .inr (k2 _ x v hx hv)
               have hownB : ∀ {F : List Value}, (List.zipWith own1 (cs.take (len * i.size) ++ ys.flatMap fun v => (un2 v).cells) (c.toList.take (len * i.size) ++ (flatV us ++ F))).flatten = (List.zipWith own1 (cs.take (len * i.size)) (c.toList.take (len * i.size))).flatten := by
                 intro F
                 refine own_snoc (hA.trans hC.symm) (fun j x v hx hv => ?_)
                 have := lt_of_get hx
                 rw [zL (by omega)] at hv
                 exact own1_flat (k2 j x v hx hv).2.1 v
               have hlenN : (cs.take (len * i.size) ++ ys.flatMap fun v => (un2 v).cells).length = (len + ys.length) * i.size := by
                 rw [List.length_append, hA, k1, hflen, Nat.add_mul]
               have hkeep : Keep s.σ (s.σ.set id .dead ++ [.cells (cs.take (len * i.size) ++ ys.flatMap fun v => (un2 v).cells)]) [(id, false)] :=
                 (Keep.set (ob := .dead) (rf := false) (fun n _ _ _ => (trivial : True))).trans (Keep.snoc _ _)
               by_cases hroom : len + ys.length <= cap
               . have hcapc : cap * i.size <= c.size := by
                   rcases Nat.eq_zero_or_pos (cap * i.size) with h9 | h9
                   . omega
                   . obtain ⟨c2, el2, fz2, q1, q2⟩ := hroot.zs b (by omega)
                     rw [hh] at q1; cases q1; omega
                 have hmul : len * i.size + ys.length * i.size <= cap * i.size := by rw [<- Nat.add_mul]; exact Nat.mul_le_mul_right _ hroom
                 have hst := run_storeCells_atF P b (0 + len * i.size) el (0, 0) (flatV us) 0 c w hh (by simp) (by omega) (ones_all u1 u2 u3)
                 have hrun : (Builtin.append_ #[T, U] o.type #[.slice (some ⟨b, 0, none⟩) len cap, a.eval ry]).run P w = .ok (.slice (some ⟨b, 0, none⟩) (len + ys.length) cap) _ :=
                   run_append_room' hT hU hdu hi u5 (u6 w rfl) hroom (by
                     simp only
                     rw [addr_add]; exact hst)
                 simp only [Nat.add_zero, Nat.zero_add, zS] at hrun
                 generalize hcc : (c.toList.take (len * i.size) ++ (flatV us ++ c.toList.drop (len * i.size + (flatV us).length))).toArray = c2 at hrun
                 have hc2 : c2.toList = c.toList.take (len * i.size) ++ (flatV us ++ c.toList.drop (len * i.size + (flatV us).length)) := by rw [<- hcc]
                 have hc2s : c2.size = c.size := by rw [<- hcc]; simp; omega
                 have hf := setRow_fields w b c2
                 have hrow := setRow_heap w b c c2 el _ hh
                 obtain ⟨O', hR', hg⟩ := hroot.renew (ob' := .cells (cs.take (len * i.size) ++ ys.flatMap fun v => (un2 v).cells)) hι hσ hlive (fun k hk => setRow_other w b k c2 hk) hf.2.2.2 (fun c0 el0 fz0 h9 => by
                     rw [hh] at h9; cases h9; exact ⟨c2, el, hrow, hc2s⟩) hy hyo (by rw [hoy]; exact hbA) ⟨c2, el, hrow, by rw [hlenN, hc2s, Nat.add_mul]; omega, fun j x v hx hv => by
                       have hv' : c2.toList[j]? = some v := by simpa using hv
                       rw [hc2] at hv'
                       rcases hBget j x v hx hv' with ⟨q1, q2⟩ | ⟨q1, q2, q3⟩
                       . obtain ⟨p1, p2⟩ := hVA j x v q1 q2
                         refine ⟨p1.mono (fun id' b' hb' => by simp only [Gh.renew]; rw [zL (lt_of_get hb')]; exact hb') (fun _ _ _ h => h) (fun b' hb' => ?_), p2⟩
                         have : b' ≠ b := fun e => hbA (by
                           subst e
                           rw [own3_cell p2] at hb'
                           exact mem_flatten_zip (f := own1) q1 q2 hb')
                         simp [Gh.renew, this]
                       . exact ⟨q1.mono (fun id' b' hb' => by simp only [Gh.renew]; rw [zL (lt_of_get hb')]; exact hb') (fun _ _ _ h => h) (by rw [own3_cell q3, own1_flat q2]; simp), q3⟩⟩
                     ⟨_, by simp only [ownO, blockCells, hrow]; rw [hc2], by rw [hownB, hoy]; exact .refl _⟩ hf.1 hf.2.1 hf.2.2.1
                 refine ⟨rfl, _, _, _, hexec _ _ (by rw [hrx]; exact hrun), rfl, _, O', [(id, false)], hg, hR'.push (.rs _ _ _ _ _ _ ?_ hroom hz0) rfl, h4, rfl, hkeep⟩
                 simp [Gh.renew, <- hR.len]
               . have hneed : (len + ys.length) * i.bytes <= 140737488355328 := by omega
                 have hold : ∀ W : World, W.heap = w.heap -> (Builtin.firstCells i.size len (.slice (some ⟨b, 0, none⟩) len cap)).run P W = .ok (c.toList.take (len * i.size)).toArray W := by
                   intro W hW
                   refine run_firstCells_some (P := P) W i.size len ⟨b, 0, none⟩ len cap _ hC (fun j v hj => ?_)
                   have hjl := lt_of_get hj
                   rw [hC] at hjl
                   rw [List.getElem?_take, if_pos hjl] at hj
                   rw [addr_add]
                   simp only [World.cell?, hW, hh, Nat.zero_add]
                   simpa using hj
                 have hrun := run_append_grow' (ty := o.type) hT hU hdu hi hz u5 u6 hold (by omega : cap < len + ys.length) (by omega) (growslice_fits (by omega) hneed)
                 have hge := grownCap_ge w (len + ys.length) cap E
                 generalize hcapd : grownCap w (len + ys.length) cap E = cap' at hrun hge
                 have hzc : (Builtin.zeroCells z.cells (cap' - (len + ys.length))).size = (cap' - (len + ys.length)) * i.size := by
                   simp [Builtin.zeroCells, hzs]
                 have hdead := hroot.upd (ob' := .dead) (w' := w) hy hι hσ hlive (fun _ _ => rfl) rfl (fun c0 el0 fz0 h9 => ⟨c0, el0, h9, rfl⟩) trivial (by simp only [ownO, List.append_nil]; exact hyo)
                 have hR0 := hdead.world (w' := w.drew) (Nat.le_refl _) (fun _ _ => rfl)
                 have hG0 : Grow O g w O g w.drew := ⟨Nat.le_refl _, fun _ _ _ => ⟨rfl, rfl, fun _ => rfl⟩, fun _ _ _ h => h, fun _ _ h => h, fun _ h => .inl h, rfl, rfl, rfl, rfl, fun _ => Nat.le_refl _⟩
                 generalize hcc : (c.toList.take (len * i.size)).toArray ++ (flatV us).toArray ++ Builtin.zeroCells z.cells (cap' - (len + ys.length)) = c2 at hrun
                 have hc2 : c2.toList = c.toList.take (len * i.size) ++ (flatV us ++ (Builtin.zeroCells z.cells (cap' - (len + ys.length))).toList) := by rw [<- hcc]; simp
                 have hc2s : c2.size = cap' * i.size := by
                   have : c2.size = c2.toList.length := by simp
                   rw [this, hc2, List.length_append, List.length_append, hC, hflen]
                   have e9 : (Builtin.zeroCells z.cells (cap' - (len + ys.length))).toList.length = (cap' - (len + ys.length)) * i.size := by simpa using hzc
                   rw [e9, <- Nat.add_mul, <- Nat.add_mul]
                   congr 1; omega
                 have hnew := hR0.new (obr := .cells c2 E) (ob := .cells (cs.take (len * i.size) ++ ys.flatMap fun v => (un2 v).cells)) (fun hVf =>
                   ⟨c2, E, alloc_new _ _, by rw [hlenN, hc2s]; exact Nat.mul_le_mul_right _ hge, fun j x v hx hv => by
                     have hv' : c2.toList[j]? = some v := by simpa using hv
                     rw [hc2] at hv'
                     rcases hBget j x v hx hv' with ⟨q1, q2⟩ | ⟨q1, q2, q3⟩
                     . cases hVf with
                       | agg _ _ hl' hv'' hi' => exact ⟨hv'' j x v q1 (by simpa using q2), hi' x (zM q1)⟩
                     . exact ⟨q1.mono (fun id' b' hb' => by simp only [Gh.fresh]; rw [zL (lt_of_get hb')]; exact hb') (fun _ _ _ h => h) (by rw [own3_cell q3, own1_flat q2]; simp), q3⟩⟩)
                   ⟨_, by
                     simp only [ownO]
                     have hb : blockCells (w.drew.alloc (.cells c2 E)) w.drew.heap.size = c2.toList := blockCells_new ..
                     rw [hb, hc2], by rw [hownB, hoy]; exact .refl _⟩
                 refine ⟨rfl, _, _, _, hexec _ _ (by rw [hrx]; exact hrun), rfl, _, w.heap.size :: O, [(id, false)], hG0.trans ((growFresh hR0 _).trans (Grow.setZ _ _ _ _ _)), (hnew.setZ (z := cap' * i.size) (alloc_new _ _) (by rw [hc2s]; exact Nat.le_refl _)).push (.rs _ _ _ _ _ _ ?_ hge (by rw [Nat.zero_add]; exact setZ_ge _ _ _)) rfl, h4, rfl, hkeep⟩
                 simp [Gh.fresh, Gh.setZ, <- hR.len]
             . cases hs
           . cases hs
         . cases hs
       . cases hs
     . cases hs
   . cases hs
 . cases hs
theorem sim_appendB {br isS : Bool} {x y : Opd} {rx ry : Operand} {c : Call} {T U E : TypeId} {du : TypeDesc} {i : TypeInfo} {z : Value} (hop : o.op = .call c) (hc : c.callee = .builtin .append) (ha : c.args = #[rx, ry]) (hta : c.argTypes = #[T, U]) (hx : opdOK x rx = true) (hy : opdOK y ry = true)
   (hT : P.underlying T = some (.slice E)) (hU : P.underlying U = some du) (hdu : ∀ k, du ≠ .int k) (hi : P.info? E = some i) (hz : i.zero = some z) (hzs : z.cells.size = i.size)
   (hs : stepOp cf (.append br isS i.size i.bytes x y) s = some res) (hl : WT s.ts a.tmps) (hR : R g O (s.ts.roots a.tmps) s.σ w) : SimV P o a g O w s res := by
 cases br with
 | false => exact sim_append hop hc ha hta hx hy hT hU hdu hi hz hzs hs hl hR
 | true => exact sim_appendR hop hc ha hta hx hy hT hU hdu hi hz hzs hs hl hR
theorem sim_convBytes {x : Opd} {r : Operand} {S T e : TypeId} (hop : o.op = .convert S T r) (hx : opdOK x r = true) (hS : P.underlying S = some .string) (hT : P.underlying T = some (.slice e)) (he : P.underlying e = some (.int .u8))
   (hs : stepOp cf (.conv .bytes x) s = some res) (hl : WT s.ts a.tmps) (hR : R g O (s.ts.roots a.tmps) s.σ w) : SimV P o a g O w s res := by
 simp only [stepOp] at hs
 split at hs
 . rename_i av ts h
   cases av with
   | str b =>
     simp only [rv, zO] at hs
     subst hs
     obtain ⟨h1, h2⟩ := get_sim (l := []) hx h hl hR
     obtain ⟨t, hu, ht⟩ := h1.head.str_inv
     have hrun := run_bytes_of_string (P := P) w S T e t hS hT he
     have hge := grownCap_ge w t.size 0 e
     have hR0 : R g O (ts.roots a.tmps) s.σ w.drew := h1.drop.world (Nat.le_refl _) (fun _ _ => rfl)
     have hG0 : Grow O g w O g w.drew := ⟨Nat.le_refl _, fun _ _ _ => ⟨rfl, rfl, fun _ => rfl⟩, fun _ _ _ h => h, fun _ _ h => h, fun _ h => .inl h, rfl, rfl, rfl, rfl, fun _ => Nat.le_refl _⟩
     have hlen : b.length = t.size := by rw [<- ht]; simp
     have hfl : flatV (t.data.toList.map fun b => Value.int .u8 b.toNat) = t.data.toList.map fun b => Value.int .u8 b.toNat := flatV_self (by simp [Value.cells])
     obtain ⟨g', O', hR', hg, hι⟩ := hR0.newSlice (xs := b.map fun c => .int .u8 c.toNat) (vs := t.data.toList.map fun b => .int .u8 b.toNat) (esz := 1) (cap := grownCap w t.size 0 e) (own := 0) (rf := false)
       (c := bytesRow t (grownCap w t.size 0 e)) (el := e) (fz := ((bytesRow t (grownCap w t.size 0 e)).size, (bytesRow t (grownCap w t.size 0 e)).size + 1)) (by rw [<- ht]; simp) (fun j x v hx hv => by
         rw [<- ht] at hx
         simp only [List.getElem?_map, Option.map_eq_some_iff] at hx hv
         obtain ⟨c, hc, rfl⟩ := hx
         obtain ⟨c', hc', rfl⟩ := hv
         rw [hc] at hc'; cases hc'
         exact .int _ _) (fun x hx => by
         simp only [List.mem_map] at hx
         obtain ⟨c, _, rfl⟩ := hx
         exact ⟨rfl, rfl⟩) (fun _ x hx => by
         simp only [List.mem_map] at hx
         obtain ⟨c, _, rfl⟩ := hx
         rfl) (fun v hv => by
         simp only [List.mem_map] at hv
         obtain ⟨c, _, rfl⟩ := hv
         rfl) (fun k v hk => by
         rw [hfl] at hk
         simp only [List.getElem?_map, Option.map_eq_some_iff] at hk
         obtain ⟨c, hc, rfl⟩ := hk
         have hkl : k < t.data.size := by have := lt_of_get hc; simpa using this
         rw [bytesRow_at t _ k hkl]
         have : t.data[k] = c := Option.some.inj ((Array.getElem?_eq_getElem hkl).symm.trans (by simpa using hc))
         rw [this]) (by simpa [hlen] using hge) (by
         have : t.data.size = t.size := rfl
         simp [bytesRow, this]; omega) (.inl rfl) (by simp) (by rw [hfl, <- ht]; simp)
     have e1 : (b.map fun c => IVal.int .u8 c.toNat).length = t.size := by simpa using hlen
     rw [e1] at hR'
     have hexec : ∀ r w', (convert S T (.string t)).run P w = .ok r w' -> (execOp a.eval o).run P w = .ok (.value r) w' := by
       intro r w' hr
       simp only [execOp, hop, hu]
       simp only [Sem.run_bind, hr, Result.andThen_ok, Sem.run_pure]
     exact ⟨rfl, _, _, _, hexec _ _ hrun, rfl, g', O', [], hG0.trans hg, hR', h2, rfl, Keep.refl _⟩
   | _ => simp at hs
 . cases hs
theorem sim_clear {zs : List IVal} {x : Opd} {rx : Operand} {c : Call} {T E : TypeId} {i : TypeInfo} {z : Value} (hop : o.op = .call c) (hc : c.callee = .builtin .clear) (ha : c.args = #[rx]) (hta : c.argTypes[0]? = some T) (hx : opdOK x rx = true)
   (hT : P.underlying T = some (.slice E)) (hi : P.info? E = some i) (hz : i.zero = some z) (hzc : cOKs zs z.cells.toList = true) (hzs : z.cells.size = i.size)
   (hs : stepOp cf (.clear zs x) s = some res) (hl : WT s.ts a.tmps) (hR : R g O (s.ts.roots a.tmps) s.σ w) : SimV P o a g O w s res := by
 have hexec : ∀ r w', (Builtin.clear_ c.argTypes o.type #[a.eval rx]).run P w = .ok r w' -> (execOp a.eval o).run P w = .ok (.value r) w' := by
   intro r w' hr
   simp [execOp, hop, resolve, hc, ha, invoke, builtin, hr]
 simp only [stepOp] at hs
 split at hs
 . rename_i e id off len ts h
   split at hs
   . rename_i cs hcs
     split at hs
     . rename_i hcond
       obtain ⟨he, h0, hle⟩ := hcond
       simp only [zO] at hs
       subst hs
       obtain ⟨h1, h2⟩ := get_sim (l := []) hx h hl hR
       obtain ⟨b, cap, hu, hι, hcap⟩ := h1.head.rs_inv
       have hσ := loadCell_some hcs
       obtain ⟨cc, el, hh, hsz, hcl⟩ := h1.objs id b _ hι hσ
       obtain ⟨z1, z2⟩ := cOKs_V g hzc
       have hzl : zs.length = z.cells.size := by simpa using z1
       have hrl : (repl len zs).length = len * e := by rw [repl_len, <- he]
       have hzsz : (Builtin.zeroCells z.cells len).toList.length = len * e := by
         simp [Builtin.zeroCells, he, hzl]
       have hpt : ∀ (k : Nat) x v, (repl len zs)[k]? = some x -> (Builtin.zeroCells z.cells len).toList[k]? = some v -> V g x v /\ own1 x v = [] /\ x.isCell = true := by
         intro k x v hxk hvk
         have hk := lt_of_get hxk
         rw [repl_len] at hk
         rw [repl_get (by omega) len k hk] at hxk
         have hv' : (Builtin.zeroCells z.cells len)[k]? = some v := by simpa using hvk
         have hk2 : k < len * z.cells.size := by rw [<- hzl]; exact hk
         simp only [Builtin.zeroCells, Array.getElem?_map, Array.getElem?_range, if_pos hk2, Option.map_some, zO] at hv'
         have hmod : k % z.cells.size < z.cells.size := Nat.mod_lt _ (by omega)
         refine z2 (k % zs.length) x v hxk ?_
         rw [<- hv', hzl]
         simp [getElem!_pos, hmod]
       have hput : off + (repl len zs).length <= cs.length := by omega
       have hput' : off + (Builtin.zeroCells z.cells len).toList.length <= cc.toList.length := by rw [hzsz]; simp; omega
       have hones : ∀ u ∈ (Builtin.zeroCells z.cells len).toList, u.oneCell' = true := by
         intro u hu'
         obtain ⟨j, hj⟩ := mem_idx hu'
         obtain ⟨x, hx'⟩ := get_of_len (hzsz.trans hrl.symm) hj
         obtain ⟨q1, _, q3⟩ := hpt j x u hx' hj
         exact oneCell_of (by rw [<- q1.isCell]; exact q3)
       let row := (cc.toList.take off ++ (Builtin.zeroCells z.cells len).toList ++ cc.toList.drop (off + (Builtin.zeroCells z.cells len).toList.length)).toArray
       have hst : (storeCells ⟨b, off, none⟩ (Builtin.zeroCells z.cells len).toList).run P w = .ok () (w.setRow b row) := by
         have := run_storeCells_atF P b off el (0, 0) (Builtin.zeroCells z.cells len).toList 0 cc w hh (by simp) (by simpa using hput') hones
         simpa [row] using this
       have hrun : (Builtin.clear_ c.argTypes o.type #[a.eval rx]).run P w = .ok (.tuple #[]) (w.setRow b row) := by
         rw [hu]
         by_cases hl0 : len = 0
         . subst hl0
           have he0 : (Builtin.zeroCells z.cells 0).toList = [] := by simp [Builtin.zeroCells]
           rw [he0] at hst
           have hws : w.setRow b row = w := by
             have : (storeCells ⟨b, off, none⟩ []).run P w = .ok () w := by simp [storeCells]
             have h9 := this.symm.trans hst
             injection h9 with _ h10
             exact h10.symm
           rw [hws]
           simp [Builtin.clear_, hta, run_und hT]
         . cases len with
           | zero => exact absurd rfl hl0
           | succ n => simp [Builtin.clear_, hta, run_und hT, zeroValue, typeInfo, hi, hz, hst]
       have hrow : (w.setRow b row).heap[b]? = some (.cells row el (0, 0)) := setRow_heap w b cc row el _ hh
       have hOB : OBJ g (w.setRow b row) b (.cells (putCells cs off (repl len zs))) := by
         refine ⟨row, el, hrow, ?_, fun j x u hxj huj => ?_⟩
         . rw [putCells_len hput]; simp [row]; simp at hput'; omega
         . rw [putCells_get hput] at hxj
           have huj' : (cc.toList.take off ++ (Builtin.zeroCells z.cells len).toList ++ cc.toList.drop (off + (Builtin.zeroCells z.cells len).toList.length))[j]? = some u := by simpa [row] using huj
           rw [putR_get hput', hzsz, <- hrl] at huj'
           split at hxj
           . rename_i hj
             rw [if_pos hj] at huj'
             obtain ⟨q1, _, q3⟩ := hpt _ x u hxj huj'
             exact ⟨q1, q3⟩
           . rename_i hj
             rw [if_neg hj] at huj'
             exact hcl j x u hxj (by simpa using huj')
       have hf := setRow_fields w b row
       have hR' := h1.upd (y := undefI) (u := undef) (id := id) (b := b) (ob := .cells cs) (ob' := .cells (putCells cs off (repl len zs))) (w' := w.setRow b row) (undef_V g) hι hσ (by simp) (fun k hk => setRow_other w b k row hk) hf.2.2.2 (fun c' el' fz' hc' => by
         rw [hh] at hc'; cases hc'
         exact ⟨row, el, hrow, by simp [row]; simp at hput'; omega⟩) hOB (by
         simp only [ownO, blockCells, hh, hrow]
         obtain ⟨A, C, e1, e2⟩ := own_put (cs := cs) (ws := repl len zs) (c := cc.toList) (us := (Builtin.zeroCells z.cells len).toList) (off := off) (by simpa using hsz) (by rw [hzsz, hrl]) hput
         have emid : (List.zipWith own1 (repl len zs) (Builtin.zeroCells z.cells len).toList).flatten = [] := flatten_nil (fun x hx => by
           obtain ⟨j, y, v, q1, q2, rfl⟩ := mem_zipWith hx
           exact (hpt j y v q1 q2).2.1)
         rw [show row.toList = cc.toList.take off ++ (Builtin.zeroCells z.cells len).toList ++ cc.toList.drop (off + (Builtin.zeroCells z.cells len).toList.length) from rfl, e1, e2, emid]
         refine SubP.of_sub ?_
         show List.Sublist (b :: (A ++ [] ++ C)) (own3 (.rs e id off len) (a.eval rx) ++ (b :: (A ++ _ ++ C)))
         refine List.Sublist.trans ?_ (List.sublist_append_right _ _)
         refine List.Sublist.cons_cons _ ?_
         refine List.Sublist.append ?_ (.refl _)
         rw [List.append_nil]; exact List.sublist_append_left _ _)
       refine ⟨rfl, undef, _, _, hexec _ _ hrun, rfl, g, O, [(id, !(zs.all nr1))], ?_, hR', h2, rfl, Keep.set fun m hid hm ho => ?_⟩
       . exact Grow.of_setRow g w (h1.sub b (List.mem_append_right _ (ownS_mem hι hσ (by simp [ownO])))) _ (fun k hk => setRow_other w b k row hk) hf.2.2.2 hf.1 hf.2.1 hf.2.2.1
       . refine RLO_put hput (ho _ hσ) (fun x hx => ?_)
         have hxz : x ∈ zs := by
           simp only [repl, List.mem_flatten] at hx
           obtain ⟨l, hl', hxl⟩ := hx
           rw [List.eq_of_mem_replicate hl'] at hxl; exact hxl
         obtain ⟨j, hj⟩ := mem_idx hxz
         obtain ⟨u, hu'⟩ := get_of_len z1 hj
         have hVx := (z2 j x u hj hu').1
         by_cases hnr : zs.all nr1 = true
         . exact hVx.norl m (nr3_of_nr2 (nr2_of_nr1 (List.all_eq_true.1 hnr x hxz)))
         . exact absurd (hm (by simpa using hnr)) (by omega)
     . cases hs
   . cases hs
 . rename_i own r ts h
   simp only [rv, zO] at hs
   subst hs
   obtain ⟨h1, h2⟩ := get_sim (l := []) hx h hl hR
   have hV := h1.head
   have hrun : (Builtin.clear_ c.argTypes o.type #[a.eval rx]).run P w = .ok (.tuple #[]) w := by
     generalize a.eval rx = u at hV
     cases hV with
     | nil => simp [Builtin.clear_, hta, run_und hT]
     | sl _ _ _ vs ad cap _ _ hc' hl' => simp [Builtin.clear_, hta, run_und hT]
   exact SimV.same (hexec _ _ hrun) (h1.swap (fun _ => undef_V g) (by simp [undefI, undef, own3])) h2
 . cases hs
end Go.Idl
namespace Go.Idl
variable [Globs]
variable {P : Program}
def infoZ (P : Program) (T : TypeId) : Option (TypeInfo × Value) :=
 match P.info? T with
 | some i => match i.zero with
   | some z => some (i, z)
   | none => none
 | none => none
theorem infoZ_spec {T : TypeId} {i : TypeInfo} {z : Value} (h : infoZ P T = some (i, z)) : P.info? T = some i /\ i.zero = some z := by
 unfold infoZ at h
 split at h
 . split at h
   . simp at h; obtain ⟨rfl, rfl⟩ := h; exact ⟨by assumption, by assumption⟩
   . cases h
 . cases h
def buildInfo (P : Program) (T : TypeId) : Option (Array Value × (Nat -> Option (Nat × Nat))) :=
 match P.info? T, P.underlying T with
 | some it, some (.array _ e) =>
   match it.zero, P.info? e with
   | some z, some ie => some (z.cells, fun i => some (i * ie.size, ie.size))
   | _, _ => none
 | some it, some (.struct fields) =>
   match it.zero, fields.toList.mapM (fun f => (P.info? f.type).map fun i => (f.offset, i.size)) with
   | some z, some places => some (z.cells, fun i => places.toArray[i]?)
   | _, _ => none
 | _, _ => none
theorem buildInfo_spec {T : TypeId} {zc : Array Value} {place : Nat -> Option (Nat × Nat)} (h : buildInfo P T = some (zc, place)) (w : World) (ps : Array (Nat × Value)) (cells : Array Value) (hf : Instr.fill place zc ps.toList = some cells) :
   (Instr.build T ps).run P w = .ok (.agg cells) w := by
 refine run_build w T ps cells ?_
 unfold buildInfo at h
 unfold Program.built
 split at h
 . rename_i h1 h2
   split at h
   . rename_i h3 h4
     simp at h; obtain ⟨rfl, rfl⟩ := h
     simp only [h1, h2, h3, h4]; exact hf
   . cases h
 . rename_i h1 h2
   split at h
   . rename_i h3 h4
     simp only [zO, zP] at h; obtain ⟨rfl, rfl⟩ := h
     simp only [h1, h2, h3, h4]; exact hf
   . cases h
 . cases h
def nilOK (P : Program) (T : TypeId) (k : Nat) : Bool :=
 match P.underlying T with
 | some d => nilTy k d && decide (k <= 3)
 | none => false
def isNilConst (k : Nat) : Operand -> Bool
 | .const (.pointer none) => k == 0
 | .const .nilIface => k == 1
 | .const .nilFunc => k == 2
 | .const (.map none) => k == 3
 | _ => false
theorem isNilConst_spec {k : Nat} {r : Operand} (h : isNilConst k r = true) : r = .const (nilOf k) := by
 unfold isNilConst at h
 split at h <;> simp at h <;> subst h <;> rfl
def elemInfo (P : Program) (T : TypeId) : Option (TypeId × TypeInfo) :=
 match P.underlying T with
 | some (.slice E) => match P.info? E with
   | some i => some (E, i)
   | none => none
 | _ => none
theorem elemInfo_spec {T E : TypeId} {i : TypeInfo} (h : elemInfo P T = some (E, i)) : P.underlying T = some (.slice E) /\ P.info? E = some i := by
 unfold elemInfo at h
 split at h
 . split at h
   . simp at h; obtain ⟨rfl, rfl⟩ := h; exact ⟨by assumption, by assumption⟩
   . cases h
 . cases h
def sizeIs (P : Program) (T : TypeId) (n : Nat) : Bool :=
 match P.info? T with
 | some i => i.size == n
 | none => false
def isInt (d : TypeDesc) : Bool := match d with | .int _ => true | _ => false
def mfn (P : Program) (t : TypeId) (name : String) : Option FuncId := match P.info? t with
 | some i => match i.methods.find? (fun m => m.name == name) with
   | some m => m.func.map (·.1)
   | none => none
 | none => none
def callOK (P : Program) (c : Call) : IOp -> Bool
 | .inv tab x xs => (match c.callee with | .invoke r name => opdOK x r && tab.all fun p => recvOK P p.1 name p.2.1 p.2.2 | _ => false) && opdsOK xs c.args.toList
 | .vOf G tab x => (match c.callee, c.args.toList with | .value (.func f), [r] => isVOf P f G tab && opdOK x r | _, _ => false)
 | .vSet G tab x y => (match c.callee, c.args.toList with | .value (.func f), [rx, ry] => isVSet P f G tab && (opdOK x rx && opdOK y ry) | _, _ => false)
 | .call f xs => (match c.callee with | .value (.func f') => f == f' | _ => false) && opdsOK xs c.args.toList
 | .callp f xs => (match c.callee with | .value (.func f') => f == f' | _ => false) && opdsOK xs c.args.toList
 | .callv x xs => (match c.callee with | .value r => opdOK x r | _ => false) && opdsOK xs c.args.toList
 | .lenS x => (match c.callee, c.args.toList, c.argTypes[0]? with | .builtin .len, [r], some T => opdOK x r && (match P.underlying T with | some .string => true | _ => false) | _, _, _ => false)
 | .lenL x => (match c.callee, c.args.toList, c.argTypes[0]? with | .builtin .len, [r], some T => opdOK x r && (match P.underlying T with | some (.slice _) => true | _ => false) | _, _, _ => false)
 | .lenM x => (match c.callee, c.args.toList, c.argTypes[0]? with | .builtin .len, [r], some T => opdOK x r && (match P.underlying T with | some (.map _ _) => true | _ => false) | _, _, _ => false)
 | .clear zs x => (match c.callee, c.args.toList, c.argTypes[0]? with | .builtin .clear, [r], some T => opdOK x r && (match elemInfo P T with | some (E, _) => (match infoZ P E with | some (i, z) => z.cells.size == i.size && cOKs zs z.cells.toList | none => false) | none => false) | _, _, _ => false)
 | .minmax mx [x, y] => (match c.callee, c.args.toList with | .builtin b, [rx, ry] => b == (if mx then .max else .min) && opdOK x rx && opdOK y ry | _, _ => false)
 | .append _ _ esz bytes x y => (match c.callee, c.args.toList, c.argTypes.toList with
     | .builtin .append, [rx, ry], [T, U] => opdOK x rx && opdOK y ry && (match elemInfo P T, P.underlying U with
       | some (E, i), some du => !(isInt du) && i.size == esz && i.bytes == bytes && (match infoZ P E with | some (_, z) => z.cells.size == esz | none => false)
       | _, _ => false)
     | _, _, _ => false)
 | _ => false
def hasAll (P : Program) (want : Array (String × TypeId)) (t : TypeId) (b : Bool) : Bool :=
 match P.info? t with
 | some i => (lacking want i.methods).isEmpty == b
 | none => false
def nilSide (ra rb : Operand) : Option Operand :=
 match ra, rb with
 | _, .const (.slice none 0 0) => some ra
 | .const (.slice none 0 0), _ => some rb
 | _, _ => none
def purOK (P : Program) : Op -> PurK -> List Opd -> Bool
 | .call c, .ext k, xs => (match c.callee with | .value (.func f) => isExt P f k | _ => false) && opdsOK xs c.args.toList
 | .call c, .invX tab, xs => (match c.callee with
   | .invoke r name => (tab.all fun p => match mfn P p.1 name with | some f => recvOK P p.1 name f p.2.2 && isExt P f p.2.1 | none => false) && opdsOK xs (r :: c.args.toList)
   | _ => false)
 | .binOp op T ra rb _, .eqa neg ks, xs => op == eqOp neg && (flatT P 1000 T == some ks && ((pnT P T).isSome && (!P.eqGuardType P.depth T && opdsOK xs [ra, rb])))
 | .binOp op T ra rb _, .isnilS neg, xs => op == eqOp neg && ((match P.underlying T with | some (.slice _) => true | _ => false) && (match nilSide ra rb with | some r => opdsOK xs [r] | none => false))
 | .binOp op T ra rb _, .eqi neg ks, xs => op == eqOp neg && ((match P.underlying T with | some (.interface _) => true | _ => false) && ((ks.all fun p => match P.info? p.1, P.underlying p.1 with | some i, some d => i.comparable && kindT d p.2 | _, _ => false) && opdsOK xs [ra, rb]))
 | .convert S T r, .text, xs => (match P.underlying S with | some (.slice e) => (match P.underlying e with | some (.int .u8) => true | _ => false) | _ => false) && ((match P.underlying T with | some .string => true | _ => false) && opdsOK xs [r])
 | .makeFunc f rs qs, .mkM n, xs => (match f, rs.toList, qs.toList with | .method n', [r], [] => n == n' && opdsOK xs [r] | _, _, _ => false)
 | .nilCheck r, .nilM ts n, xs => (ts.all fun t => nilMT P t n) && opdsOK xs [r]
 | .convert S T r, .rune, xs => (P.underlying S).isSome && ((match P.underlying T with | some .string => true | _ => false) && opdsOK xs [r])
 | .typeAssert r _ A ok, .tyC t ok' z, xs => A == t && (ok == ok' && ((match P.underlying A with | some (.interface _) => false | some _ => true | none => false) && ((match infoZ P A with | some (_, zv) => cOK z zv | none => false) && opdsOK xs [r])))
 | .typeAssert r _ A ok, .tyI yes no ok', xs => ok == ok' && ((match P.underlying A with | some (.interface want) => yes.all (fun t => hasAll P want t true) && no.all (fun t => hasAll P want t false) | _ => false) && ((match infoZ P A with | some (_, .nilIface) => true | _ => false) && opdsOK xs [r]))
 | _, _, _ => false
def opOK (P : Program) : Op -> IOp -> Bool
 | op, .pur k xs => purOK P op k xs
 | op, .mem k xs => memOK P op k xs
 | .panic r, .panic x => opdOK x r
 | .move r, .mv x => opdOK x r
 | .assign r, .mv x => opdOK x r
 | .pick rc ra rb, .pick c a b => opdOK c rc && opdOK a ra && opdOK b rb
 | .alloc T, .alloc zs => (match infoZ P T with | some (_, z) => cOKs zs z.cells.toList | none => false)
 | .box _ r, .box x => opdOK x r
 | .box _ r, .boxv x => opdOK x r
 | .build T rp, .build zs parts => (match buildInfo P T with | some (zc, place) => cOKs zs zc.toList && partsOK place parts rp.toList | none => false)
 | .buildSlice T n rp, .buildSl esz xs => (match elemInfo P T with
     | some (E, i) => i.size == esz && decide (0 < esz) && n == rp.size && (rp.toList.map (·.1) == List.range rp.size) && opdsOK xs (rp.toList.map (·.2)) && (match infoZ P E with | some (_, z) => z.cells.size == esz | none => false)
     | none => false)
 | .buildSlice T n rp, .buildRs esz xs => (match elemInfo P T with
     | some (E, i) => i.size == esz && decide (0 < esz) && n == rp.size && (rp.toList.map (·.1) == List.range rp.size) && opdsOK xs (rp.toList.map (·.2)) && (match infoZ P E with | some (_, z) => z.cells.size == esz | none => false)
     | none => false)
 | .load T r, .load _ n x => opdOK x r && tyN P T n
 | .store T rx ry, .store n x y => opdOK x rx && opdOK y ry && sizeIs P T n
 | .nilCheck r, .nilCheck x => opdOK x r
 | .binOp op _ rx ry _, .bin op' x y => op == op' && opdOK x rx && opdOK y ry
 | .binOp op T rx ry _, .eqb neg x y => op == (if neg then .neq else .eql) && opdOK x rx && opdOK y ry && (match P.underlying T with | some .bool => true | _ => false)
 | .binOp op T ra rb _, .isnil neg k x => op == (if neg then .neq else .eql) && nilOK P T k && ((isNilConst k rb && opdOK x ra) || (isNilConst k ra && opdOK x rb))
 | .unOp op _ r, .un op' x => op == op' && opdOK x r
 | .convert S T r, .conv (.int k) x => opdOK x r && (P.underlying S).isSome && (match P.underlying T with | some (.int k') => k == k' | _ => false)
 | .convert S T r, .conv .same x => opdOK x r && (match P.underlying S, P.underlying T with | some .string, some .string => true | _, _ => false)
 | .convert S T r, .conv .bytes x => opdOK x r && (match P.underlying S, P.underlying T with | some .string, some (.slice e) => (match P.underlying e with | some (.int .u8) => true | _ => false) | _, _ => false)
 | .makeInterface T r, .mkIface T' x => T == T' && opdOK x r && (match P.underlying T with | some (.interface _) => false | some _ => true | none => false)
 | .makeFunc f rs qs, .mkFn f' xs ys => f == f' && opdsOK xs rs.toList && opdsOK ys qs.toList
 | .makeMap _ none, .mkMap => true
 | .makeSlice T rx ry, .mkSl _ esz bytes zs x y => opdOK x rx && opdOK y ry && (match elemInfo P T with
     | some (E, i) => i.size == esz && i.bytes == bytes && (match infoZ P E with | some (_, z) => z.cells.size == esz && cOKs zs z.cells.toList | none => false)
     | none => false)
 | .slice T r lo hi none, .sliceS x l h => opdOK x r && optOK l lo && optOK h hi && (match P.underlying T with | some .string => true | _ => false)
 | .slice T r lo hi mx, .sliceL esz x l h m => opdOK x r && optOK l lo && optOK h hi && optOK m mx && (m.isNone || h.isSome) && (match elemInfo P T with | some (_, i) => i.size == esz | none => false)
 | .fieldAddr T r k, .fieldAddr off x => opdOK x r && (match P.underlying T with | some (.struct fs) => (match fs[k]? with | some f => f.offset == off && (match P.info? f.type with | some i => i.size != 0 | none => false) | none => false) | _ => false)
 | .field T r k, .field off n x => opdOK x r && (match P.underlying T with | some (.struct fs) => (match fs[k]? with | some f => f.offset == off && tyN P f.type n | none => false) | _ => false)
 | .indexAddr T rx ry, .idxAddr esz x y => opdOK x rx && opdOK y ry && (match elemInfo P T with | some (_, i) => i.size == esz | none => false)
 | .indexAddr T rx ry, .idxAddrA len esz x y => opdOK x rx && opdOK y ry && (match P.underlying T with | some (.array n E) => n == len && sizeIs P E esz | _ => false)
 | .index T rx ry, .idxS x y => opdOK x rx && opdOK y ry && (match P.underlying T with | some .string => true | _ => false)
 | .index T rx ry, .idxA len esz n x y => opdOK x rx && opdOK y ry && (match P.underlying T with | some (.array m E) => m == len && sizeIs P E esz && tyN P E n | _ => false)
 | .lookup T rx ry ok, .lookup kk z ok' x y => ok == ok' && opdOK x rx && opdOK y ry && nt z && (match P.underlying T with | some (.map K E) => (match P.underlying K, infoZ P E with | some d, some (_, zv) => keyD kk d && cOK z zv | _, _ => false) | _ => false)
 | .mapUpdate T rx ry rz, .mapSet kk x y z => opdOK x rx && opdOK y ry && opdOK z rz && (match P.underlying T with | some (.map K _) => (match P.underlying K with | some d => keyD kk d | none => false) | _ => false)
 | .insert T rx ry rz, .mapSet kk x y z => opdOK x rx && opdOK y ry && opdOK z rz && (match P.underlying T with | some (.map K _) => (match P.underlying K with | some d => keyD kk d | none => false) | _ => false)
 | .extract r i, .extract x j => i == j && opdOK x r
 | .call c, io => callOK P c io
 | _, _ => false
end Go.Idl
