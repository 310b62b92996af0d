/-
  Entries that are not Go's text: descriptors of types, reflection's values over what is never written.
-/
import Derived.Test.YtkjcgfadojfeeaaIdlPur
import Derived.Test.YtkjcgfadojfeeaaIdlOpsG
import Derived.Laws.Externs
import Derived.KernelRfl
set_option linter.unusedSectionVars false
set_option linter.unusedVariables false
set_option linter.unusedSimpArgs false
namespace Go.Idl
open Go.Extern Go.Extern.Rtype
variable [Globs]

variable {P : Program} {o : Oper} {a : Act} {g : Gh} {O : List Nat} {w : World} {s : St} {res : Res} {cf : CallF}

/-! ### what is asked of types -/
def undP (P : Program) (t : TypeId) : Option (TypeId × TypeInfo) :=
  match P.info? t with
  | some i => match i.desc with
    | .named _ u => match P.info? u with
      | some j => some (u, j)
      | none => none
    | _ => some (t, i)
  | none => none

theorem run_under {t : TypeId} {r : TypeId × TypeInfo} (h : undP P t = some r) : (under t).run P w = .ok r w := by
  unfold undP at h
  split at h
  · rename_i i hi
    split at h
    · rename_i n u hd
      split at h
      · rename_i j hj
        simp only [Option.some.injEq] at h
        subst h
        simp [under, typeInfo, hi, hd, hj]
      · cases h
    · rename_i hd
      simp only [Option.some.injEq] at h
      subst h
      simp only [under]
      simp only [typeInfo, Sem.run_bind, run_program, Result.andThen, hi]
      simp only [Sem.run_pure]
  · cases h

def kindD (i : TypeInfo) : Option Nat :=
  match i.desc with
  | .bool => some 1
  | .int .i64 => some (if i.str == "int" then 2 else 6)
  | .int .i8 => some 3 | .int .i16 => some 4 | .int .i32 => some 5
  | .int .u64 => some (if i.str == "uint" then 7 else if i.str == "uintptr" then 12 else 11)
  | .int .u8 => some 8 | .int .u16 => some 9 | .int .u32 => some 10
  | .func _ _ _ => some 19 | .interface _ => some 20 | .map _ _ => some 21
  | .pointer _ => some 22 | .slice _ => some 23 | .string => some 24 | .struct _ => some 25
  | _ => none

def kindP (P : Program) (t : TypeId) : Option Nat := match undP P t with
  | some r => kindD r.2
  | none => none

theorem run_kind {t : TypeId} {k : Nat} (h : kindP P t = some k) : (kind t).run P w = .ok k w := by
  unfold kindP at h
  split at h
  · rename_i r hr
    simp only [kind, Sem.run_bind, run_under hr, Result.andThen]
    unfold kindD at h
    split at h <;> first | (cases h; done) | (rename_i e; simp only [Option.some.injEq] at h; subst h; simp only [e]; rfl)
  · cases h

def elemD : TypeDesc → Option TypeId
  | .array _ e => some e
  | .chan _ e => some e
  | .map _ e => some e
  | .pointer e => some e
  | .slice e => some e
  | _ => none

def elemP (P : Program) (t : TypeId) : Option TypeId := match undP P t with
  | some r => elemD r.2.desc
  | none => none

theorem run_elem {t e : TypeId} (h : elemP P t = some e) : (elem? t).run P w = .ok (some e) w := by
  unfold elemP at h
  split at h
  · rename_i r hr
    simp only [elem?, Sem.run_bind, run_under hr, Result.andThen]
    unfold elemD at h
    split at h <;> first | (cases h; done) | (rename_i e; simp only [Option.some.injEq] at h; subst h; simp only [e]; rfl)
  · cases h

def namedD : TypeDesc → Bool
  | .named _ _ => true
  | .bool => true
  | .int _ => true
  | .float _ => true
  | .complex _ => true
  | .string => true
  | .unsafePointer => true
  | _ => false

theorem run_hasName {t : TypeId} {i : TypeInfo} (h : P.info? t = some i) : (hasName t).run P w = .ok (namedD i.desc) w := by
  simp only [hasName, typeInfo, Sem.run_bind, run_program, Result.andThen, h, Sem.run_pure]
  unfold namedD
  split <;> rename_i e <;> first | rfl | simp_all

def daP (P : Program) (T V : TypeId) : Option Bool :=
  if T == V then some true else match P.info? T, P.info? V with
    | some i, some j => if namedD i.desc && namedD j.desc then some false else match undP P T, undP P V with
      | some (t, ti), some (v, vi) => match ti.desc with
        | .chan _ _ => none
        | _ => some (t == v)
      | _, _ => none
    | _, _ => none

theorem run_da {T U : TypeId} {b : Bool} (h : daP P T U = some b) : (directlyAssignable T U).run P w = .ok b w := by
  unfold daP at h
  unfold directlyAssignable
  split at h
  · rename_i e
    simp only [Option.some.injEq] at h
    subst h
    simp [e]
  · rename_i e
    split at h
    · rename_i i j hi hj
      simp only [e, Bool.false_eq_true, if_false, Sem.run_bind, run_hasName hi, run_hasName hj, Result.andThen]
      split at h
      · rename_i hn
        simp only [Option.some.injEq] at h
        subst h
        simp [hn]
      · rename_i hn
        simp only [hn, Bool.false_eq_true, if_false, Sem.run_bind]
        split at h
        · rename_i t ti v vi ht hv
          simp only [Sem.run_pure, Result.andThen, run_under ht, run_under hv]
          split at h
          · cases h
          · rename_i hd
            simp only [Option.some.injEq] at h
            subst h
            split
            · rename_i e1 _; exact absurd e1 (hd _ _)
            · rfl
        · cases h
    · cases h

def ifaceD : TypeDesc → Option (Array (String × TypeId))
  | .interface ms => some ms
  | _ => none

def implP (P : Program) (T U : TypeId) : Option Bool :=
  match undP P T, undP P U, P.info? U with
  | some r, some q, some i => match ifaceD r.2.desc, ifaceD q.2.desc with
    | none, _ => some false
    | some want, none => some (Go.lacking want i.methods).isEmpty
    | some _, some _ => none
  | _, _, _ => none

theorem run_impl {T U : TypeId} {b : Bool} (h : implP P T U = some b) (h1 : P.methodsOfAPack P.depth T = false) (h2 : P.methodsOfAPack P.depth U = false) : (implements T U).run P w = .ok b w := by
  unfold implP at h
  split at h
  · rename_i r q i hT hU hi
    simp only [implements, noPackMethods, Sem.run_bind, run_program, Result.andThen, h1, h2, Bool.false_eq_true, if_false, Sem.run_pure, run_under hT, run_under hU]
    generalize r.2.desc = d1 at h ⊢
    generalize q.2.desc = d2 at h ⊢
    have hm : ∀ want, (Instr.missingMethod want i.methods).isNone = (Go.lacking want i.methods).isEmpty := by
      intro want
      by_cases e : Go.lacking want i.methods = []
      · rw [missingMethod_none e, e]; rfl
      · obtain ⟨m, hm⟩ := missingMethod_some e
        rw [hm]
        cases hl : Go.lacking want i.methods with
        | nil => exact absurd hl e
        | cons a r => rfl
    cases d1 with
    | interface want =>
      cases d2 with
      | interface got => simp [ifaceD] at h
      | _ =>
        simp only [ifaceD, Option.some.injEq] at h
        subst h
        simp only [typeInfo, Sem.run_bind, run_program, Result.andThen, hi, Sem.run_pure, hm]
    | _ =>
      simp only [ifaceD, Option.some.injEq] at h
      subst h
      rfl
  · cases h

def cutOK (P : Program) (name : String) (t : TypeId) : Bool := match P.cutTypes.find? (·.1 == name) with
  | some (_, u) => t == u
  | none => false

theorem run_cut {name : String} {t : TypeId} (h : cutOK P name t = true) : (cutType name).run P w = .ok t w := by
  unfold cutOK at h
  split at h
  · rename_i n u hf
    have := eq_of_beq h
    subst this
    simp [cutType, hf]
  · cases h

theorem run_handle (t : TypeId) : (handle t).run P w = .ok (.pointer (some ⟨P.globals.size, t, none⟩)) w := rfl
theorem run_ofHandle (t : TypeId) : (ofHandle (.pointer (some ⟨P.globals.size, t, none⟩))).run P w = .ok t w := by
  simp [ofHandle, handleType]
theorem run_noPack {what : String} {t : TypeId} (h : P.packed t = false) : (noPack what t).run P w = .ok () w := by simp [noPack, h]
theorem run_noPackHeld {what : String} {t : TypeId} (h : P.holdsPacked P.depth t = false) : (noPackHeld what t).run P w = .ok () w := by simp [noPackHeld, h]
theorem run_noPackMethods {what : String} {t : TypeId} (h : P.methodsOfAPack P.depth t = false) : (noPackMethods what t).run P w = .ok () w := by simp [noPackMethods, h]
theorem run_toType {rt t : TypeId} (h : cutOK P "internal/reflectlite.rtype" rt = true) : (ReflectliteType.toType t).run P w = .ok (.iface rt (.agg #[.pointer (some ⟨P.globals.size, t, none⟩)])) w := by
  simp [ReflectliteType.toType, run_cut h, run_handle, Result.andThen]
theorem ofRtype_eq (h : Value) : ReflectliteType.ofRtype (.agg #[h]) = (do let t ← ofHandle h; noPack "a Type asked or handed on" t; pure t) := rfl
theorem run_ofRtype {t : TypeId} (h : P.packed t = false) : (ReflectliteType.ofRtype (.agg #[.pointer (some ⟨P.globals.size, t, none⟩)])).run P w = .ok t w := by
  rw [ofRtype_eq]
  simp [run_ofHandle, run_noPack h, Result.andThen]

/-! ### the entries -/
def extName : ExtK → String
  | .typeOf _ _ => "internal/reflectlite.TypeOf"
  | .vType _ _ => "(internal/reflectlite.Value).Type"
  | .vIsNil _ _ => "(internal/reflectlite.Value).IsNil"
  | .vElem _ _ => "(internal/reflectlite.Value).Elem"
  | .rElem _ _ _ => "(internal/reflectlite.rtype).Elem"
  | .rCmp _ _ => "(internal/reflectlite.rtype).Comparable"
  | .rImpl _ _ => "(internal/reflectlite.rtype).Implements"
  | .rAsg _ _ => "(internal/reflectlite.rtype).AssignableTo"
  | .aKind _ _ => "(*internal/abi.Type).Kind"

def extFn : ExtK → Array Value → Sem Value
  | .typeOf _ _ => ReflectliteType.typeOf
  | .vType _ _ => ReflectliteValue.methodAny (ReflectliteValue.valueError "reflectlite.Value.Type" 0) fun t _ _ _ => ReflectliteType.toType t
  | .vIsNil _ _ => ReflectliteValue.method (ReflectliteValue.valueError "reflectlite.Value.IsNil" 0) ReflectliteValue.isNil
  | .vElem _ _ => ReflectliteValue.method (ReflectliteValue.valueError "reflectlite.Value.Elem" 0) ReflectliteValue.elem
  | .rElem _ _ _ => ReflectliteType.method ReflectliteType.elem
  | .rCmp _ _ => ReflectliteType.method fun t => do noPackHeld "Comparable" t; pure (.bool (← typeInfo t).comparable)
  | .rImpl _ _ => ReflectliteType.relation "Implements" ReflectliteType.implements_
  | .rAsg _ _ => ReflectliteType.relation "AssignableTo" ReflectliteType.assignableTo
  | .aKind _ _ => ReflectliteType.abiMethod fun t => do pure (.int .u8 (← kind t))

theorem ext_find {fn : Func} {k : ExtK} (h : fn.name = extName k) (ho : fn.origin = "") : Extern.findNext fn = none ∧ Extern.find fn = some (extFn k) := by
  unfold Extern.findNext Extern.find
  rw [h, ho]
  cases k <;> exact ⟨by kernel_rfl, by kernel_rfl⟩

def extOK (P : Program) : ExtK → Bool
  | .typeOf rt G => G == P.globals.size && cutOK P "internal/reflectlite.rtype" rt
  | .vType rt G => G == P.globals.size && cutOK P "internal/reflectlite.rtype" rt
  | .vIsNil G tab => G == P.globals.size && tab.all fun t => !P.packed t && tyN P t none
  | .vElem G tab => G == P.globals.size && tab.all fun p => !P.packed p.1 && (tyN P p.1 none && (elemP P p.1 == some p.2.1 && kindP P p.2.1 == some p.2.2))
  | .rElem rt G tab => G == P.globals.size && (cutOK P "internal/reflectlite.rtype" rt && tab.all fun p => !P.packed p.1 && elemP P p.1 == some p.2)
  | .rCmp G tab => G == P.globals.size && tab.all fun p => !P.packed p.1 && (!P.holdsPacked P.depth p.1 && (match P.info? p.1 with | some i => i.comparable == p.2 | none => false))
  | .rImpl G tab => G == P.globals.size && tab.all fun p => !P.packed p.1.1 && (!P.packed p.1.2 && (!P.methodsOfAPack P.depth p.1.1 && (!P.methodsOfAPack P.depth p.1.2 && (kindP P p.1.2 == some 20 && implP P p.1.2 p.1.1 == some p.2))))
  | .rAsg G tab => G == P.globals.size && tab.all fun p => !P.packed p.1.1 && (!P.packed p.1.2 && (!P.methodsOfAPack P.depth p.1.1 && (!P.methodsOfAPack P.depth p.1.2 && (match daP P p.1.2 p.1.1, implP P p.1.2 p.1.1 with | some a, some b => (a || b) == p.2 | _, _ => false))))
  | .aKind G tab => G == P.globals.size && tab.all fun p => !P.packed p.1 && kindP P p.1 == some p.2

theorem hdl_inv {G : Nat} {h : IVal} {hv : Value} {t : TypeId} (hV : V g h hv) (ht : hdlT G h = some t) : hv = .pointer (some ⟨G, t, none⟩) := by
  unfold hdlT at ht
  split at ht
  · split at ht
    · rename_i e
      simp only [Option.some.injEq] at ht
      subst ht e
      cases hV; rfl
    · cases ht
  · cases ht

theorem agg1_inv {h : IVal} {u : Value} (hV : V g (.agg [h]) u) : ∃ hv, u = .agg #[hv] ∧ V g h hv := by
  cases hV with
  | agg _ vs hl hv hi =>
    obtain ⟨hv', e⟩ : ∃ x, vs = #[x] := by
      obtain ⟨l⟩ := vs
      match l, hl with
      | [x], _ => exact ⟨x, rfl⟩
    subst e
    exact ⟨hv', rfl, hv 0 _ _ rfl rfl⟩

theorem agg3_inv {h p q : IVal} {u : Value} (hV : V g (.agg [h, p, q]) u) : ∃ hv pv qv, u = .agg #[hv, pv, qv] ∧ V g h hv ∧ V g p pv ∧ V g q qv := by
  cases hV with
  | agg _ vs hl hv hi =>
    obtain ⟨x, y, z, e⟩ : ∃ x y z, vs = #[x, y, z] := by
      obtain ⟨l⟩ := vs
      match l, hl with
      | [x, y, z], _ => exact ⟨x, y, z, rfl⟩
    subst e
    exact ⟨x, y, z, rfl, hv 0 _ _ rfl rfl, hv 1 _ _ rfl rfl, hv 2 _ _ rfl rfl⟩

theorem pv1_inv {r : Bool} {c : IVal} {u : Value} (hV : V g (.pv r [c] 0) u) : ∃ b o cv, u = .pointer (some ⟨b, o, none⟩) ∧ V g c cv ∧ c.isCell = true ∧ g.M b o = some cv ∧ un1 c = c := by
  cases hV with
  | pv _ _ _ vs a hs ho hl hv hf hr hm =>
    obtain ⟨cv, e⟩ : ∃ x, vs = [x] := by
      match vs, hl with
      | [x], _ => exact ⟨x, rfl⟩
    subst e
    obtain ⟨b, o, sp⟩ := a
    simp only at hs
    subst hs
    exact ⟨b, o, cv, rfl, hv 0 _ _ rfl rfl, (hf c (by simp)).2, by have := hm 0 cv rfl; simpa using this, (hf c (by simp)).1⟩

theorem pvany_inv {r : Bool} {cs : List IVal} {off : Nat} {u : Value} (hV : V g (.pv r cs off) u) : ∃ a, u = .pointer (some a) := by
  cases hV with
  | pv _ _ _ vs a hs ho hl hv hf hr hm => exact ⟨a, rfl⟩

theorem rt_V (g : Gh) (rt G : Nat) (t : TypeId) : V g (rtI rt G t) (.iface rt (.agg #[.pointer (some ⟨G, t, none⟩)])) ∧ own3 (rtI rt G t) (.iface rt (.agg #[.pointer (some ⟨G, t, none⟩)])) = [] := by
  refine ⟨.iface _ _ _ (.agg _ _ rfl (fun i x v hx hv => ?_) (by simp [hdlI, IVal.isCell])) ⟨rfl, rfl⟩, rfl⟩
  cases i with
  | zero => simp at hx hv; subst hx hv; exact .prim _ rfl
  | succ i => simp at hx

theorem methodAny_eq (z : Sem Value) (f : TypeId → Addr → Nat → Nat → Sem Value) (v : Value) :
    ReflectliteValue.methodAny z f #[v] = (do match ← ReflectliteValue.partsAny v with | none => z | some (t, a, fl) => f t a fl (fl % 32)) := rfl
theorem method_eq (z : Sem Value) (f : TypeId → Addr → Nat → Nat → Sem Value) (v : Value) :
    ReflectliteValue.method z f #[v] = (do match ← ReflectliteValue.parts v with | none => z | some (t, a, fl) => f t a fl (fl % 32)) := rfl
def vfl (f : Int) : Prop := f = 150 ∨ f = 406
theorem run_partsAny {t : TypeId} {ad : Addr} {f : Int} (hf : vfl f) : (ReflectliteValue.partsAny (.agg #[.pointer (some ⟨P.globals.size, t, none⟩), .pointer (some ad), .int .u64 f])).run P w = .ok (some (t, ad, f.toNat)) w := by
  have e : ReflectliteValue.partsAny (.agg #[.pointer (some ⟨P.globals.size, t, none⟩), .pointer (some ad), .int .u64 f]) = (do pure (some (← ofHandle (.pointer (some ⟨P.globals.size, t, none⟩)), ad, f.toNat))) := by
    rcases hf with rfl | rfl <;> rfl
  rw [e]
  simp [run_ofHandle, Result.andThen]
theorem run_parts {t : TypeId} {ad : Addr} {f : Int} (hf : vfl f) (hp : P.packed t = false) : (ReflectliteValue.parts (.agg #[.pointer (some ⟨P.globals.size, t, none⟩), .pointer (some ad), .int .u64 f])).run P w = .ok (some (t, ad, f.toNat)) w := by
  simp [ReflectliteValue.parts, run_partsAny hf, run_noPack hp, Result.andThen]

theorem run_loadP {T : TypeId} {b o : Nat} {c : IVal} {cv : Value} (hT : tyN P T none = true) (hV : V g c cv) (hc : c.isCell = true) (hm : w.cell? ⟨b, o, none⟩ = some cv) : ∃ u, (loadVar T ⟨b, o, none⟩).run P w = .ok u w ∧ V g c u := by
  obtain ⟨u, h1, h2, -⟩ := run_loadVar (P := P) (w := w) (n := none) (cs := [c]) (vs := [cv]) (b := b) (e := o) (off := 0) (z := c) hT rfl (fun i x v hx hv => by
    cases i with
    | zero => simp at hx hv; subst hx hv; exact hV
    | succ i => simp at hx) (by simpa using hc) (fun j v hj => by
    cases j with
    | zero => simp at hj; subst hj; exact hm
    | succ j => simp at hj) rfl
  exact ⟨u, h1, h2⟩

theorem args1 {vs : List IVal} {us : List Value} {x : IVal} (e : vs = [x]) (hl : vs.length = us.length) (hv : ∀ (i : Nat) x u, vs[i]? = some x → us[i]? = some u → V g x u) : ∃ u, us = [u] ∧ V g x u := by
  subst e
  match us, hl with
  | [u], _ => exact ⟨u, rfl, hv 0 _ _ rfl rfl⟩
theorem args2 {vs : List IVal} {us : List Value} {x y : IVal} (e : vs = [x, y]) (hl : vs.length = us.length) (hv : ∀ (i : Nat) x u, vs[i]? = some x → us[i]? = some u → V g x u) : ∃ u v, us = [u, v] ∧ V g x u ∧ V g y v := by
  subst e
  match us, hl with
  | [u, v], _ => exact ⟨u, v, rfl, hv 0 _ _ rfl rfl, hv 1 _ _ rfl rfl⟩

theorem find_mem {α : Type} {p : α → Bool} {l : List α} {x : α} (h : l.find? p = some x) : x ∈ l ∧ p x = true := ⟨List.mem_of_find?_eq_some h, List.find?_some h⟩

theorem iface_inv {t : TypeId} {x : IVal} {u : Value} (hV : V g (.iface t x) u) : ∃ v, u = .iface t v ∧ V g x v ∧ Flat x := by
  cases hV with
  | iface _ _ v hv hf => exact ⟨v, rfl, hv, hf⟩

theorem rtMethod_eq (f : TypeId → Sem Value) (r : Value) : ReflectliteType.method f #[r] = (do f (← ReflectliteType.ofRtype r)) := rfl
theorem relation_eq (n : String) (f : TypeId → TypeId → Sem Bool) (r v : Value) (u : TypeId) : ReflectliteType.relation n f #[r, .iface u v] = (do pure (.bool (← f (← ReflectliteType.ofRtype v) (← ReflectliteType.ofRtype r)))) := rfl
theorem abi_eq (f : TypeId → Sem Value) (h : Value) : ReflectliteType.abiMethod f #[h] = (do let t ← ofHandle h; noPack "a method of abi.Type" t; f t) := rfl

theorem ext_run {k : ExtK} (hk : extOK P k = true) {vs : List IVal} {us : List Value} (hl : vs.length = us.length) (hv : ∀ (i : Nat) x u, vs[i]? = some x → us[i]? = some u → V g x u)
    (hm : ∀ b o c, g.M b o = some c → w.cell? ⟨b, o, none⟩ = some c) {v : IVal} (h : extI k vs = some v) : ∃ u, (extFn k us.toArray).run P w = .ok u w ∧ V g v u ∧ own3 v u = [] := by
  unfold extI at h
  split at h
  · -- typeOf
    rename_i rt G t x
    simp only [Option.some.injEq] at h
    subst h
    simp only [extOK, Bool.and_eq_true, beq_iff_eq] at hk
    obtain ⟨rfl, hk⟩ := hk
    obtain ⟨u, rfl, hV⟩ := args1 rfl hl hv
    obtain ⟨v, rfl, -, -⟩ := iface_inv hV
    exact ⟨_, run_toType hk, rt_V g rt _ t⟩
  · -- vType
    rename_i rt G hd r cs off f
    split at h
    · rename_i t ht
      split at h
      · rename_i hf
        simp only [Option.some.injEq] at h
        subst h
        simp only [extOK, Bool.and_eq_true, beq_iff_eq] at hk
        obtain ⟨rfl, hk⟩ := hk
        obtain ⟨u, rfl, hV⟩ := args1 rfl hl hv
        obtain ⟨hv', pv, qv, rfl, v1, v2, v3⟩ := agg3_inv hV
        have := hdl_inv v1 ht; subst this
        obtain ⟨ad, rfl⟩ := pvany_inv v2
        cases v3
        refine ⟨_, ?_, rt_V g rt _ t⟩
        simp only [extFn]
        rw [methodAny_eq]
        simp only [Sem.run_bind, run_partsAny (.inl hf), Result.andThen, run_toType hk]
      · cases h
    · cases h
  · -- vIsNil
    rename_i G tab hd r c f
    split at h
    · rename_i t ht
      split at h
      · rename_i hf
        obtain ⟨hf, hc⟩ := hf
        simp only [extOK, Bool.and_eq_true, beq_iff_eq, List.all_eq_true, Bool.not_eq_true'] at hk
        obtain ⟨rfl, hk⟩ := hk
        obtain ⟨hp, hT⟩ := hk t (List.contains_iff_mem.1 hc)
        obtain ⟨u, rfl, hV⟩ := args1 rfl hl hv
        obtain ⟨hv', pv, qv, rfl, v1, v2, v3⟩ := agg3_inv hV
        have := hdl_inv v1 ht; subst this
        obtain ⟨b, o, cv, rfl, vc, hcell, hM, -⟩ := pv1_inv v2
        cases v3
        obtain ⟨lu, hlu, vlu⟩ := run_loadP (w := w) hT vc hcell (hm _ _ _ hM)
        have e : ∀ p, lu = .pointer p → (extFn (.vIsNil P.globals.size tab) [Value.agg #[.pointer (some ⟨P.globals.size, t, none⟩), .pointer (some ⟨b, o, none⟩), .int .u64 f]].toArray).run P w = .ok (.bool p.isNone) w := by
          intro p hp'
          simp only [extFn]
          rw [method_eq]
          subst hf hp'
          simp only [Sem.run_bind, run_parts (.inl rfl) hp, Result.andThen, ReflectliteValue.isNil]
          simp [hlu, Result.andThen]
          cases p <;> rfl
        split at h
        · simp only [Option.some.injEq] at h; subst h
          cases vlu
          exact ⟨_, e _ rfl, .bool _, rfl⟩
        · simp only [Option.some.injEq] at h; subst h
          cases vlu
          exact ⟨_, e _ rfl, .bool _, rfl⟩
        · simp only [Option.some.injEq] at h; subst h
          obtain ⟨ad, rfl⟩ := pvany_inv vlu
          exact ⟨_, e _ rfl, .bool _, rfl⟩
        · cases h
      · cases h
    · cases h
  · -- vElem
    rename_i G tab hd r c f
    split at h
    · rename_i t ht
      split at h
      · rename_i hf
        split at h
        · rename_i t' e k hfind
          split at h
          · rename_i id off
            simp only [Option.some.injEq] at h
            subst h
            simp only [extOK, Bool.and_eq_true, beq_iff_eq, List.all_eq_true, Bool.not_eq_true'] at hk
            obtain ⟨rfl, hk⟩ := hk
            obtain ⟨hmem, he⟩ := find_mem hfind
            have := eq_of_beq he; subst this
            obtain ⟨hp, hT, hE, hK⟩ := hk _ hmem
            obtain ⟨u, rfl, hV⟩ := args1 rfl hl hv
            obtain ⟨hv', pv, qv, rfl, v1, v2, v3⟩ := agg3_inv hV
            have := hdl_inv v1 ht; subst this
            obtain ⟨b, o, cv, rfl, vc, hcell, hM, -⟩ := pv1_inv v2
            cases v3
            obtain ⟨lu, hlu, vlu⟩ := run_loadP (w := w) hT vc hcell (hm _ _ _ hM)
            subst hf
            cases vlu with
            | ptr _ _ b' hb' =>
            refine ⟨.agg #[.pointer (some ⟨P.globals.size, e, none⟩), .pointer (some ⟨b', off, none⟩), .int .u64 (k + 384 : Nat)], ?_, .agg _ _ rfl (fun i x v hx hv' => ?_) (by simp [hdlI, IVal.isCell]), rfl⟩
            · simp only [extFn]
              rw [method_eq]
              simp only [Sem.run_bind, run_parts (.inl rfl) hp, Result.andThen, ReflectliteValue.elem]
              have e1 : ((150 : Int).toNat % 32 != 20 && (150 : Int).toNat % 32 != 22) = false := rfl
              simp only [e1, Bool.false_eq_true, if_false, Sem.run_bind, hlu, Result.andThen, run_elem hE]
              show (ReflectliteValue.mk e ⟨b', off, none⟩ ReflectliteValue.flagAddr).run P w = _
              simp [ReflectliteValue.mk, run_handle, run_kind hK, Result.andThen, ReflectliteValue.flagIndir, ReflectliteValue.flagAddr]
              omega
            · match i with
              | 0 => simp at hx hv'; subst hx hv'; exact .prim _ rfl
              | 1 => simp at hx hv'; subst hx hv'; exact .ptr _ _ _ hb'
              | 2 => simp at hx hv'; subst hx hv'; exact .int _ _
              | i + 3 => simp at hx
          · cases h
        · cases h
      · cases h
    · cases h
  · -- rElem
    rename_i rt G tab hd
    split at h
    · rename_i t ht
      split at h
      · rename_i u e hf
        simp only [Option.some.injEq] at h
        subst h
        simp only [extOK, Bool.and_eq_true, beq_iff_eq, List.all_eq_true, Bool.not_eq_true'] at hk
        obtain ⟨rfl, hcut, hk⟩ := hk
        obtain ⟨hmem, he⟩ := find_mem hf
        have := eq_of_beq he; subst this
        obtain ⟨hp, hE⟩ := hk _ hmem
        obtain ⟨u', rfl, hV⟩ := args1 rfl hl hv
        obtain ⟨hv', rfl, v1⟩ := agg1_inv hV
        have := hdl_inv v1 ht; subst this
        refine ⟨_, ?_, rt_V g rt _ e⟩
        simp only [extFn]
        rw [rtMethod_eq]
        simp only [Sem.run_bind, run_ofRtype hp, Result.andThen, ReflectliteType.elem, run_elem hE, run_toType hcut]
      · cases h
    · cases h
  · -- rCmp
    rename_i G tab hd
    split at h
    · rename_i t ht
      split at h
      · rename_i u b hf
        simp only [Option.some.injEq] at h
        subst h
        simp only [extOK, Bool.and_eq_true, beq_iff_eq, List.all_eq_true, Bool.not_eq_true'] at hk
        obtain ⟨rfl, hk⟩ := hk
        obtain ⟨hmem, he⟩ := find_mem hf
        have := eq_of_beq he; subst this
        obtain ⟨hp, hH, hE⟩ := hk _ hmem
        split at hE
        · rename_i i hi
          have hE := eq_of_beq hE
          simp only at hE
          subst hE
          obtain ⟨u', rfl, hV⟩ := args1 rfl hl hv
          obtain ⟨hv', rfl, v1⟩ := agg1_inv hV
          have := hdl_inv v1 ht; subst this
          refine ⟨.bool i.comparable, ?_, .bool _, rfl⟩
          simp only [extFn]
          rw [rtMethod_eq]
          simp only [Sem.run_bind, run_ofRtype hp, Result.andThen, run_noPackHeld hH, typeInfo, run_program, hi, Sem.run_pure]
        · cases hE
      · cases h
    · cases h
  · -- rImpl
    rename_i G tab hd u0 hd'
    split at h
    · rename_i t t' ht ht'
      split at h
      · rename_i p b hf
        simp only [Option.some.injEq] at h
        subst h
        simp only [extOK, Bool.and_eq_true, beq_iff_eq, List.all_eq_true, Bool.not_eq_true'] at hk
        obtain ⟨rfl, hk⟩ := hk
        obtain ⟨hmem, he⟩ := find_mem hf
        simp only [Bool.and_eq_true, beq_iff_eq] at he
        obtain ⟨e1, e2⟩ := he
        subst e1 e2
        obtain ⟨hp, hp', hM, hM', hK, hI⟩ := hk _ hmem
        obtain ⟨x, y, rfl, hV, hV'⟩ := args2 rfl hl hv
        obtain ⟨hv1, rfl, v1⟩ := agg1_inv hV
        obtain ⟨y', rfl, hV', -⟩ := iface_inv hV'
        obtain ⟨hv2, rfl, v2⟩ := agg1_inv hV'
        have := hdl_inv v1 ht; subst this
        have := hdl_inv v2 ht'; subst this
        refine ⟨.bool b, ?_, .bool _, rfl⟩
        simp only [extFn]
        show (ReflectliteType.relation _ _ #[_, _]).run P w = _
        rw [relation_eq]
        have e20 : ((20 : Nat) != 20) = false := rfl
        have hrun : (ReflectliteType.implements_ p.2 p.1).run P w = .ok b w := by
          simp only [ReflectliteType.implements_, Sem.run_bind, run_kind hK, Result.andThen, e20, Bool.false_eq_true, if_false, run_noPackMethods hM, run_noPack hp', run_impl hI hM' hM]
        simp only [Sem.run_bind, run_ofRtype hp, run_ofRtype hp', Result.andThen, hrun, Sem.run_pure]
      · cases h
    · cases h
  · -- rAsg
    rename_i G tab hd u0 hd'
    split at h
    · rename_i t t' ht ht'
      split at h
      · rename_i p b hf
        simp only [Option.some.injEq] at h
        subst h
        simp only [extOK, Bool.and_eq_true, beq_iff_eq, List.all_eq_true, Bool.not_eq_true'] at hk
        obtain ⟨rfl, hk⟩ := hk
        obtain ⟨hmem, he⟩ := find_mem hf
        simp only [Bool.and_eq_true, beq_iff_eq] at he
        obtain ⟨e1, e2⟩ := he
        subst e1 e2
        obtain ⟨hp, hp', hM, hM', hI⟩ := hk _ hmem
        split at hI
        · rename_i b1 b2 hd1 hd2
          have hI := eq_of_beq hI
          simp only at hI
          subst hI
          obtain ⟨x, y, rfl, hV, hV'⟩ := args2 rfl hl hv
          obtain ⟨hv1, rfl, v1⟩ := agg1_inv hV
          obtain ⟨y', rfl, hV', -⟩ := iface_inv hV'
          obtain ⟨hv2, rfl, v2⟩ := agg1_inv hV'
          have := hdl_inv v1 ht; subst this
          have := hdl_inv v2 ht'; subst this
          refine ⟨.bool (b1 || b2), ?_, .bool _, rfl⟩
          simp only [extFn]
          show (ReflectliteType.relation _ _ #[_, _]).run P w = _
          rw [relation_eq]
          have hrun : (ReflectliteType.assignableTo p.2 p.1).run P w = .ok (b1 || b2) w := by
            simp only [ReflectliteType.assignableTo]
            split
            · simp only [Sem.run_bind, run_noPackMethods hM, run_noPackMethods hM', Result.andThen, run_da hd1, run_impl hd2 hM' hM, Sem.run_pure]
            · simp only [Sem.run_bind, Result.andThen, run_da hd1, run_impl hd2 hM' hM, Sem.run_pure]
          simp only [Sem.run_bind, run_ofRtype hp, run_ofRtype hp', Result.andThen, hrun, Sem.run_pure]
        · cases hI
      · cases h
    · cases h
  · -- aKind
    rename_i G tab hd
    split at h
    · rename_i t ht
      split at h
      · rename_i u n hf
        simp only [Option.some.injEq] at h
        subst h
        simp only [extOK, Bool.and_eq_true, beq_iff_eq, List.all_eq_true, Bool.not_eq_true'] at hk
        obtain ⟨rfl, hk⟩ := hk
        obtain ⟨hmem, he⟩ := find_mem hf
        have := eq_of_beq he; subst this
        obtain ⟨hp, hK⟩ := hk _ hmem
        obtain ⟨u', rfl, hV⟩ := args1 rfl hl hv
        have := hdl_inv hV ht; subst this
        refine ⟨.int .u8 n, ?_, .int _ _, rfl⟩
        simp only [extFn]
        rw [abi_eq]
        simp only [Sem.run_bind, run_ofHandle, run_noPack hp, Result.andThen, run_kind hK, Sem.run_pure]
      · cases h
    · cases h
  · cases h

end Go.Idl
