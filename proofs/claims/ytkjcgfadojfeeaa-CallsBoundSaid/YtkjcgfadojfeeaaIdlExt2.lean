/-
  Methods by an interface value: which function, at which receiver; the calls of entries.
-/
import Derived.Test.YtkjcgfadojfeeaaIdlExt
import Derived.Test.YtkjcgfadojfeeaaIdlCall
set_option linter.unusedSectionVars false
set_option linter.unusedVariables false
set_option linter.unusedSimpArgs false
namespace Go.Idl
open Go.Extern Go.Extern.Rtype
variable [Globs]

variable {P : Program} {o : Oper} {a : Act} {g : Gh} {O : List Nat} {w : World} {s : St} {res : Res} {cf : CallF}

def recvT (P : Program) (t : TypeId) (ptr : Bool) : Bool :=
  match P.underlying t with
  | some (.pointer _) => ptr
  | some _ => !ptr
  | none => false

theorem run_receiverAt {t : TypeId} {ptr : Bool} {v : Value} {wr : Option String} (h : recvT P t ptr = true) : (receiverAt t (.val v) ptr wr).run P w = .ok v w := by
  unfold recvT at h
  split at h
  · rename_i e hu
    subst h
    simp [receiverAt, run_underlying hu, Result.andThen, Place.get]
  · rename_i d hne hu
    cases ptr with
    | true => simp at h
    | false =>
      simp only [receiverAt, Sem.run_bind, run_underlying hu, Result.andThen]; rfl
  · cases h

def recvOK (P : Program) (t : TypeId) (name : String) (f : FuncId) (rk : RecvK) : Bool :=
  match P.info? t with
  | some i => match i.methods.find? (fun m => m.name == name) with
    | some m => match m.func with
      | some (f', ptr) => f == f' && (match rk, m.path.toList with
        | .same, [] => recvT P t ptr
        | .fld off n, [s] => !s.deref && (match P.underlying s.struct with
          | some (.struct fs) => match fs[s.index]? with
            | some fd => fd.offset == off && (tyN P fd.type n && recvT P fd.type ptr)
            | none => false
          | _ => false)
        | _, _ => false)
      | none => false
    | none => false
  | none => false

theorem run_method {fuel : Nat} {t : TypeId} {name : String} {f : FuncId} {rk : RecvK} {x y : IVal} {v : Value} (h : recvOK P t name f rk = true) (hV : V g x v) (hf : Flat x) (hy : recvI rk x = some y) :
    ∃ u, (Go.method (fuel + 1) t v name).run P w = .ok (f, u) w ∧ V g y u ∧ own3 y u = [] := by
  unfold recvOK at h
  split at h
  · rename_i i hi
    split at h
    · rename_i m hm
      split at h
      · rename_i f' ptr hfn
        simp only [Bool.and_eq_true, beq_iff_eq] at h
        obtain ⟨rfl, h⟩ := h
        split at h
        · rename_i hp
          simp only [recvI, Option.some.injEq] at hy
          subst hy
          refine ⟨v, ?_, hV, own3_flat hf v⟩
          simp only [Go.method, typeInfo, Sem.run_bind, run_program, Result.andThen, hi, Sem.run_pure, hm, hp, follow, hfn, run_receiverAt h]
        · rename_i off n st hp
          simp only [Bool.and_eq_true, Bool.not_eq_true'] at h
          obtain ⟨hd, h⟩ := h
          split at h
          · rename_i fs hs
            split at h
            · rename_i fd hfd
              simp only [Bool.and_eq_true, beq_iff_eq] at h
              obtain ⟨ho, hT, hr⟩ := h
              subst ho
              cases x with
              | agg cs =>
                simp only [recvI] at hy
                obtain ⟨vs, rfl, hl', hv, hc⟩ := hV.agg_inv
                obtain ⟨u, hu, hVu, hou⟩ := run_part (P := P) (w := w) hT hl' hv hc hy
                refine ⟨u, ?_, hVu, ?_⟩
                · simp only [Go.method, typeInfo, Sem.run_bind, run_program, Result.andThen, hi, Sem.run_pure, hm, hp, follow, run_underlying hs, hfd, hd, Bool.false_eq_true, if_false, hu, hfn, run_receiverAt hr]
                · have := own3_flat hf (.agg vs)
                  simp only [own3, own2] at this
                  rw [this] at hou
                  exact List.sublist_nil.1 hou
              | _ => simp [recvI] at hy
            · cases h
          · cases h
        · cases h
      · cases h
    · cases h
  · cases h

theorem extract_one (x : Value) (us : Array Value) : (#[x] ++ us).extract 1 (#[x] ++ us).size = us := by
  apply Array.ext'
  simp

def isExt (P : Program) (f : FuncId) (k : ExtK) : Bool := match P.funcs[f]? with
  | some fn => fn.name == extName k && (fn.origin == "" && (fn.body.isNone && extOK P k))
  | none => false

theorem run_ext {f : FuncId} {k : ExtK} (h : isExt P f k = true) {vs : List IVal} {us : Array Value} (hl : vs.length = us.toList.length) (hv : ∀ (i : Nat) x u, vs[i]? = some x → us.toList[i]? = some u → V g x u)
    (hm : ∀ b o c, g.M b o = some c → w.cell? ⟨b, o, none⟩ = some c) {v : IVal} (he : extI k vs = some v) : ∃ u, (callFunc f us).run P w = .ok (.value u) w ∧ V g v u ∧ own3 v u = [] := by
  unfold isExt at h
  split at h
  · rename_i fn hf
    simp only [Bool.and_eq_true, beq_iff_eq] at h
    obtain ⟨h1, h2, h3, h4⟩ := h
    obtain ⟨e1, e2⟩ := ext_find h1 h2
    obtain ⟨u, q1, q2, q3⟩ := ext_run (w := w) h4 hl hv hm he
    refine ⟨u, ?_, q2, q3⟩
    rw [run_callFunc_extern hf (by rw [h1]; cases k <;> rfl) h3 e1 e2]
    have e : us.toList.toArray = us := by simp
    rw [e] at q1
    rw [q1]; rfl
  · cases h

theorem pur_ext {k : ExtK} {c : Call} {f : FuncId} (hop : o.op = .call c) (hc : c.callee = .value (.func f)) (h : isExt P f k = true) : PurSim P o a (.ext k) c.args.toList := by
  intro g w vs v hl hv hm he
  obtain ⟨u, q1, q2, q3⟩ := run_ext (w := w) (us := c.args.map a.eval) h (by simpa using hl) (fun i x u hx hu => by
    simp only [Array.toList_map, List.getElem?_map, Option.map_eq_some_iff] at hu
    obtain ⟨r, hr, rfl⟩ := hu
    exact hv i x r hx hr) hm he
  refine ⟨u, ?_, q2, q3⟩
  simp only [execOp, hop, resolve, hc, Act.eval, Deferred.ofValue, Sem.run_bind, Sem.run_pure, Result.andThen, invoke]
  simpa using q1

theorem pur_invX {tab : List (TypeId × ExtK × RecvK)} {c : Call} {r : Operand} {name : String} (hop : o.op = .call c) (hc : c.callee = .invoke r name)
    (h : ∀ p ∈ tab, ∃ f, recvOK P p.1 name f p.2.2 = true ∧ isExt P f p.2.1 = true) : PurSim P o a (.invX tab) (r :: c.args.toList) := by
  intro g w vs v hl hv hm he
  cases vs with
  | nil => simp [purI] at he
  | cons x0 vs =>
  cases x0 with
  | iface t x =>
    simp only [purI] at he
    split at he
    · rename_i t' k rk hfind
      split at he
      · rename_i y hy
        obtain ⟨hmem, ht⟩ := find_mem hfind
        have := eq_of_beq ht; subst this
        obtain ⟨f, hr, hx⟩ := h _ hmem
        obtain ⟨xv, hxv, hVx, hfx⟩ := iface_inv (hv 0 _ r rfl rfl)
        obtain ⟨u, q1, q2, q3⟩ := run_method (w := w) (fuel := P.types.size + (Made.depth - 1)) hr hVx hfx hy
        obtain ⟨u', p1, p2, p3⟩ := run_ext (w := w) (us := #[u] ++ c.args.map a.eval) hx (by simpa using hl) (fun i x u' hx hu => by
          cases i with
          | zero => simp at hx hu; subst hx hu; exact q2
          | succ i =>
            simp only [List.getElem?_cons_succ] at hx
            have hu' : (c.args.toList.map a.eval)[i]? = some u' := by simpa using hu
            simp only [List.getElem?_map, Option.map_eq_some_iff] at hu'
            obtain ⟨r', hr', rfl⟩ := hu'
            exact hv (i + 1) x r' (by rw [List.getElem?_cons_succ]; exact hx) (by rw [List.getElem?_cons_succ]; exact hr')) hm he
        refine ⟨u', ?_, p2, p3⟩
        have hfu : P.types.size + Made.depth = P.types.size + (Made.depth - 1) + 1 := rfl
        have harg : (#[Value.iface t' xv] ++ c.args.map a.eval)[0]? = some (.iface t' xv) := by rw [Array.getElem?_append_left (by simp)]; rfl
        simp only [execOp, hop, resolve, hc, Sem.run_bind, Sem.run_pure, Result.andThen, invoke, hxv]
        rw [harg]
        simp only [extract_one, callMethod, Sem.run_bind, run_program, Result.andThen, hfu, q1]
        exact p1
      · cases he
    · cases he
  | _ => simp [purI] at he

end Go.Idl
