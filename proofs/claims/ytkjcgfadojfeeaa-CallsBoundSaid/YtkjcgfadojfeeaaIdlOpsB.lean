/-
  Operations that touch no memory, second part: interfaces, addresses, parts of values.
-/
import Derived.Test.YtkjcgfadojfeeaaIdlOpsA
set_option linter.unusedSectionVars false
set_option linter.unusedVariables false
set_option linter.unusedSimpArgs false
namespace Go.Idl
variable [Globs]

variable {P : Program} {o : Oper} {a : Act} {g : Gh} {O : List Nat} {w : World} {s : St} {res : Res} {cf : CallF}

theorem sim_un {op : UnOp} {x : Opd} {r : Operand} {T : TypeId} (hop : o.op = .unOp op T r) (hx : opdOK x r = true) (hs : stepOp cf (.un op x) s = some res)
    (hl : WT s.ts a.tmps) (hR : R g O (s.ts.roots a.tmps) s.σ w) : SimV P o a g O w s res := by
  simp only [stepOp] at hs
  split at hs
  · rename_i v ts h
    split at hs
    · rename_i z hz
      simp only [rv, Option.some.injEq] at hs
      subst hs
      obtain ⟨h1, h2⟩ := get_sim (l := []) hx h hl hR
      have hv := h1.head
      unfold unI at hz
      split at hz
      · simp only [Option.some.injEq] at hz; subst hz
        refine SimV.same (v' := _) ?_ (h1.drop.push (.int _ _) rfl) h2
        simp [execOp, hop, hv.int_inv, Op.unary, Op.intArith]
      · simp only [binI, Option.some.injEq] at hz; subst hz
        refine SimV.same (v' := _) ?_ (h1.drop.push (.int _ _) rfl) h2
        simp [execOp, hop, hv.int_inv, Op.unary, Op.intBits]
      · simp only [Option.some.injEq] at hz; subst hz
        refine SimV.same (v' := _) ?_ (h1.drop.push (.bool _) rfl) h2
        simp [execOp, hop, hv.bool_inv, Op.unary]
      · cases hz
    · cases hs
  · cases hs

theorem run_und {T : TypeId} {d : TypeDesc} (h : P.underlying T = some d) : (underlying T).run P w = .ok d w := by simp [underlying, h]

theorem sim_convInt {k : IntKind} {x : Opd} {r : Operand} {S T : TypeId} {ds : TypeDesc} (hop : o.op = .convert S T r) (hx : opdOK x r = true) (hS : P.underlying S = some ds) (hT : P.underlying T = some (.int k)) (hs : stepOp cf (.conv (.int k) x) s = some res)
    (hl : WT s.ts a.tmps) (hR : R g O (s.ts.roots a.tmps) s.σ w) : SimV P o a g O w s res := by
  simp only [stepOp] at hs
  split at hs
  · rename_i v ts h
    split at hs <;> try (first | (cases hs; done) | (rename_i h0; cases h0; done))
    all_goals rename_i h0
    · cases h0
      simp only [rv, Option.some.injEq] at hs
      subst hs
      obtain ⟨h1, h2⟩ := get_sim (l := []) hx h hl hR
      refine SimV.same (v' := _) ?_ (h1.drop.push (.int _ _) rfl) h2
      simp [execOp, hop, h1.head.int_inv, convert, run_und hS, run_und hT, Conv.intToInt]
  · cases hs

theorem sim_convSame {x : Opd} {r : Operand} {S T : TypeId} (hop : o.op = .convert S T r) (hx : opdOK x r = true) (hS : P.underlying S = some .string) (hT : P.underlying T = some .string) (hs : stepOp cf (.conv .same x) s = some res)
    (hl : WT s.ts a.tmps) (hR : R g O (s.ts.roots a.tmps) s.σ w) : SimV P o a g O w s res := by
  simp only [stepOp] at hs
  split at hs
  · rename_i v ts h
    split at hs <;> try (first | (cases hs; done) | (rename_i h0; cases h0; done))
    · simp only [rv, Option.some.injEq] at hs
      subst hs
      obtain ⟨h1, h2⟩ := get_sim (l := []) hx h hl hR
      obtain ⟨t, ht, _⟩ := h1.head.str_inv
      refine SimV.same (v' := a.eval r) ?_ h1 h2
      simp [execOp, hop, ht, convert, run_und hS, run_und hT]
  · cases hs

theorem sim_nilCheck {x : Opd} {r : Operand} (hop : o.op = .nilCheck r) (hx : opdOK x r = true) (hs : stepOp cf (.nilCheck x) s = some res)
    (hl : WT s.ts a.tmps) (hR : R g O (s.ts.roots a.tmps) s.σ w) : SimV P o a g O w s res := by
  simp only [stepOp] at hs
  split at hs
  · rename_i id off ts h
    simp only [rv, Option.some.injEq] at hs
    subst hs
    obtain ⟨h1, h2⟩ := get_sim (l := []) hx h hl hR
    obtain ⟨b, hb, _⟩ := h1.head.ptr_inv
    exact SimV.same (v' := a.eval r) (by simp [execOp, hop, hb]) h1 h2
  · rename_i rf cs off ts h
    simp only [rv, Option.some.injEq] at hs
    subst hs
    obtain ⟨h1, h2⟩ := get_sim (l := []) hx h hl hR
    have hb : ∃ b, a.eval r = .pointer (some b) := by
      have hv := h1.head
      generalize a.eval r = u at hv
      cases hv; exact ⟨_, rfl⟩
    obtain ⟨b, hb⟩ := hb
    exact SimV.same (v' := a.eval r) (by simp [execOp, hop, hb]) h1 h2
  · cases hs

theorem V.iface_inv {t : TypeId} {x : IVal} {v : Value} (h : V g (.iface t x) v) : ∃ u, v = .iface t u ∧ V g x u ∧ Flat x := by cases h with | iface _ _ u hv hf => exact ⟨u, rfl, hv, hf⟩

theorem nt_un2_of {x : IVal} (h : nt x = true) : Flat (un2 x) := ⟨un2_un2 x, by rw [nt_un2]; exact h⟩

theorem sim_mkIface {x : Opd} {r : Operand} {T : TypeId} {d : TypeDesc} (hop : o.op = .makeInterface T r) (hx : opdOK x r = true) (hT : P.underlying T = some d) (hd : ∀ ms, d ≠ .interface ms)
    (hs : stepOp cf (.mkIface T x) s = some res) (hl : WT s.ts a.tmps) (hR : R g O (s.ts.roots a.tmps) s.σ w) : SimV P o a g O w s res := by
  simp only [stepOp] at hs
  split at hs
  · rename_i v ts h
    split at hs
    · rename_i hnt
      simp only [rv, Option.some.injEq] at hs
      subst hs
      obtain ⟨h1, h2⟩ := get_sim (l := []) hx h hl hR
      refine SimV.same (v' := .iface T (a.eval r)) ?_ (h1.drop.push (.iface T _ _ h1.head.un2 (nt_un2_of hnt)) rfl) h2
      simp only [execOp, hop, Instr.makeInterface, Sem.run_bind, run_und hT, Result.andThen_ok]
      simp
    · cases hs
  · cases hs

theorem Post.sameSt {s s' : St} {v : IVal} {v' : Value} (hR : R g O ((v, v') :: s'.ts.roots a.tmps) s.σ w) (hl : WT s'.ts a.tmps) (hσ : s'.σ = s.σ) (hw : s'.wr = s.wr) : Post g O w s v v' s' a w :=
  ⟨g, O, [], .refl O g w, by rw [hσ]; exact hR, hl, by rw [hw]; rfl, by rw [hσ]; exact .refl _⟩

theorem nt_of_get {xs : List IVal} {vs : List Value} (hv : ∀ p ∈ xs.zip vs, V g p.1 p.2) {i : Nat} {x : IVal} {v : Value} (hx : xs[i]? = some x) (hu : vs[i]? = some v) : V g x v := by
  have : (xs.zip vs)[i]? = some (x, v) := by simp [List.getElem?_zip_eq_some, hx, hu]
  exact hv _ (List.mem_of_getElem? this)

theorem R.drops {l l' : Roots} {σ : List IObj} (h : R g O (l ++ l') σ w) : R g O l' σ w := by
  induction l with
  | nil => exact h
  | cons p l ih => exact ih h.drop

theorem sim_mkFn {f : Fn} {xs ys : List Opd} {rs qs : Array Operand} (hop : o.op = .makeFunc f rs qs) (hx : opdsOK xs rs.toList = true) (hy : opdsOK ys qs.toList = true)
    (hs : stepOp cf (.mkFn f xs ys) s = some res) (hl : WT s.ts a.tmps) (hR : R g O (s.ts.roots a.tmps) s.σ w) : SimV P o a g O w s res := by
  simp only [stepOp] at hs
  split at hs
  · rename_i vs ts h
    split at hs
    · rename_i us ts' h'
      split at hs
      · rename_i hnt
        simp only [Bool.and_eq_true, List.all_eq_true] at hnt
        simp only [rv, Option.some.injEq] at hs
        subst hs
        obtain ⟨h1, h2, h3⟩ := getAll_sim (l := []) hx h hl hR
        obtain ⟨h4, h5, h6⟩ := getAll_sim (l := vs.zip (rs.toList.map a.eval)) hy h' h2 (by simpa using h1)
        refine SimV.same (v' := .func f (rs.map a.eval) (qs.map a.eval)) (by simp [execOp, hop, Instr.makeFunc]) ?_ h5
        refine R.push (R.drops (R.drops h4)) ?_ (by simp [own3, own2, own1])
        refine .fn f _ _ _ _ (by simpa using h3) (fun i x v hx hv => ?_) (fun x hx => ?_) (by simpa using h6) (fun i x v hx hv => ?_) (fun x hx => ?_)
        · simp only [List.getElem?_map, Option.map_eq_some_iff] at hx
          obtain ⟨x', hx', rfl⟩ := hx
          refine (nt_of_get (vs := rs.toList.map a.eval) (fun p hp => h4.vals p ?_) hx' ?_).un2
          · simp [hp]
          · simpa using hv
        · simp only [List.mem_map] at hx
          obtain ⟨x', hx', rfl⟩ := hx
          exact nt_un2_of (hnt.1 x' hx')
        · simp only [List.getElem?_map, Option.map_eq_some_iff] at hx
          obtain ⟨x', hx', rfl⟩ := hx
          refine (nt_of_get (vs := qs.toList.map a.eval) (fun p hp => h4.vals p ?_) hx' ?_).un2
          · simp [hp]
          · simpa using hv
        · simp only [List.mem_map] at hx
          obtain ⟨x', hx', rfl⟩ := hx
          exact nt_un2_of (hnt.2 x' hx')
      · cases hs
    · cases hs
  · cases hs

end Go.Idl
