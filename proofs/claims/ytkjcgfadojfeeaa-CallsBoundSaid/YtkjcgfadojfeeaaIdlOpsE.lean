/-
  Operations that touch no memory, fifth part: tests against nil, aggregates, slices of slices.
-/
import Derived.Test.YtkjcgfadojfeeaaIdlOpsD
set_option linter.unusedSectionVars false
set_option linter.unusedVariables false
set_option linter.unusedSimpArgs false
namespace Go.Idl
variable [Globs]

variable {P : Program} {o : Oper} {a : Act} {g : Gh} {O : List Nat} {w : World} {s : St} {res : Res} {cf : CallF}

def nilOf : Nat → Value
  | 0 => .pointer none
  | 1 => .nilIface
  | 2 => .nilFunc
  | _ => .map none

def nilTy (k : Nat) (d : TypeDesc) : Bool :=
  match k, d with
  | 0, .pointer _ => true
  | 1, .interface _ => true
  | 2, .func _ _ _ => true
  | 3, .map _ _ => true
  | _, _ => false

theorem run_equal_nil {k : Nat} {T : TypeId} {d : TypeDesc} {x : IVal} {u : Value} {b : Bool} (hT : P.underlying T = some d) (hk : nilTy k d = true) (hn : isNil k x = some b) (hV : V g x u) :
    (Op.equal T u (nilOf k)).run P w = .ok b w ∧ (Op.equal T (nilOf k) u).run P w = .ok b w := by
  have key : ∀ n, (Op.equalIn (n + 1) T u (nilOf k)).run P w = .ok b w ∧ (Op.equalIn (n + 1) T (nilOf k) u).run P w = .ok b w := by
    intro n
    unfold isNil at hn
    split at hn <;> (try (cases hn; done)) <;> simp only [Option.some.injEq] at hn <;> subst hn <;> unfold nilTy at hk <;> split at hk <;> (try (cases hk; done)) <;> (try (rename_i h0; cases h0; done)) <;> cases hV <;>
      simp [Op.equalIn, nilOf, run_und hT]
  exact key 9999

theorem run_bin_nil {k : Nat} {T : TypeId} {d : TypeDesc} {x : IVal} {u : Value} {b : Bool} {rx : Operand} (neg : Bool) (hT : P.underlying T = some d) (hk : nilTy k d = true) (hn : isNil k x = some b) (hV : V g x u) :
    ((do eqGuard (if neg then .neq else .eql) T rx (.const (nilOf k)) u (nilOf k); binOp (if neg then .neq else .eql) T u (nilOf k)) : Sem Value).run P w = .ok (.bool (b != neg)) w ∧
    ((do eqGuard (if neg then .neq else .eql) T (.const (nilOf k)) rx (nilOf k) u; binOp (if neg then .neq else .eql) T (nilOf k) u) : Sem Value).run P w = .ok (.bool (b != neg)) w := by
  obtain ⟨e1, e2⟩ := run_equal_nil (w := w) hT hk hn hV
  unfold isNil at hn
  cases neg
  all_goals
    split at hn <;> (try (cases hn; done)) <;> simp only [Option.some.injEq] at hn <;> subst hn <;> cases hV <;> simp only [nilOf] at e1 e2 <;>
      simp [eqGuard, binOp, nilOf, e1, e2]

theorem sim_isnil {k : Nat} {neg : Bool} {x : Opd} {rx ra rb : Operand} {T T' : TypeId} {d : TypeDesc} (hop : o.op = .binOp (if neg then .neq else .eql) T ra rb T') (hr : (ra = rx ∧ rb = .const (nilOf k)) ∨ (ra = .const (nilOf k) ∧ rb = rx)) (hx : opdOK x rx = true)
    (hT : P.underlying T = some d) (hk : nilTy k d = true) (hs : stepOp cf (.isnil neg k x) s = some res)
    (hl : WT s.ts a.tmps) (hR : R g O (s.ts.roots a.tmps) s.σ w) : SimV P o a g O w s res := by
  simp only [stepOp] at hs
  split at hs
  · rename_i v ts h
    split at hs
    · rename_i b hb
      simp only [rv, Option.some.injEq] at hs
      subst hs
      obtain ⟨h1, h2⟩ := get_sim (l := []) hx h hl hR
      obtain ⟨e1, e2⟩ := run_bin_nil (w := w) (rx := rx) neg hT hk hb h1.head
      refine SimV.same (v' := .bool (b != neg)) ?_ (h1.drop.push (.bool _) rfl) h2
      rcases hr with ⟨rfl, rfl⟩ | ⟨rfl, rfl⟩
      · simp only [execOp, hop]
        rw [show a.eval (.const (nilOf k)) = nilOf k from rfl, Sem.run_bind, e1]; simp
      · simp only [execOp, hop]
        rw [show a.eval (.const (nilOf k)) = nilOf k from rfl, Sem.run_bind, e2]; simp
    · cases hs
  · cases hs

theorem sim_minmax {mx : Bool} {x y : Opd} {rx ry : Operand} {c : Call} (hop : o.op = .call c) (hc : c.callee = .builtin (if mx then .max else .min)) (ha : c.args = #[rx, ry]) (hx : opdOK x rx = true) (hy : opdOK y ry = true)
    (hs : stepOp cf (.minmax mx [x, y]) s = some res) (hl : WT s.ts a.tmps) (hR : R g O (s.ts.roots a.tmps) s.σ w) : SimV P o a g O w s res := by
  simp only [stepOp] at hs
  split at hs
  · rename_i k i k' j ts h
    split at hs
    · rename_i hk
      simp only [rv, Option.some.injEq] at hs
      subst hs hk
      obtain ⟨h1, h2, h3⟩ := getAll_sim (l := []) (rs := [rx, ry]) (by simp [opdsOK, hx, hy]) h hl hR
      simp only [List.map_cons, List.map_nil, List.zip_cons_cons, List.cons_append, List.nil_append, List.zip_nil_right] at h1
      have e1 := h1.head.int_inv
      have e2 := h1.drop.head.int_inv
      cases mx
      · refine SimV.same (v' := .int k (if j < i then j else i)) ?_ (h1.drop.drop.push (.int _ _) rfl) h2
        simp [execOp, hop, resolve, hc, ha, invoke, builtin, e1, e2, run_min_int2]
      · refine SimV.same (v' := .int k (if i < j then j else i)) ?_ (h1.drop.drop.push (.int _ _) rfl) h2
        simp [execOp, hop, resolve, hc, ha, invoke, builtin, e1, e2, run_max_int2]
    · cases hs
  · cases hs

/-! ### a slice of a slice -/
theorem flatV_take_drop {vs : List Value} {esz : Nat} (hz : ∀ v ∈ vs, v.cells.size = esz) {l h : Nat} (hl : l ≤ vs.length) {k : Nat} {c : Value} (hk : (flatV ((vs.take h).drop l))[k]? = some c) : (flatV vs)[l * esz + k]? = some c := by
  have h1 : ∀ (n : Nat) (us : List Value), (∀ v ∈ us, v.cells.size = esz) → n ≤ us.length → flatV us = flatV (us.take n) ++ flatV (us.drop n) ∧ (flatV (us.take n)).length = n * esz := by
    intro n us hu hn
    refine ⟨by simp only [flatV]; rw [← List.flatMap_append, List.take_append_drop], ?_⟩
    induction us generalizing n with
    | nil => simp at hn; subst hn; simp [flatV]
    | cons u us ih =>
      cases n with
      | zero => simp [flatV]
      | succ n =>
        have := ih n (fun v hv => hu v (by simp [hv])) (by simpa using hn)
        simp only [flatV, List.take_succ_cons, List.flatMap_cons, List.length_append] at this ⊢
        rw [this]
        have := hu u (by simp)
        simp [this, Nat.add_mul]; omega
  obtain ⟨e1, e2⟩ := h1 l vs hz hl
  rw [e1, List.getElem?_append_right (by omega), e2, Nat.add_sub_cancel_left]
  by_cases hlh : l ≤ h
  · have e3 : (vs.take h).drop l = (vs.drop l).take (h - l) := by rw [List.drop_take]
    rw [e3] at hk
    have e4 : flatV (vs.drop l) = flatV ((vs.drop l).take (h - l)) ++ flatV ((vs.drop l).drop (h - l)) := by
      simp only [flatV]; rw [← List.flatMap_append, List.take_append_drop]
    rw [e4, List.getElem?_append_left (lt_of_get hk)]
    exact hk
  · have : (vs.take h).drop l = [] := by simp; omega
    rw [this] at hk
    simp [flatV] at hk

end Go.Idl
