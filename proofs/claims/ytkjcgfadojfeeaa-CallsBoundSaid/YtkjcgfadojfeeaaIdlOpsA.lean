/-
  Operations that touch no memory: each ideal step is met by the model's.
-/
import Derived.Test.YtkjcgfadojfeeaaIdlSim
import Derived.Laws.Small
import Derived.Laws.StructEq
set_option linter.unusedSectionVars false
set_option linter.unusedVariables false
set_option linter.unusedSimpArgs false
namespace Go.Idl
variable [Globs]

variable {P : Program} {o : Oper} {a : Act} {g : Gh} {O : List Nat} {w : World} {s : St} {res : Res} {cf : CallF}

theorem V.int_inv {k : IntKind} {n : Int} {v : Value} (h : V g (.int k n) v) : v = .int k n := by cases h; rfl
theorem V.bool_inv {b : Bool} {v : Value} (h : V g (.bool b) v) : v = .bool b := by cases h; rfl
theorem V.str_inv {l : List UInt8} {v : Value} (h : V g (.str l) v) : ∃ t : ByteArray, v = .string t ∧ t.data.toList = l := by cases h with | str t => exact ⟨t, rfl, rfl⟩
theorem V.agg_inv {xs : List IVal} {v : Value} (h : V g (.agg xs) v) : ∃ vs : Array Value, v = .agg vs ∧ xs.length = vs.size ∧ (∀ (i : Nat) x u, xs[i]? = some x → vs[i]? = some u → V g x u) ∧ ∀ x ∈ xs, x.isCell = true := by
  cases h with | agg _ vs hl hv hi => exact ⟨vs, rfl, hl, hv, hi⟩
theorem V.tup_inv {xs : List IVal} {v : Value} (h : V g (.tup xs) v) : ∃ vs : Array Value, v = .tuple vs ∧ xs.length = vs.size ∧ (∀ (i : Nat) x u, xs[i]? = some x → vs[i]? = some u → V g x u) ∧ ∀ x ∈ xs, nt x = true := by
  cases h with | tup _ vs hl hv hi => exact ⟨vs, rfl, hl, hv, hi⟩
theorem V.ptr_inv {id off : Nat} {v : Value} (h : V g (.ptr id off) v) : ∃ b, v = .pointer (some ⟨b, off, none⟩) ∧ g.ι[id]? = some b := by
  cases h with | ptr _ _ b hb => exact ⟨b, rfl, hb⟩
theorem V.map_inv {id : Nat} {v : Value} (h : V g (.map id) v) : ∃ b, v = .map (some b) ∧ g.ι[id]? = some b := by
  cases h with | map _ b hb => exact ⟨b, rfl, hb⟩
theorem V.rs_inv {e id off len : Nat} {v : Value} (h : V g (.rs e id off len) v) : ∃ b cap, v = .slice (some ⟨b, off, none⟩) len cap ∧ g.ι[id]? = some b ∧ len ≤ cap := by
  cases h with | rs _ _ _ _ cap b hb hc => exact ⟨b, cap, rfl, hb, hc⟩

theorem addr_add (b off n : Nat) : (⟨b, off, none⟩ : Addr).add n = ⟨b, off + n, none⟩ := by
  unfold Addr.add; split <;> simp_all

theorem R.head {l : Roots} {σ : List IObj} {x : IVal} {v : Value} (h : R g O ((x, v) :: l) σ w) : V g x v := h.vals (x, v) (by simp)

theorem sim_mv {x : Opd} {r : Operand} (hop : o.op = .move r ∨ o.op = .assign r) (hx : opdOK x r = true) (hs : stepOp cf (.mv x) s = some res)
    (hl : WT s.ts a.tmps) (hR : R g O (s.ts.roots a.tmps) s.σ w) : SimV P o a g O w s res := by
  simp only [stepOp] at hs
  split at hs
  · rename_i v ts h
    simp only [rv, Option.some.injEq] at hs
    subst hs
    obtain ⟨h1, h2⟩ := get_sim (l := []) hx h hl hR
    refine SimV.same (v' := a.eval r) ?_ h1 h2
    rcases hop with hop | hop <;> simp [execOp, hop]
  · cases hs

theorem sim_pick {x y z : Opd} {rc ra rb : Operand} (hop : o.op = .pick rc ra rb) (hx : opdOK x rc = true) (hy : opdOK y ra = true) (hz : opdOK z rb = true) (hs : stepOp cf (.pick x y z) s = some res)
    (hl : WT s.ts a.tmps) (hR : R g O (s.ts.roots a.tmps) s.σ w) : SimV P o a g O w s res := by
  simp only [stepOp] at hs
  split at hs
  · rename_i ts h
    split at hs
    · rename_i v ts' h'
      simp only [rv, Option.some.injEq] at hs
      subst hs
      obtain ⟨h1, h2⟩ := get_sim (l := []) hx h hl hR
      have hc := h1.head.bool_inv
      obtain ⟨h3, h4⟩ := get_sim (l := []) hy h' h2 h1.drop
      exact SimV.same (v' := a.eval ra) (by simp [execOp, hop, hc, asBool]) h3 h4
    · cases hs
  · rename_i ts h
    split at hs
    · rename_i v ts' h'
      simp only [rv, Option.some.injEq] at hs
      subst hs
      obtain ⟨h1, h2⟩ := get_sim (l := []) hx h hl hR
      have hc := h1.head.bool_inv
      obtain ⟨h3, h4⟩ := get_sim (l := []) hz h' h2 h1.drop
      exact SimV.same (v' := a.eval rb) (by simp [execOp, hop, hc, asBool]) h3 h4
    · cases hs
  · cases hs

/-! ### numbers, strings -/
/-- What an ideal result that holds no memory is like. -/
def plainV : IVal → Option Value
  | .int k n => some (.int k n)
  | .bool b => some (.bool b)
  | .str l => some (.string ⟨l.toArray⟩)
  | _ => none

theorem plainV_V {x : IVal} {v : Value} (h : plainV x = some v) : V g x v ∧ own3 x v = [] := by
  unfold plainV at h
  split at h
  · simp only [Option.some.injEq] at h; subst h; exact ⟨.int _ _, rfl⟩
  · simp only [Option.some.injEq] at h; subst h; exact ⟨.bool _, rfl⟩
  · rename_i l
    simp only [Option.some.injEq] at h; subst h; exact ⟨V.str (g := g) ⟨l.toArray⟩, rfl⟩
  · cases h

theorem size_str (t : ByteArray) : t.size = t.data.toList.length := by rw [Array.length_toList]; rfl

theorem toList_str (t : ByteArray) : t.toList = t.data.toList := ByteArray.toList_eq t

theorem run_bin {op : BinOp} {T : TypeId} {x y z : IVal} {u v : Value} (hx : V g x u) (hy : V g y v) (hb : bin op x y = some z) :
    ∃ r, plainV z = some r ∧ (binOp op T u v).run P w = .ok r w := by
  unfold bin at hb
  split at hb
  · rename_i k i k' j
    have e1 := hx.int_inv
    have e2 := hy.int_inv
    subst e1 e2
    split at hb
    · simp only [shiftI] at hb
      split at hb
      · cases hb
      · rename_i h0
        simp at hb; subst hb
        exact ⟨_, rfl, by simp [binOp, Op.shift, h0]⟩
    · simp only [shiftI] at hb
      split at hb
      · cases hb
      · rename_i h0
        simp at hb; subst hb
        exact ⟨_, rfl, by simp [binOp, Op.shift, h0]⟩
    · split at hb
      · rename_i hk
        subst hk
        unfold binI at hb
        split at hb
        all_goals (try (simp at hb; subst hb; exact ⟨_, rfl, by simp [binOp, Op.intArith, Op.intCmp, Op.intBits]⟩))
        · split at hb
          · cases hb
          · rename_i h0; simp at hb; subst hb; exact ⟨_, rfl, by simp [binOp, Op.intDiv, h0]⟩
        · split at hb
          · cases hb
          · rename_i h0; simp at hb; subst hb; exact ⟨_, rfl, by simp [binOp, Op.intDiv, h0]⟩
        · simp_all
      · cases hb
  · rename_i p q
    obtain ⟨t, rfl, ht⟩ := hx.str_inv
    obtain ⟨t', rfl, ht'⟩ := hy.str_inv
    subst ht ht'
    unfold binS at hb
    split at hb
    · split at hb
      · rename_i hlen
        simp at hb; subst hb
        refine ⟨_, rfl, ?_⟩
        have h1 : ¬ (((t.size + t'.size : Nat) : Int) > IntKind.i64.max) := by
          rw [size_str, size_str]; simp [IntKind.max, IntKind.signed, IntKind.bits]; simp at hlen; omega
        have h2 : (⟨(t.data.toList ++ t'.data.toList).toArray⟩ : ByteArray) = t ++ t' := by
          apply ByteArray.ext; simp
        simp only [binOp, Op.stringOp, h1, if_false, Sem.run_pure, h2]
      · cases hb
    all_goals (try (simp at hb; subst hb; exact ⟨_, rfl, by simp [binOp, Op.stringOp, toList_str]⟩))
    cases hb
  · cases hb

theorem run_eqGuard {op : BinOp} {T : TypeId} {rx ry : Operand} {x y z : IVal} {u v : Value} (hx : V g x u) (hy : V g y v) (hb : bin op x y = some z) : (eqGuard op T rx ry u v).run P w = .ok () w := by
  unfold bin at hb
  split at hb
  · rename_i k i k' j
    rw [hx.int_inv, hy.int_inv]
    unfold eqGuard; split <;> simp
  · obtain ⟨t, rfl, ht⟩ := hx.str_inv
    obtain ⟨t', rfl, ht'⟩ := hy.str_inv
    unfold eqGuard; split <;> simp
  · cases hb

theorem sim_bin {op : BinOp} {x y : Opd} {rx ry : Operand} {T T' : TypeId} (hop : o.op = .binOp op T rx ry T') (hx : opdOK x rx = true) (hy : opdOK y ry = true)
    (hs : stepOp cf (.bin op x y) s = some res)
    (hl : WT s.ts a.tmps) (hR : R g O (s.ts.roots a.tmps) s.σ w) : SimV P o a g O w s res := by
  simp only [stepOp] at hs
  split at hs
  · rename_i u ts h
    split at hs
    · rename_i v ts' h'
      split at hs
      · rename_i z hz
        simp only [rv, Option.some.injEq] at hs
        subst hs
        obtain ⟨h1, h2⟩ := get_sim (l := []) hx h hl hR
        obtain ⟨h3, h4⟩ := get_sim (l := [(u, a.eval rx)]) hy h' h2 h1
        obtain ⟨r, hr, hrun⟩ := run_bin (P := P) (w := w) (T := T) h1.head h3.head hz
        obtain ⟨k1, k2⟩ := plainV_V (g := g) hr
        refine SimV.same (v' := r) ?_ (h3.drop.drop.push k1 k2) h4
        simp [execOp, hop, run_eqGuard (P := P) (w := w) (T := T) (rx := rx) (ry := ry) h1.head h3.head hz, hrun]
      · cases hs
    · cases hs
  · cases hs

theorem sim_eqb {neg : Bool} {x y : Opd} {rx ry : Operand} {T T' : TypeId} (hop : o.op = .binOp (if neg then .neq else .eql) T rx ry T') (hx : opdOK x rx = true) (hy : opdOK y ry = true) (hT : P.underlying T = some .bool) (hs : stepOp cf (.eqb neg x y) s = some res)
    (hl : WT s.ts a.tmps) (hR : R g O (s.ts.roots a.tmps) s.σ w) : SimV P o a g O w s res := by
  simp only [stepOp] at hs
  split at hs
  · rename_i u ts h
    split at hs
    · rename_i v ts' h'
      simp only [rv, Option.some.injEq] at hs
      subst hs
      obtain ⟨h1, h2⟩ := get_sim (l := []) hx h hl hR
      obtain ⟨h3, h4⟩ := get_sim (l := [(.bool u, a.eval rx)]) hy h' h2 h1
      have e1 := h3.drop.head.bool_inv
      have e2 := h3.head.bool_inv
      refine SimV.same (v' := .bool ((u == v) != neg)) ?_ (h3.drop.drop.push (.bool _) rfl) h4
      have hg : ∀ op, (eqGuard op T rx ry (.bool u) (.bool v)).run P w = .ok () w := by intro op; unfold eqGuard; split <;> simp
      cases neg
      · simp only [Bool.false_eq_true, if_false] at hop
        have := run_eql_bool w T u v hT
        simp [execOp, hop, e1, e2, hg, this]
      · simp only [if_true] at hop
        have := run_neq_bool w T u v hT
        simp [execOp, hop, e1, e2, hg, this]
    · cases hs
  · cases hs

end Go.Idl
