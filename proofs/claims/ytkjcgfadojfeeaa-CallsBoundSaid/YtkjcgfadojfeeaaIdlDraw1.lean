/-
  Regions whose order is open, part one: what an operation reads.
-/
import Derived.Test.YtkjcgfadojfeeaaIdlFunc
set_option linter.unusedSectionVars false
set_option linter.unusedVariables false
set_option linter.unusedSimpArgs false
namespace Go.Idl
variable [Globs]

def plain : Opd → Bool
  | .m _ => false
  | _ => true

def plainO : Option Opd → Bool
  | some x => plain x
  | none => true

theorem plain_get {x : Opd} (h : plain x = true) {ts ts' : Ts} {v : IVal} (hg : x.get ts = some (v, ts')) : ts' = ts := by
  cases x <;> simp [plain] at h <;> simp [Opd.get] at hg
  · split at hg
    · simp at hg; exact hg.2.symm
    · cases hg
  · exact hg.2.symm

theorem getAll_cons {x : Opd} {xs : List Opd} {ts ts' : Ts} {vs : List IVal} : getAll (x :: xs) ts = some (vs, ts') ↔ ∃ v t1 ws, x.get ts = some (v, t1) ∧ getAll xs t1 = some (ws, ts') ∧ vs = v :: ws := by
  simp only [getAll]
  constructor
  · intro h
    split at h
    · rename_i v t1 hx
      split at h
      · rename_i ws t2 hxs
        simp at h
        obtain ⟨rfl, rfl⟩ := h
        exact ⟨v, t1, ws, hx, hxs, rfl⟩
      · cases h
    · cases h
  · rintro ⟨v, t1, ws, h1, h2, rfl⟩
    simp [h1, h2]

theorem getAll_nil {ts ts' : Ts} {vs : List IVal} : getAll [] ts = some (vs, ts') ↔ vs = [] ∧ ts' = ts := by
  simp only [getAll, Option.some.injEq, Prod.mk.injEq]
  exact ⟨fun h => ⟨h.1.symm, h.2.symm⟩, fun h => ⟨h.1.symm, h.2.symm⟩⟩

theorem getAll_append {xs ys : List Opd} : ∀ {ts ts' : Ts} {vs : List IVal}, getAll (xs ++ ys) ts = some (vs, ts') ↔ ∃ v1 t1 v2, getAll xs ts = some (v1, t1) ∧ getAll ys t1 = some (v2, ts') ∧ vs = v1 ++ v2 := by
  induction xs with
  | nil =>
    intro ts ts' vs
    simp only [List.nil_append, getAll_nil]
    constructor
    · intro h; exact ⟨[], ts, vs, ⟨rfl, rfl⟩, h, rfl⟩
    · rintro ⟨_, _, v2, ⟨rfl, rfl⟩, h, rfl⟩; exact h
  | cons x xs ih =>
    intro ts ts' vs
    simp only [List.cons_append, getAll_cons, ih]
    constructor
    · rintro ⟨v, t1, _, h1, ⟨v1, t2, v2, h2, h3, rfl⟩, rfl⟩; exact ⟨v :: v1, t2, v2, ⟨v, t1, v1, h1, h2, rfl⟩, h3, rfl⟩
    · rintro ⟨_, t2, v2, ⟨v, t1, v1, h1, h2, rfl⟩, h3, rfl⟩; exact ⟨v, t1, _, h1, ⟨v1, t2, v2, h2, h3, rfl⟩, rfl⟩

/-- Such an operation may stand in a region whose order is open. -/
def drawable : IOp → Bool
  | .pick _ a b => plain a && plain b
  | .sliceS _ lo hi => plainO lo && plainO hi
  | .sliceL _ _ lo hi mx => plainO lo && (plainO hi && plainO mx)
  | .extract x _ => plain x
  | .panic _ => false
  | _ => true

theorem optInt_dep {lo : Option Opd} (hp : plainO lo = true) {ts ts2 t1 t2 : Ts} {vs : List IVal} {d : Nat} (h1 : getAll lo.toList ts = some (vs, t1)) (h2 : getAll lo.toList ts2 = some (vs, t2)) :
    t1 = ts ∧ t2 = ts2 ∧ optInt lo ts2 d = optInt lo ts d := by
  cases lo with
  | none =>
    simp only [Option.toList, getAll_nil] at h1 h2
    exact ⟨h1.2, h2.2, rfl⟩
  | some x =>
    simp only [Option.toList, getAll_cons, getAll_nil] at h1 h2
    obtain ⟨v, t, ws, a1, ⟨rfl, rfl⟩, rfl⟩ := h1
    obtain ⟨v', t', ws', b1, ⟨rfl, rfl⟩, e⟩ := h2
    simp at e
    subst e
    have := plain_get hp a1
    have := plain_get hp b1
    subst t1 t2
    refine ⟨rfl, rfl, ?_⟩
    simp only [optInt, a1, b1]
    cases v <;> rfl

/-- The same values read, the same is done. -/
theorem stepOp_dep {cf : CallF} {o : IOp} (hd : drawable o = true) {s : St} {ts2 t1 t2 : Ts} {vs : List IVal} {r : Res}
    (h1 : getAll (opdsOf o) s.ts = some (vs, t1)) (h2 : getAll (opdsOf o) ts2 = some (vs, t2)) (hs : stepOp cf o s = some r) :
    r.s.ts = t1 ∧ stepOp cf o { s with ts := ts2 } = some { r with s := { r.s with ts := t2 } } := by
  cases o
  case panic => simp [drawable] at hd
  case pur k xs =>
    simp only [opdsOf] at h1 h2
    simp only [stepOp, h1, h2, rv] at hs ⊢
    split at hs
    · rename_i hp; simp only [Option.some.injEq] at hs; subst hs; simp [hp]
    · cases hs
  case mv x =>
    simp only [opdsOf, getAll_cons, getAll_nil] at h1 h2
    obtain ⟨v, t, ws, a1, ⟨rfl, rfl⟩, rfl⟩ := h1
    obtain ⟨v', t', ws', b1, ⟨rfl, rfl⟩, e⟩ := h2
    simp only [List.cons.injEq] at e
    obtain ⟨rfl, -⟩ := e
    simp only [stepOp, a1, b1, rv, markW] at hs ⊢
    repeat' split at hs
    all_goals first | (cases hs; done) | (simp only [Option.some.injEq] at hs; subst hs; simp_all; done) | (simp only [Option.some.injEq] at hs; subst hs; simp_all; obtain ⟨rfl, rfl⟩ := a2; simp_all; done)
  case box x =>
    simp only [opdsOf, getAll_cons, getAll_nil] at h1 h2
    obtain ⟨v, t, ws, a1, ⟨rfl, rfl⟩, rfl⟩ := h1
    obtain ⟨v', t', ws', b1, ⟨rfl, rfl⟩, e⟩ := h2
    simp only [List.cons.injEq] at e
    obtain ⟨rfl, -⟩ := e
    simp only [stepOp, a1, b1, rv, markW] at hs ⊢
    repeat' split at hs
    all_goals first | (cases hs; done) | (simp only [Option.some.injEq] at hs; subst hs; simp_all; done) | (simp only [Option.some.injEq] at hs; subst hs; simp_all; obtain ⟨rfl, rfl⟩ := a2; simp_all; done)
  case vOf G tab x =>
    simp only [opdsOf, getAll_cons, getAll_nil] at h1 h2
    obtain ⟨v, t, ws, a1, ⟨rfl, rfl⟩, rfl⟩ := h1
    obtain ⟨v', t', ws', b1, ⟨rfl, rfl⟩, e⟩ := h2
    simp only [List.cons.injEq] at e
    obtain ⟨rfl, -⟩ := e
    simp only [stepOp, a1, b1, rv, markW] at hs ⊢
    repeat' split at hs
    all_goals first | (cases hs; done) | (simp only [Option.some.injEq] at hs; subst hs; simp_all; done) | (simp only [Option.some.injEq] at hs; subst hs; simp_all; obtain ⟨rfl, rfl⟩ := a2; simp_all; done)
  case boxv x =>
    simp only [opdsOf, getAll_cons, getAll_nil] at h1 h2
    obtain ⟨v, t, ws, a1, ⟨rfl, rfl⟩, rfl⟩ := h1
    obtain ⟨v', t', ws', b1, ⟨rfl, rfl⟩, e⟩ := h2
    simp only [List.cons.injEq] at e
    obtain ⟨rfl, -⟩ := e
    simp only [stepOp, a1, b1, rv, markW] at hs ⊢
    repeat' split at hs
    all_goals first | (cases hs; done) | (simp only [Option.some.injEq] at hs; subst hs; simp_all; done) | (simp only [Option.some.injEq] at hs; subst hs; simp_all; obtain ⟨rfl, rfl⟩ := a2; simp_all; done)
  case load mvf n x =>
    simp only [opdsOf, getAll_cons, getAll_nil] at h1 h2
    obtain ⟨v, t, ws, a1, ⟨rfl, rfl⟩, rfl⟩ := h1
    obtain ⟨v', t', ws', b1, ⟨rfl, rfl⟩, e⟩ := h2
    simp only [List.cons.injEq] at e
    obtain ⟨rfl, -⟩ := e
    simp only [stepOp, a1, b1, rv, markW] at hs ⊢
    repeat' split at hs
    all_goals first | (cases hs; done) | (simp only [Option.some.injEq] at hs; subst hs; simp_all; done) | (simp only [Option.some.injEq] at hs; subst hs; simp_all; obtain ⟨rfl, rfl⟩ := a2; simp_all; done)
  case nilCheck x =>
    simp only [opdsOf, getAll_cons, getAll_nil] at h1 h2
    obtain ⟨v, t, ws, a1, ⟨rfl, rfl⟩, rfl⟩ := h1
    obtain ⟨v', t', ws', b1, ⟨rfl, rfl⟩, e⟩ := h2
    simp only [List.cons.injEq] at e
    obtain ⟨rfl, -⟩ := e
    simp only [stepOp, a1, b1, rv, markW] at hs ⊢
    repeat' split at hs
    all_goals first | (cases hs; done) | (simp only [Option.some.injEq] at hs; subst hs; simp_all; done) | (simp only [Option.some.injEq] at hs; subst hs; simp_all; obtain ⟨rfl, rfl⟩ := a2; simp_all; done)
  case isnil neg k x =>
    simp only [opdsOf, getAll_cons, getAll_nil] at h1 h2
    obtain ⟨v, t, ws, a1, ⟨rfl, rfl⟩, rfl⟩ := h1
    obtain ⟨v', t', ws', b1, ⟨rfl, rfl⟩, e⟩ := h2
    simp only [List.cons.injEq] at e
    obtain ⟨rfl, -⟩ := e
    simp only [stepOp, a1, b1, rv, markW] at hs ⊢
    repeat' split at hs
    all_goals first | (cases hs; done) | (simp only [Option.some.injEq] at hs; subst hs; simp_all; done) | (simp only [Option.some.injEq] at hs; subst hs; simp_all; obtain ⟨rfl, rfl⟩ := a2; simp_all; done)
  case un op x =>
    simp only [opdsOf, getAll_cons, getAll_nil] at h1 h2
    obtain ⟨v, t, ws, a1, ⟨rfl, rfl⟩, rfl⟩ := h1
    obtain ⟨v', t', ws', b1, ⟨rfl, rfl⟩, e⟩ := h2
    simp only [List.cons.injEq] at e
    obtain ⟨rfl, -⟩ := e
    simp only [stepOp, a1, b1, rv, markW] at hs ⊢
    repeat' split at hs
    all_goals first | (cases hs; done) | (simp only [Option.some.injEq] at hs; subst hs; simp_all; done) | (simp only [Option.some.injEq] at hs; subst hs; simp_all; obtain ⟨rfl, rfl⟩ := a2; simp_all; done)
  case conv c x =>
    simp only [opdsOf, getAll_cons, getAll_nil] at h1 h2
    obtain ⟨v, t, ws, a1, ⟨rfl, rfl⟩, rfl⟩ := h1
    obtain ⟨v', t', ws', b1, ⟨rfl, rfl⟩, e⟩ := h2
    simp only [List.cons.injEq] at e
    obtain ⟨rfl, -⟩ := e
    simp only [stepOp, a1, b1, rv, markW] at hs ⊢
    repeat' split at hs
    all_goals first | (cases hs; done) | (simp only [Option.some.injEq] at hs; subst hs; simp_all; done) | (simp only [Option.some.injEq] at hs; subst hs; simp_all; obtain ⟨rfl, rfl⟩ := a2; simp_all; done)
  case mkIface ty x =>
    simp only [opdsOf, getAll_cons, getAll_nil] at h1 h2
    obtain ⟨v, t, ws, a1, ⟨rfl, rfl⟩, rfl⟩ := h1
    obtain ⟨v', t', ws', b1, ⟨rfl, rfl⟩, e⟩ := h2
    simp only [List.cons.injEq] at e
    obtain ⟨rfl, -⟩ := e
    simp only [stepOp, a1, b1, rv, markW] at hs ⊢
    repeat' split at hs
    all_goals first | (cases hs; done) | (simp only [Option.some.injEq] at hs; subst hs; simp_all; done) | (simp only [Option.some.injEq] at hs; subst hs; simp_all; obtain ⟨rfl, rfl⟩ := a2; simp_all; done)
  case fieldAddr o x =>
    simp only [opdsOf, getAll_cons, getAll_nil] at h1 h2
    obtain ⟨v, t, ws, a1, ⟨rfl, rfl⟩, rfl⟩ := h1
    obtain ⟨v', t', ws', b1, ⟨rfl, rfl⟩, e⟩ := h2
    simp only [List.cons.injEq] at e
    obtain ⟨rfl, -⟩ := e
    simp only [stepOp, a1, b1, rv, markW] at hs ⊢
    repeat' split at hs
    all_goals first | (cases hs; done) | (simp only [Option.some.injEq] at hs; subst hs; simp_all; done) | (simp only [Option.some.injEq] at hs; subst hs; simp_all; obtain ⟨rfl, rfl⟩ := a2; simp_all; done)
  case field o n x =>
    simp only [opdsOf, getAll_cons, getAll_nil] at h1 h2
    obtain ⟨v, t, ws, a1, ⟨rfl, rfl⟩, rfl⟩ := h1
    obtain ⟨v', t', ws', b1, ⟨rfl, rfl⟩, e⟩ := h2
    simp only [List.cons.injEq] at e
    obtain ⟨rfl, -⟩ := e
    simp only [stepOp, a1, b1, rv, markW] at hs ⊢
    repeat' split at hs
    all_goals first | (cases hs; done) | (simp only [Option.some.injEq] at hs; subst hs; simp_all; done) | (simp only [Option.some.injEq] at hs; subst hs; simp_all; obtain ⟨rfl, rfl⟩ := a2; simp_all; done)
  case lenS x =>
    simp only [opdsOf, getAll_cons, getAll_nil] at h1 h2
    obtain ⟨v, t, ws, a1, ⟨rfl, rfl⟩, rfl⟩ := h1
    obtain ⟨v', t', ws', b1, ⟨rfl, rfl⟩, e⟩ := h2
    simp only [List.cons.injEq] at e
    obtain ⟨rfl, -⟩ := e
    simp only [stepOp, a1, b1, rv, markW] at hs ⊢
    repeat' split at hs
    all_goals first | (cases hs; done) | (simp only [Option.some.injEq] at hs; subst hs; simp_all; done) | (simp only [Option.some.injEq] at hs; subst hs; simp_all; obtain ⟨rfl, rfl⟩ := a2; simp_all; done)
  case lenL x =>
    simp only [opdsOf, getAll_cons, getAll_nil] at h1 h2
    obtain ⟨v, t, ws, a1, ⟨rfl, rfl⟩, rfl⟩ := h1
    obtain ⟨v', t', ws', b1, ⟨rfl, rfl⟩, e⟩ := h2
    simp only [List.cons.injEq] at e
    obtain ⟨rfl, -⟩ := e
    simp only [stepOp, a1, b1, rv, markW] at hs ⊢
    repeat' split at hs
    all_goals first | (cases hs; done) | (simp only [Option.some.injEq] at hs; subst hs; simp_all; done) | (simp only [Option.some.injEq] at hs; subst hs; simp_all; obtain ⟨rfl, rfl⟩ := a2; simp_all; done)
  case lenM x =>
    simp only [opdsOf, getAll_cons, getAll_nil] at h1 h2
    obtain ⟨v, t, ws, a1, ⟨rfl, rfl⟩, rfl⟩ := h1
    obtain ⟨v', t', ws', b1, ⟨rfl, rfl⟩, e⟩ := h2
    simp only [List.cons.injEq] at e
    obtain ⟨rfl, -⟩ := e
    simp only [stepOp, a1, b1, rv, markW] at hs ⊢
    repeat' split at hs
    all_goals first | (cases hs; done) | (simp only [Option.some.injEq] at hs; subst hs; simp_all; done) | (simp only [Option.some.injEq] at hs; subst hs; simp_all; obtain ⟨rfl, rfl⟩ := a2; simp_all; done)
  case vSet G tab x y =>
    simp only [opdsOf, getAll_cons, getAll_nil] at h1 h2
    obtain ⟨v, t, ws, a1, ⟨v2, t3, ws2, a2, ⟨rfl, rfl⟩, rfl⟩, rfl⟩ := h1
    obtain ⟨v', t', ws', b1, ⟨v2', t3', ws2', b2, ⟨rfl, rfl⟩, rfl⟩, e⟩ := h2
    simp only [List.cons.injEq] at e
    obtain ⟨rfl, rfl, -⟩ := e
    simp only [stepOp, a1, b1, markW] at hs ⊢
    split at hs
    · rename_i e1
      simp only [Option.some.injEq, Prod.mk.injEq] at e1
      obtain ⟨rfl, rfl⟩ := e1
      simp only [a2, b2] at hs ⊢
      split at hs
      · rename_i e2
        simp only [Option.some.injEq, Prod.mk.injEq] at e2
        obtain ⟨rfl, rfl⟩ := e2
        split at hs
        · rename_i q1 q2
          simp only [q1, q2] at hs ⊢
          split at hs
          · rename_i q3
            rw [if_pos q3]
            split at hs
            · rename_i q4
              split at hs
              · rename_i q5
                rw [if_pos q5]
                simp only [Option.some.injEq] at hs; subst hs; exact ⟨rfl, rfl⟩
              · cases hs
            · cases hs
          · cases hs
        · cases hs
      · cases hs
    · cases hs
  case store n x y =>
    simp only [opdsOf, getAll_cons, getAll_nil] at h1 h2
    obtain ⟨v, t, ws, a1, ⟨v2, t3, ws2, a2, ⟨rfl, rfl⟩, rfl⟩, rfl⟩ := h1
    obtain ⟨v', t', ws', b1, ⟨v2', t3', ws2', b2, ⟨rfl, rfl⟩, rfl⟩, e⟩ := h2
    simp only [List.cons.injEq] at e
    obtain ⟨rfl, rfl, -⟩ := e
    simp only [stepOp, a1, b1, a2, b2, rv, markW] at hs ⊢
    repeat' split at hs
    all_goals first | (cases hs; done) | (simp only [Option.some.injEq] at hs; subst hs; simp_all; done) | (simp only [Option.some.injEq] at hs; subst hs; simp_all; obtain ⟨rfl, rfl⟩ := a2; simp_all; done)
  case bin op x y =>
    simp only [opdsOf, getAll_cons, getAll_nil] at h1 h2
    obtain ⟨v, t, ws, a1, ⟨v2, t3, ws2, a2, ⟨rfl, rfl⟩, rfl⟩, rfl⟩ := h1
    obtain ⟨v', t', ws', b1, ⟨v2', t3', ws2', b2, ⟨rfl, rfl⟩, rfl⟩, e⟩ := h2
    simp only [List.cons.injEq] at e
    obtain ⟨rfl, rfl, -⟩ := e
    simp only [stepOp, a1, b1, a2, b2, rv, markW] at hs ⊢
    repeat' split at hs
    all_goals first | (cases hs; done) | (simp only [Option.some.injEq] at hs; subst hs; simp_all; done) | (simp only [Option.some.injEq] at hs; subst hs; simp_all; obtain ⟨rfl, rfl⟩ := a2; simp_all; done)
  case eqa neg x y =>
    simp only [opdsOf, getAll_cons, getAll_nil] at h1 h2
    obtain ⟨v, t, ws, a1, ⟨v2, t3, ws2, a2, ⟨rfl, rfl⟩, rfl⟩, rfl⟩ := h1
    obtain ⟨v', t', ws', b1, ⟨v2', t3', ws2', b2, ⟨rfl, rfl⟩, rfl⟩, e⟩ := h2
    simp only [List.cons.injEq] at e
    obtain ⟨rfl, rfl, -⟩ := e
    simp only [stepOp, a1, b1, a2, b2, rv, markW] at hs ⊢
    repeat' split at hs
    all_goals first | (cases hs; done) | (simp only [Option.some.injEq] at hs; subst hs; simp_all; done) | (simp only [Option.some.injEq] at hs; subst hs; simp_all; obtain ⟨rfl, rfl⟩ := a2; simp_all; done)
  case eqb neg x y =>
    simp only [opdsOf, getAll_cons, getAll_nil] at h1 h2
    obtain ⟨v, t, ws, a1, ⟨v2, t3, ws2, a2, ⟨rfl, rfl⟩, rfl⟩, rfl⟩ := h1
    obtain ⟨v', t', ws', b1, ⟨v2', t3', ws2', b2, ⟨rfl, rfl⟩, rfl⟩, e⟩ := h2
    simp only [List.cons.injEq] at e
    obtain ⟨rfl, rfl, -⟩ := e
    simp only [stepOp, a1, b1, a2, b2, rv, markW] at hs ⊢
    repeat' split at hs
    all_goals first | (cases hs; done) | (simp only [Option.some.injEq] at hs; subst hs; simp_all; done) | (simp only [Option.some.injEq] at hs; subst hs; simp_all; obtain ⟨rfl, rfl⟩ := a2; simp_all; done)
  case mkSl br esz bytes zs x y =>
    simp only [opdsOf, getAll_cons, getAll_nil] at h1 h2
    obtain ⟨v, t, ws, a1, ⟨v2, t3, ws2, a2, ⟨rfl, rfl⟩, rfl⟩, rfl⟩ := h1
    obtain ⟨v', t', ws', b1, ⟨v2', t3', ws2', b2, ⟨rfl, rfl⟩, rfl⟩, e⟩ := h2
    simp only [List.cons.injEq] at e
    obtain ⟨rfl, rfl, -⟩ := e
    simp only [stepOp, a1, b1, a2, b2, rv, markW] at hs ⊢
    repeat' split at hs
    all_goals first | (cases hs; done) | (simp only [Option.some.injEq] at hs; subst hs; simp_all; done) | (simp only [Option.some.injEq] at hs; subst hs; simp_all; obtain ⟨rfl, rfl⟩ := a2; simp_all; done)
  case idxAddr esz x y =>
    simp only [opdsOf, getAll_cons, getAll_nil] at h1 h2
    obtain ⟨v, t, ws, a1, ⟨v2, t3, ws2, a2, ⟨rfl, rfl⟩, rfl⟩, rfl⟩ := h1
    obtain ⟨v', t', ws', b1, ⟨v2', t3', ws2', b2, ⟨rfl, rfl⟩, rfl⟩, e⟩ := h2
    simp only [List.cons.injEq] at e
    obtain ⟨rfl, rfl, -⟩ := e
    simp only [stepOp, a1, b1, a2, b2, rv, markW] at hs ⊢
    repeat' split at hs
    all_goals first | (cases hs; done) | (simp only [Option.some.injEq] at hs; subst hs; simp_all; done) | (simp only [Option.some.injEq] at hs; subst hs; simp_all; obtain ⟨rfl, rfl⟩ := a2; simp_all; done)
  case idxAddrA len esz x y =>
    simp only [opdsOf, getAll_cons, getAll_nil] at h1 h2
    obtain ⟨v, t, ws, a1, ⟨v2, t3, ws2, a2, ⟨rfl, rfl⟩, rfl⟩, rfl⟩ := h1
    obtain ⟨v', t', ws', b1, ⟨v2', t3', ws2', b2, ⟨rfl, rfl⟩, rfl⟩, e⟩ := h2
    simp only [List.cons.injEq] at e
    obtain ⟨rfl, rfl, -⟩ := e
    simp only [stepOp, a1, b1, a2, b2, rv, markW] at hs ⊢
    repeat' split at hs
    all_goals first | (cases hs; done) | (simp only [Option.some.injEq] at hs; subst hs; simp_all; done) | (simp only [Option.some.injEq] at hs; subst hs; simp_all; obtain ⟨rfl, rfl⟩ := a2; simp_all; done)
  case idxS x y =>
    simp only [opdsOf, getAll_cons, getAll_nil] at h1 h2
    obtain ⟨v, t, ws, a1, ⟨v2, t3, ws2, a2, ⟨rfl, rfl⟩, rfl⟩, rfl⟩ := h1
    obtain ⟨v', t', ws', b1, ⟨v2', t3', ws2', b2, ⟨rfl, rfl⟩, rfl⟩, e⟩ := h2
    simp only [List.cons.injEq] at e
    obtain ⟨rfl, rfl, -⟩ := e
    simp only [stepOp, a1, b1, a2, b2, rv, markW] at hs ⊢
    repeat' split at hs
    all_goals first | (cases hs; done) | (simp only [Option.some.injEq] at hs; subst hs; simp_all; done) | (simp only [Option.some.injEq] at hs; subst hs; simp_all; obtain ⟨rfl, rfl⟩ := a2; simp_all; done)
  case idxA len esz n x y =>
    simp only [opdsOf, getAll_cons, getAll_nil] at h1 h2
    obtain ⟨v, t, ws, a1, ⟨v2, t3, ws2, a2, ⟨rfl, rfl⟩, rfl⟩, rfl⟩ := h1
    obtain ⟨v', t', ws', b1, ⟨v2', t3', ws2', b2, ⟨rfl, rfl⟩, rfl⟩, e⟩ := h2
    simp only [List.cons.injEq] at e
    obtain ⟨rfl, rfl, -⟩ := e
    simp only [stepOp, a1, b1, a2, b2, rv, markW] at hs ⊢
    repeat' split at hs
    all_goals first | (cases hs; done) | (simp only [Option.some.injEq] at hs; subst hs; simp_all; done) | (simp only [Option.some.injEq] at hs; subst hs; simp_all; obtain ⟨rfl, rfl⟩ := a2; simp_all; done)
  case lookup kk z ok x y =>
    simp only [opdsOf, getAll_cons, getAll_nil] at h1 h2
    obtain ⟨v, t, ws, a1, ⟨v2, t3, ws2, a2, ⟨rfl, rfl⟩, rfl⟩, rfl⟩ := h1
    obtain ⟨v', t', ws', b1, ⟨v2', t3', ws2', b2, ⟨rfl, rfl⟩, rfl⟩, e⟩ := h2
    simp only [List.cons.injEq] at e
    obtain ⟨rfl, rfl, -⟩ := e
    simp only [stepOp, a1, b1, a2, b2, rv, markW] at hs ⊢
    repeat' split at hs
    all_goals first | (cases hs; done) | (simp only [Option.some.injEq] at hs; subst hs; simp_all; done) | (simp only [Option.some.injEq] at hs; subst hs; simp_all; obtain ⟨rfl, rfl⟩ := a2; simp_all; done)
  case append br str esz bytes x y =>
    simp only [opdsOf, getAll_cons, getAll_nil] at h1 h2
    obtain ⟨v, t, ws, a1, ⟨v2, t3, ws2, a2, ⟨rfl, rfl⟩, rfl⟩, rfl⟩ := h1
    obtain ⟨v', t', ws', b1, ⟨v2', t3', ws2', b2, ⟨rfl, rfl⟩, rfl⟩, e⟩ := h2
    simp only [List.cons.injEq] at e
    obtain ⟨rfl, rfl, -⟩ := e
    simp only [stepOp, a1, b1, a2, b2, rv, markW] at hs ⊢
    repeat' split at hs
    all_goals first | (cases hs; done) | (simp only [Option.some.injEq] at hs; subst hs; simp_all; done) | (simp only [Option.some.injEq] at hs; subst hs; simp_all; obtain ⟨rfl, rfl⟩ := a2; simp_all; done)
  case copy str esz x y =>
    simp only [opdsOf, getAll_cons, getAll_nil] at h1 h2
    obtain ⟨v, t, ws, a1, ⟨v2, t3, ws2, a2, ⟨rfl, rfl⟩, rfl⟩, rfl⟩ := h1
    obtain ⟨v', t', ws', b1, ⟨v2', t3', ws2', b2, ⟨rfl, rfl⟩, rfl⟩, e⟩ := h2
    simp only [List.cons.injEq] at e
    obtain ⟨rfl, rfl, -⟩ := e
    cases v <;> simp [stepOp, a1, b1, a2, b2, rv, markW] at hs ⊢
    split at hs
    · split at hs
      · rename_i hc
        obtain ⟨rfl, hc2⟩ := hc
        simp only [Option.some.injEq] at hs; subst hs; simp_all
      · cases hs
    · cases hs
  case mapSet kk x y z =>
    simp only [opdsOf, getAll_cons, getAll_nil] at h1 h2
    obtain ⟨v, t, ws, a1, ⟨v2, t3, ws2, a2, ⟨v3, t4, ws3, a3, ⟨rfl, rfl⟩, rfl⟩, rfl⟩, rfl⟩ := h1
    obtain ⟨v', t', ws', b1, ⟨v2', t3', ws2', b2, ⟨v3', t4', ws3', b3, ⟨rfl, rfl⟩, rfl⟩, rfl⟩, e⟩ := h2
    simp only [List.cons.injEq] at e
    obtain ⟨rfl, rfl, rfl, -⟩ := e
    cases v <;> simp [stepOp, a1, b1, a2, b2, a3, b3, rv] at hs ⊢
    split at hs
    · split at hs
      · split at hs
        · simp only [Option.some.injEq] at hs; subst hs; simp_all
        · cases hs
      · cases hs
    · cases hs
  case build zs parts =>
    simp only [opdsOf] at h1 h2
    simp only [stepOp, h1, h2, rv, stepCall, addOut] at hs ⊢
    repeat' split at hs
    all_goals first | (cases hs; done) | (simp only [Option.some.injEq] at hs; subst hs; simp_all; done) | (simp only [Option.some.injEq] at hs; subst hs; simp_all; obtain ⟨rfl, rfl⟩ := a2; simp_all; done)
  case buildSl esz xs =>
    simp only [opdsOf] at h1 h2
    simp only [stepOp, h1, h2, rv, stepCall, addOut] at hs ⊢
    repeat' split at hs
    all_goals first | (cases hs; done) | (simp only [Option.some.injEq] at hs; subst hs; simp_all; done) | (simp only [Option.some.injEq] at hs; subst hs; simp_all; obtain ⟨rfl, rfl⟩ := a2; simp_all; done)
  case buildRs esz xs =>
    simp only [opdsOf] at h1 h2
    simp only [stepOp, h1, h2, rv, stepCall, addOut] at hs ⊢
    repeat' split at hs
    all_goals first | (cases hs; done) | (simp only [Option.some.injEq] at hs; subst hs; simp_all; done) | (simp only [Option.some.injEq] at hs; subst hs; simp_all; obtain ⟨rfl, rfl⟩ := a2; simp_all; done)
  case minmax mx xs =>
    simp only [opdsOf] at h1 h2
    revert h1 h2 hs
    rcases vs with _ | ⟨v, _ | ⟨v2, _ | ⟨v3, vs⟩⟩⟩ <;> intro h1 h2 hs
    · simp [stepOp, h1] at hs
    · simp [stepOp, h1] at hs
    · cases v <;> cases v2 <;> simp [stepOp, h1, h2, rv] at hs ⊢
      obtain ⟨hk, hs⟩ := hs
      subst hs
      simp [hk]
    · simp [stepOp, h1] at hs
  case call f xs =>
    simp only [opdsOf] at h1 h2
    simp only [stepOp, h1, h2, rv, stepCall, addOut] at hs ⊢
    repeat' split at hs
    all_goals first | (cases hs; done) | (simp only [Option.some.injEq] at hs; subst hs; simp_all; done) | (simp only [Option.some.injEq] at hs; subst hs; simp_all; obtain ⟨rfl, rfl⟩ := a2; simp_all; done)
  case callp f xs =>
    simp only [opdsOf] at h1 h2
    simp only [stepOp, h1, h2, rv, stepCall, addOut] at hs ⊢
    repeat' split at hs
    all_goals first | (cases hs; done) | (simp only [Option.some.injEq] at hs; subst hs; simp_all; done) | (simp only [Option.some.injEq] at hs; subst hs; simp_all; obtain ⟨rfl, rfl⟩ := a2; simp_all; done)
  case alloc zs =>
    simp only [opdsOf, getAll_nil] at h1 h2
    simp only [stepOp, Option.some.injEq] at hs ⊢
    subst hs
    simp [h1.2, h2.2]
  case mkMap =>
    simp only [opdsOf, getAll_nil] at h1 h2
    simp only [stepOp, Option.some.injEq] at hs ⊢
    subst hs
    simp [h1.2, h2.2]
  case extract x i =>
    simp only [opdsOf, getAll_cons, getAll_nil] at h1 h2
    obtain ⟨v, t, ws, a1, ⟨rfl, rfl⟩, rfl⟩ := h1
    obtain ⟨v', t', ws', b1, ⟨rfl, rfl⟩, e⟩ := h2
    simp only [List.cons.injEq] at e
    obtain ⟨rfl, -⟩ := e
    simp only [drawable] at hd
    cases v <;> simp [stepOp, a1, b1, rv] at hs ⊢
    split at hs
    · cases x <;> simp [plain] at hd hs ⊢ <;> (subst hs; simp_all)
    · cases hs
  case pick c x y =>
    simp only [opdsOf, getAll_cons, getAll_nil] at h1 h2
    obtain ⟨v, t, ws, a1, ⟨v2, t3, ws2, a2, ⟨v3, t4, ws3, a3, ⟨rfl, rfl⟩, rfl⟩, rfl⟩, rfl⟩ := h1
    obtain ⟨v', t', ws', b1, ⟨v2', t3', ws2', b2, ⟨v3', t4', ws3', b3, ⟨rfl, rfl⟩, rfl⟩, rfl⟩, e⟩ := h2
    simp only [List.cons.injEq] at e
    obtain ⟨rfl, rfl, rfl, -⟩ := e
    simp only [drawable, Bool.and_eq_true] at hd
    have p1 := plain_get hd.1 a2
    have p2 := plain_get hd.1 b2
    subst p1 p2
    have p1 := plain_get hd.2 a3
    have p2 := plain_get hd.2 b3
    subst p1 p2
    cases v with
    | bool b => cases b <;> simp [stepOp, a1, b1, a2, b2, a3, b3, rv] at hs ⊢ <;> (subst hs; simp)
    | _ => simp [stepOp, a1] at hs
  case mkFn f xs ys =>
    simp only [opdsOf, getAll_append] at h1 h2
    obtain ⟨v1, u1, v2, a1, a2, rfl⟩ := h1
    obtain ⟨v1', u1', v2', b1, b2, e⟩ := h2
    have hl : v1.length = v1'.length := by rw [getAll_len a1, getAll_len b1]
    obtain ⟨rfl, rfl⟩ := List.append_inj e hl
    simp only [stepOp, a1, b1, a2, b2, rv] at hs ⊢
    split at hs
    · rename_i hc
      simp only [Option.some.injEq] at hs
      subst hs
      simp [hc]
    · cases hs
  case inv tab x xs =>
    simp only [opdsOf, getAll_cons] at h1 h2
    obtain ⟨v, t, ws, a1, a2, rfl⟩ := h1
    obtain ⟨v', t', ws', b1, b2, e⟩ := h2
    simp only [List.cons.injEq] at e
    obtain ⟨rfl, rfl⟩ := e
    simp only [stepOp, a1, b1, stepCall, addOut] at hs ⊢
    repeat' split at hs
    all_goals first | (cases hs; done) | (simp only [Option.some.injEq] at hs; subst hs; simp_all; done)
  case callv f xs =>
    simp only [opdsOf, getAll_cons] at h1 h2
    obtain ⟨v, t, ws, a1, a2, rfl⟩ := h1
    obtain ⟨v', t', ws', b1, b2, e⟩ := h2
    simp only [List.cons.injEq] at e
    obtain ⟨rfl, rfl⟩ := e
    cases v with
    | fn gf us vs =>
      cases gf <;> simp [stepOp, a1, b1, a2, b2, stepCall, addOut] at hs ⊢
      split at hs
      · rename_i hc
        simp only [Option.some.injEq] at hs
        subst hs
        simp [hc]
      · cases hs
    | yl id =>
      simp [stepOp, a1, b1, a2, b2, stepCall, addOut] at hs ⊢
      split at hs
      · rename_i hc
        simp only [Option.some.injEq] at hs
        subst hs
        simp [hc]
      · cases hs
    | _ => simp [stepOp, a1] at hs
  case sliceS x lo hi =>
    simp only [opdsOf, getAll_cons, getAll_append] at h1 h2
    obtain ⟨v, t, ws, a1, ⟨w1, t3, w2, a2, a3, rfl⟩, rfl⟩ := h1
    obtain ⟨v', t', ws', b1, ⟨w1', t3', w2', b2, b3, rfl⟩, e⟩ := h2
    simp only [List.cons.injEq] at e
    obtain ⟨rfl, e⟩ := e
    obtain ⟨rfl, rfl⟩ := List.append_inj e (by rw [getAll_len a2, getAll_len b2])
    simp only [drawable, Bool.and_eq_true] at hd
    cases v with
    | str b =>
      obtain ⟨rfl, rfl, q1⟩ := optInt_dep (d := 0) hd.1 a2 b2
      obtain ⟨rfl, rfl, q2⟩ := optInt_dep (d := b.length) hd.2 a3 b3
      simp only [stepOp, a1, b1, rv, q1, q2] at hs ⊢
      split at hs
      · split at hs
        · simp only [Option.some.injEq] at hs; subst hs; simp_all
        · cases hs
      · cases hs
    | _ => simp [stepOp, a1] at hs
  case sliceL esz x lo hi mx =>
    simp only [opdsOf, getAll_cons, getAll_append] at h1 h2
    obtain ⟨v, t, ws, a1, ⟨w1, t3, _, a2, ⟨w2, t4, w3, a3, a4, rfl⟩, rfl⟩, rfl⟩ := h1
    obtain ⟨v', t', ws', b1, ⟨w1', t3', _, b2, ⟨w2', t4', w3', b3, b4, rfl⟩, rfl⟩, e⟩ := h2
    simp only [List.cons.injEq] at e
    obtain ⟨rfl, e⟩ := e
    obtain ⟨rfl, e2⟩ := List.append_inj e (by rw [getAll_len a2, getAll_len b2])
    obtain ⟨rfl, rfl⟩ := List.append_inj e2 (by rw [getAll_len a3, getAll_len b3])
    simp only [drawable, Bool.and_eq_true] at hd
    cases v with
    | sl own r xs =>
      obtain ⟨rfl, rfl, q1⟩ := optInt_dep (d := 0) hd.1 a2 b2
      obtain ⟨rfl, rfl, q2⟩ := optInt_dep (d := xs.length) hd.2.1 a3 b3
      obtain ⟨rfl, rfl, q3⟩ := optInt_dep (d := xs.length) hd.2.2 a4 b4
      simp only [stepOp, a1, b1, rv, q1, q2, q3] at hs ⊢
      repeat' split at hs
      all_goals first | (cases hs; done) | (simp only [Option.some.injEq] at hs; subst hs; simp_all; done)
    | rs e id off len =>
      obtain ⟨rfl, rfl, q1⟩ := optInt_dep (d := 0) hd.1 a2 b2
      obtain ⟨rfl, rfl, q2⟩ := optInt_dep (d := len) hd.2.1 a3 b3
      obtain ⟨rfl, rfl, q3⟩ := optInt_dep (d := len) hd.2.2 a4 b4
      simp only [stepOp, a1, b1, rv, q1, q2] at hs ⊢
      repeat' split at hs
      all_goals first | (cases hs; done) | (simp only [Option.some.injEq] at hs; subst hs; simp_all; done)
    | _ => simp [stepOp, a1] at hs

end Go.Idl
