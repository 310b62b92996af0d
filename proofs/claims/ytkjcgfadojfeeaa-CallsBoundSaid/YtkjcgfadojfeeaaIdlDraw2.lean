/-
  Regions whose order is open, part two: operations that leave the store as it is; and which objects the others change.
-/
import Derived.Test.YtkjcgfadojfeeaaIdlDraw1
set_option linter.unusedSectionVars false
set_option linter.unusedVariables false
set_option linter.unusedSimpArgs false
namespace Go.Idl
variable [Globs]

theorem quiet_step {cf : CallF} {o : IOp} (hq : quiet o = true) {s : St} {r : Res} (hn : noRs o s = true) (hs : stepOp cf o s = some r) :
    r.s.σ = s.σ ∧ r.s.wr = s.wr ∧ ∀ σ2, (∀ id, rdOf o s = some id → σ2[id]? = s.σ[id]?) → stepOp cf o { s with σ := σ2 } = some { r with s := { r.s with σ := σ2 } } := by
  cases o <;> simp only [quiet, Bool.false_eq_true] at hq
  case load mvf n x =>
    simp only [Bool.not_eq_true'] at hq
    subst hq
    simp only [stepOp, rv, rdOf] at hs ⊢
    cases hx : x.get s.ts with
    | none => simp [hx] at hs
    | some p =>
      obtain ⟨v, ts⟩ := p
      cases v <;> simp [hx] at hs ⊢
      case ptr id off =>
        split at hs
        · rename_i cs hcs
          split at hs
          · simp only [Option.some.injEq] at hs; subst hs
            refine ⟨rfl, rfl, fun σ2 h2 => ?_⟩
            have : loadCell σ2 id = loadCell s.σ id := by simp [loadCell, h2]
            simp_all
          · cases hs
        · cases hs
      case pv r cs off =>
        split at hs
        · simp only [Option.some.injEq] at hs; subst hs; simp_all
        · cases hs
  case lookup kk z ok x k =>
    simp only [stepOp, rv, rdOf] at hs ⊢
    cases hx : x.get s.ts with
    | none => simp [hx] at hs
    | some p =>
      obtain ⟨v, ts⟩ := p
      cases v <;> simp [hx] at hs ⊢
      case map id =>
        refine ⟨?_, ?_, fun σ2 h2 => ?_⟩
        · repeat' split at hs
          all_goals first | (cases hs; done) | (simp only [Option.some.injEq] at hs; subst hs; rfl)
        · repeat' split at hs
          all_goals first | (cases hs; done) | (simp only [Option.some.injEq] at hs; subst hs; rfl)
        · rw [h2]
          repeat' split at hs
          all_goals first | (cases hs; done) | (simp only [Option.some.injEq] at hs; subst hs; simp_all; done)
  case lenM x =>
    simp only [stepOp, rv, rdOf] at hs ⊢
    cases hx : x.get s.ts with
    | none => simp [hx] at hs
    | some p =>
      obtain ⟨v, ts⟩ := p
      cases v <;> simp [hx] at hs ⊢
      case map id =>
        refine ⟨?_, ?_, fun σ2 h2 => ?_⟩
        · repeat' split at hs
          all_goals first | (cases hs; done) | (simp only [Option.some.injEq] at hs; subst hs; rfl)
        · repeat' split at hs
          all_goals first | (cases hs; done) | (simp only [Option.some.injEq] at hs; subst hs; rfl)
        · rw [h2]
          repeat' split at hs
          all_goals first | (cases hs; done) | (simp only [Option.some.injEq] at hs; subst hs; simp_all; done)
  case append br str esz bytes x y =>
    simp only [Bool.not_eq_true'] at hq
    subst hq
    simp only [stepOp, rv, noRs] at hs hn ⊢
    cases hx : x.get s.ts with
    | none => simp [hx] at hs
    | some p =>
      obtain ⟨v, ts⟩ := p
      simp only [hx] at hs hn
      cases hy : y.get ts with
      | none => simp [hy] at hs
      | some q =>
        obtain ⟨v2, ts2⟩ := q
        simp only [hy] at hs hn
        have he : ∀ σ2, elemsOf str esz v2 σ2 = elemsOf str esz v2 s.σ := by
          intro σ2
          cases str <;> cases v2 <;> first | rfl | simp at hn
        refine ⟨?_, ?_, fun σ2 _ => ?_⟩
        · repeat' split at hs
          all_goals first | (cases hs; done) | (simp only [Option.some.injEq] at hs; subst hs; rfl)
        · repeat' split at hs
          all_goals first | (cases hs; done) | (simp only [Option.some.injEq] at hs; subst hs; rfl)
        · simp only [hy, he σ2]
          repeat' split at hs
          all_goals first | (cases hs; done) | (simp only [Option.some.injEq] at hs; subst hs; simp_all; done)
  case minmax mx xs =>
    simp only [stepOp, rv] at hs ⊢
    cases hx : getAll xs s.ts with
    | none => simp [hx] at hs
    | some p =>
      obtain ⟨vs, ts⟩ := p
      simp only [hx] at hs
      rcases vs with _ | ⟨v, _ | ⟨v2, _ | ⟨v3, vs⟩⟩⟩
      · simp at hs
      · simp at hs
      · cases v <;> cases v2 <;> simp at hs ⊢
        obtain ⟨hk, hs⟩ := hs
        subst hs
        simp [hk]
      · simp at hs
  all_goals
    simp only [stepOp, rv] at hs ⊢
    repeat' split at hs
    all_goals first | (cases hs; done) | (simp only [Option.some.injEq] at hs; subst hs; simp_all; done)

/-! ### what is changed -/
/-- Objects that are not named stay. -/
def Same (σ σ' : List IObj) (wr : List (Nat × Bool)) : Prop := ∀ id, id < σ.length → (∀ p ∈ wr, p.1 ≠ id) → σ'[id]? = σ[id]?

theorem Same.refl (σ : List IObj) : Same σ σ [] := fun _ _ _ => rfl
theorem Same.trans {σ σ1 σ2 : List IObj} {w1 w2 : List (Nat × Bool)} (h : Same σ σ1 w1) (k : Same σ1 σ2 w2) : Same σ σ2 (w2 ++ w1) := by
  intro id hid hw
  have h1 := h id hid (fun p hp => hw p (by simp [hp]))
  have hlt : id < σ1.length := by
    rcases Nat.lt_or_ge id σ1.length with h2 | h2
    · exact h2
    · rw [List.getElem?_eq_none h2, List.getElem?_eq_getElem hid] at h1; cases h1
  rw [k id hlt (fun p hp => hw p (by simp [hp])), h1]
theorem Same.set (σ : List IObj) (i : Nat) (o : IObj) (b : Bool) : Same σ (σ.set i o) [(i, b)] := by
  intro id _ hw
  have := hw (i, b) (by simp)
  rw [List.getElem?_set_ne this]
theorem Same.push (σ : List IObj) (o : IObj) : Same σ (σ ++ [o]) [] := by
  intro id hid _
  rw [List.getElem?_append_left hid]

def CfSame (cf : CallF) : Prop := ∀ f args σ out, cf f args σ = some out → Same σ out.σ out.wr

theorem stepOp_same {cf : CallF} (hcf : CfSame cf) {o : IOp} {s : St} {r : Res} (hs : stepOp cf o s = some r) : ∃ wn, r.s.wr = wn ++ s.wr ∧ Same s.σ r.s.σ wn := by
  have hcall : ∀ f vs ts, stepCall cf f vs ts s = some r → ∃ wn, r.s.wr = wn ++ s.wr ∧ Same s.σ r.s.σ wn := by
    intro f vs ts h
    unfold stepCall at h
    split at h
    · rename_i out hout
      simp only [Option.some.injEq] at h
      subst h
      exact ⟨out.wr, rfl, hcf _ _ _ _ hout⟩
    · cases h
  cases o
  case alloc zs => simp only [stepOp, Option.some.injEq] at hs; subst hs; exact ⟨[], rfl, .push _ _⟩
  case mkMap => simp only [stepOp, Option.some.injEq] at hs; subst hs; exact ⟨[], rfl, .push _ _⟩
  case call f xs =>
    simp only [stepOp] at hs
    split at hs
    · exact hcall _ _ _ hs
    · cases hs
  case callv f xs =>
    simp only [stepOp] at hs
    split at hs
    · split at hs
      · exact hcall _ _ _ hs
      · cases hs
    · split at hs
      · exact hcall _ _ _ hs
      · cases hs
    · cases hs
  case inv tab x xs =>
    simp only [stepOp] at hs
    repeat' split at hs
    all_goals first
      | (cases hs; done)
      | exact hcall _ _ _ hs
  all_goals
    simp only [stepOp, rv, markW] at hs
    repeat' split at hs
    all_goals first
      | (cases hs; done)
      | (simp only [Option.some.injEq] at hs; subst hs; exact ⟨[], rfl, .refl _⟩)
      | (simp only [Option.some.injEq] at hs; subst hs; exact ⟨[], rfl, .push _ _⟩)
      | (simp only [Option.some.injEq] at hs; subst hs; exact ⟨[_], rfl, .set _ _ _ _⟩)

end Go.Idl

