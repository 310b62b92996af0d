/-
  Regions whose order is open, part three: what the evaluator changes.
-/
import Derived.Test.YtkjcgfadojfeeaaIdlDraw2
set_option linter.unusedSectionVars false
set_option linter.unusedVariables false
set_option linter.unusedSimpArgs false
namespace Go.Idl
variable [Globs]

theorem Same.fin {σ σ' : List IObj} {wr : List (Nat × Bool)} (h : Same σ σ' wr) : Same σ (σ'.take σ.length) (wr.filter fun p => decide (p.1 < σ.length)) := by
  intro id hid hw
  rw [List.getElem?_take, if_pos hid]
  refine h id hid fun p hp he => ?_
  exact hw p (List.mem_filter.2 ⟨hp, by simp [he, hid]⟩) he
theorem Same.filter {σ σ' : List IObj} {wr : List (Nat × Bool)} (h : Same σ σ' wr) : Same σ σ' (wr.filter fun p => decide (p.1 < σ.length)) := by
  intro id hid hw
  refine h id hid fun p hp he => ?_
  exact hw p (List.mem_filter.2 ⟨hp, by simp [he, hid]⟩) he

/-- One step more, and what it wrote. -/
def Chg (s s' : St) : Prop := ∃ wn, s'.wr = wn ++ s.wr ∧ Same s.σ s'.σ wn

theorem Chg.refl (s : St) : Chg s s := ⟨[], rfl, .refl _⟩
theorem Chg.trans {s s1 s2 : St} (h : Chg s s1) (k : Chg s1 s2) : Chg s s2 := by
  obtain ⟨w1, h1, h2⟩ := h
  obtain ⟨w2, k1, k2⟩ := k
  exact ⟨w2 ++ w1, by rw [k1, h1, List.append_assoc], h2.trans k2⟩

theorem readRes_chg : ∀ {rs : List RV} {s s' : St} {vs : List IVal}, readRes rs s = some (vs, s') → Chg s s' := by
  intro rs
  induction rs with
  | nil => intro s s' vs h; simp [readRes] at h; obtain ⟨-, rfl⟩ := h; exact .refl _
  | cons r rs ih =>
    intro s s' vs h
    cases r with
    | t i =>
      simp only [readRes] at h
      split at h
      · split at h
        · rename_i h1
          simp only [Option.some.injEq, Prod.mk.injEq] at h
          obtain ⟨-, rfl⟩ := h
          have := ih h1
          exact this
        · cases h
      · cases h
    | cell i n =>
      simp only [readRes] at h
      repeat' split at h
      all_goals first | (cases h; done) | skip
      rename_i h1
      simp only [Option.some.injEq, Prod.mk.injEq] at h
      obtain ⟨-, rfl⟩ := h
      exact Chg.trans ⟨[_], rfl, Same.set _ _ _ _⟩ (ih h1)

theorem runOps_chg {cf : CallF} (hcf : CfSame cf) : ∀ {l : List IOper} {s s' : St} {x : IExit}, runOps cf l s = some (x, s') → Chg s s' := by
  intro l
  induction l with
  | nil => intro s s' x h; simp [runOps] at h; obtain ⟨-, rfl⟩ := h; exact .refl _
  | cons o os ih =>
    intro s s' x h
    simp only [runOps] at h
    split at h
    · split at h
      · rename_i v s1 h1
        have h2 := ih h
        exact Chg.trans (s1 := s1) (stepOp_same hcf h1) h2
      · rename_i v s1 h1
        simp only [Option.some.injEq, Prod.mk.injEq] at h
        obtain ⟨-, rfl⟩ := h
        exact stepOp_same hcf h1
      · cases h
    · exact ih (s := { s with ts := putT s.ts o.dst undefI }) h
    · cases h

theorem stepD_chg {cf : CallF} (hcf : CfSame cf) {o : IOper} {s s' : St} {l : DLog} (h : stepD cf o s = some (s', l)) : s'.wr = l.wr ++ s.wr ∧ Same s.σ s'.σ l.wr := by
  simp only [stepD] at h
  split at h
  · split at h
    · split at h
      · split at h
        · rename_i hs
          obtain ⟨wn, h1, h2⟩ := stepOp_same hcf hs
          simp only [Option.some.injEq, Prod.mk.injEq] at h
          obtain ⟨rfl, rfl⟩ := h
          simp only [List.append_nil] at h1
          exact ⟨rfl, by rw [h1]; exact h2⟩
        · cases h
      · cases h
    · cases h
  · simp only [Option.some.injEq, Prod.mk.injEq] at h
    obtain ⟨rfl, rfl⟩ := h
    exact ⟨rfl, .refl _⟩
  · cases h

theorem runDraw_chg {cf : CallF} (hcf : CfSame cf) : ∀ {l : List (Nat × IOper)} {s s' : St} {ls : List (Nat × DLog)}, runDraw cf l s = some (s', ls) → Chg s s' := by
  intro l
  induction l with
  | nil => intro s s' x h; simp [runDraw] at h; obtain ⟨rfl, -⟩ := h; exact .refl _
  | cons o os ih =>
    intro s s' x h
    simp only [runDraw] at h
    split at h
    · rename_i s1 lg h1
      split at h
      · rename_i h2
        simp only [Option.some.injEq, Prod.mk.injEq] at h
        obtain ⟨rfl, -⟩ := h
        exact Chg.trans ⟨_, stepD_chg hcf h1⟩ (ih h2)
      · cases h
    · cases h

def cfOf (F : IProg) (n : Nat) : CallF := fun f args σ => match f with
  | .f f => match F f with
    | some fn => callI (eval F n) fn args σ
    | none => none
  | .y id => roundI (eval F n) id args σ

theorem shut_same : ∀ (ds : List Nat) (σ σ' : List IObj), shut σ ds = some σ' → Same σ σ' (ds.map fun id => (id, false)) := by
  intro ds
  induction ds with
  | nil => intro σ σ' h; simp [shut] at h; subst h; exact .refl _
  | cons id ds ih =>
    intro σ σ' h
    simp only [shut] at h
    split at h
    · have h3 := (Same.set σ id .dead false).trans (ih _ _ h)
      intro k hk hw
      refine h3 k hk fun p hp => hw p ?_
      simp only [List.mem_append, List.mem_singleton, List.map_cons, List.mem_cons] at hp ⊢
      rcases hp with hp | hp
      · exact .inr hp
      · exact .inl (by simpa using hp)
    · cases h

theorem fin_same {pan : Bool} {v : IVal} {σ : List IObj} {s1 : St} (h : ∃ wn, s1.wr = wn ++ [] ∧ Same σ s1.σ wn) : Same σ (finish σ.length pan v s1).σ (finish σ.length pan v s1).wr := by
  obtain ⟨wn, h1, h2⟩ := h
  simp only [List.append_nil] at h1
  subst h1
  unfold finish
  split
  · exact h2.fin
  · exact h2.filter

theorem eval_chg {F : IProg} : ∀ n, CfSame (cfOf F n) ∧ ∀ {c : ICode} {s s' : St} {x : IExit}, eval F n c s = some (x, s') → Chg s s' := by
  have hret : ∀ {σ : List IObj} {s1 : St} {res : List RV} {out : Out}, (∃ wn, s1.wr = wn ++ [] ∧ Same σ s1.σ wn) → retI σ.length res s1 = some out → Same σ out.σ out.wr := by
    intro σ s1 res out h0 h
    obtain ⟨wn, q1, q2⟩ := h0
    unfold retI at h
    split at h
    · rename_i σ1 hsh
      split at h
      · rename_i vs s' hrd
        split at h
        · simp only [Option.some.injEq] at h
          subst h
          obtain ⟨wn', k1, k2⟩ := readRes_chg hrd
          refine fin_same ⟨wn' ++ ((s1.ts.ds.map fun id => (id, false)) ++ wn), ?_, ?_⟩
          · rw [k1]; simp only; rw [q1]; simp
          · exact (q2.trans (shut_same _ _ _ hsh)).trans k2
        · cases h
      · cases h
    · cases h
  have hcall : ∀ n, (∀ {c : ICode} {s s' : St} {x : IExit}, eval F n c s = some (x, s') → Chg s s') → CfSame (cfOf F n) := by
    intro n ih f args σ out h
    unfold cfOf at h
    split at h
    · split at h
      · unfold callI at h
        repeat' split at h
        all_goals first | (cases h; done) | skip
        · rename_i h1; exact hret (ih h1) h
        · rename_i h1; exact hret (ih h1) h
        · rename_i h1 _ _
          simp only [Option.some.injEq] at h
          subst h
          exact fin_same (ih h1)
      · cases h
    · rename_i id
      unfold roundI at h
      split at h
      · split at h
        · split at h
          · rename_i s1 h1
            split at h
            · split at h
              · split at h
                · rename_i x s2 h2
                  split at h
                  · rename_i l2 _
                    have k0 : Chg { ts := ‹Ts›, σ := σ, wr := [] } s1 := ih h1
                    have k1 := ih h2
                    obtain ⟨w1, a1, a2⟩ := k0
                    obtain ⟨w2, b1, b2⟩ := k1
                    have key : ∀ (L : ILoop) (v : Bool), Same σ (finish σ.length false (.bool v) { s2 with σ := s2.σ.set id (.loop L), wr := (id, false) :: s2.wr }).σ (finish σ.length false (.bool v) { s2 with σ := s2.σ.set id (.loop L), wr := (id, false) :: s2.wr }).wr := by
                      intro L v
                      refine fin_same ⟨[(id, false)] ++ (w2 ++ ([(id, false)] ++ w1)), ?_, ?_⟩
                      · simp only [b1, a1]; simp
                      · exact ((a2.trans (Same.set _ _ _ _)).trans b2).trans (Same.set _ _ _ _)
                    split at h
                    · simp only [Option.some.injEq] at h; subst h; exact key _ _
                    · split at h
                      · simp only [Option.some.injEq] at h; subst h; exact key _ _
                      · cases h
                  · cases h
                · cases h
              · cases h
            · cases h
          · cases h
        · cases h
      · cases h
  intro n
  suffices h : ∀ {c : ICode} {s s' : St} {x : IExit}, eval F n c s = some (x, s') → Chg s s' from ⟨hcall n h, h⟩
  induction n with
  | zero => intro c s s' x h; simp [eval] at h
  | succ n ih =>
    have hcf := hcall n ih
    have hcfe : (fun (f : Cal) (args : List IVal) (σ : List IObj) => match f with
      | .f f => match F f with
        | some fn => callI (eval F n) fn args σ
        | none => none
      | .y id => roundI (eval F n) id args σ) = cfOf F n := rfl
    intro c s s' x h
    cases c <;> simp only [eval, hcfe] at h
    case ops l => exact runOps_chg hcf h
    case draw l pairs =>
      split at h
      · rename_i h1
        split at h
        · simp only [Option.some.injEq, Prod.mk.injEq] at h
          obtain ⟨-, rfl⟩ := h
          exact runDraw_chg hcf h1
        · cases h
      · cases h
    case seq a b =>
      split at h
      · rename_i h1; exact (ih h1).trans (ih h)
      · exact ih h
    case cond y a b =>
      repeat' split at h
      all_goals first | (cases h; done) | exact ih h
    case block id b =>
      split at h
      · rename_i h1
        split at h
        · simp only [Option.some.injEq, Prod.mk.injEq] at h; obtain ⟨-, rfl⟩ := h; exact ih h1
        · simp only [Option.some.injEq, Prod.mk.injEq] at h; obtain ⟨-, rfl⟩ := h; exact ih h1
      · exact ih h
    case loop b =>
      split at h
      · rename_i h1; exact (ih h1).trans (ih h)
      · exact ih h
    case scope b =>
      split at h
      · cases h
      · exact ih h
    case rangeF y ps a b =>
      split at h
      · split at h
        · rename_i v σ1 wr1 hc
          split at h
          · rename_i l hl
            have k0 := hcf (.f _) _ _ _ hc
            have k1 : ∀ (ts : Ts), Chg s { ts := ts, σ := σ1.set (s.σ.length + 1) .dead, wr := (s.σ.length + 1, false) :: (wr1 ++ s.wr) } := by
              intro ts
              refine ⟨(s.σ.length + 1, false) :: wr1, by simp, ?_⟩
              have a1 : Same s.σ (s.σ ++ [.defr, .loop ⟨0, { s.ts with t := s.ts.t.un, ds := [] }, ps, a, b, none⟩]) [] := by
                intro id hid _
                rw [List.getElem?_append_left hid]
              have := (a1.trans k0).trans (Same.set σ1 (s.σ.length + 1) .dead false)
              simpa using this
            split at h
            · cases h
            · split at h
              · simp only [Option.some.injEq, Prod.mk.injEq] at h; obtain ⟨-, rfl⟩ := h; exact k1 _
              · split at h
                · simp only [Option.some.injEq, Prod.mk.injEq] at h; obtain ⟨-, rfl⟩ := h; exact k1 _
                · cases h
          · cases h
        · cases h
      · cases h
    case stuck => cases h
    all_goals (simp only [Option.some.injEq, Prod.mk.injEq] at h; obtain ⟨-, rfl⟩ := h; exact .refl _)

end Go.Idl
