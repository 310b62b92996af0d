/-
  More fuel changes nothing.
-/
import Derived.Test.YtkjcgfadojfeeaaIdlTop
set_option linter.unusedSectionVars false
set_option linter.unusedVariables false
set_option linter.unusedSimpArgs false
namespace Go.Idl

def CfLe (a b : CallF) : Prop := ∀ f args σ o, a f args σ = some o → b f args σ = some o
def EvLe (a b : ICode → St → Option (IExit × St)) : Prop := ∀ c s r, a c s = some r → b c s = some r

theorem stepCall_le {a b : CallF} (h : CfLe a b) {f : Cal} {vs : List IVal} {ts : Ts} {s : St} {r : Res} (hs : stepCall a f vs ts s = some r) : stepCall b f vs ts s = some r := by
  unfold stepCall at hs ⊢
  split at hs
  · rename_i o ho
    rw [h _ _ _ _ ho]; exact hs
  · cases hs

theorem stepOp_le {a b : CallF} (h : CfLe a b) {o : IOp} {s : St} {r : Res} (hs : stepOp a o s = some r) : stepOp b o s = some r := by
  cases o
  case call f xs =>
    simp only [stepOp] at hs ⊢
    split at hs
    · exact stepCall_le h hs
    · cases hs
  case callp f xs =>
    simp only [stepOp] at hs ⊢
    split at hs
    · split at hs
      · rename_i hn
        rw [if_pos hn]
        split at hs
        · rename_i ho
          rw [h _ _ _ _ ho]; exact hs
        · cases hs
      · cases hs
    · cases hs
  case callv f xs =>
    simp only [stepOp] at hs ⊢
    split at hs
    · split at hs
      · exact stepCall_le h hs
      · cases hs
    · split at hs
      · exact stepCall_le h hs
      · cases hs
    · cases hs
  case inv tab x xs =>
    simp only [stepOp] at hs ⊢
    split at hs
    · split at hs
      · split at hs
        · split at hs
          · exact stepCall_le h hs
          · cases hs
        · cases hs
      · cases hs
    · cases hs
  all_goals exact hs

theorem runOps_le {a b : CallF} (h : CfLe a b) : ∀ {l : List IOper} {s : St} {r : IExit × St}, runOps a l s = some r → runOps b l s = some r := by
  intro l
  induction l with
  | nil => intro s r hr; exact hr
  | cons o l ih =>
    intro s r hr
    simp only [runOps] at hr ⊢
    split at hr
    · split at hr
      · rename_i hs; rw [stepOp_le h hs]; exact ih hr
      · rename_i hs; rw [stepOp_le h hs]; exact hr
      · cases hr
    · exact ih hr
    · cases hr

theorem callI_le {a b : ICode → St → Option (IExit × St)} (h : EvLe a b) {fn : IFunc} {args : List IVal} {σ : List IObj} {o : Out} (ho : callI a fn args σ = some o) : callI b fn args σ = some o := by
  unfold callI at ho ⊢
  split at ho
  · rename_i e; rw [h _ _ _ e]; exact ho
  · rename_i e; rw [h _ _ _ e]; exact ho
  · rename_i e; rw [h _ _ _ e]; exact ho
  · cases ho

theorem stepD_le {a b : CallF} (h : CfLe a b) {o : IOper} {s : St} {r : St × DLog} (hr : stepD a o s = some r) : stepD b o s = some r := by
  unfold stepD at hr ⊢
  split at hr
  · split at hr
    · rename_i hn
      rw [if_pos hn]
      split at hr
      · split at hr
        · rename_i hs; rw [stepOp_le h hs]; exact hr
        · cases hr
      · cases hr
    · cases hr
  · exact hr
  · cases hr

theorem runDraw_le {a b : CallF} (h : CfLe a b) : ∀ {l : List (Nat × IOper)} {s : St} {r : St × List (Nat × DLog)}, runDraw a l s = some r → runDraw b l s = some r := by
  intro l
  induction l with
  | nil => intro s r hr; exact hr
  | cons o l ih =>
    intro s r hr
    simp only [runDraw] at hr ⊢
    split at hr
    · rename_i hs
      rw [stepD_le h hs]
      simp only
      split at hr
      · rename_i hl; rw [ih hl]; exact hr
      · cases hr
    · cases hr

theorem roundI_le {a b : ICode → St → Option (IExit × St)} (h : EvLe a b) {id : Nat} {args : List IVal} {σ : List IObj} {o : Out} (ho : roundI a id args σ = some o) : roundI b id args σ = some o := by
  unfold roundI at ho ⊢
  split at ho
  · split at ho
    · split at ho
      · rename_i e
        rw [h _ _ _ e]
        simp only
        split at ho
        · split at ho
          · split at ho
            · rename_i e2; rw [h _ _ _ e2]; exact ho
            · cases ho
          · cases ho
        · cases ho
      · cases ho
    · cases ho
  · cases ho

theorem cfOf_le {F : IProg} {n m : Nat} (h : EvLe (eval F n) (eval F m)) : CfLe (cfOf F n) (cfOf F m) := by
  intro f args σ o ho
  cases f with
  | f f =>
    simp only [cfOf] at ho ⊢
    split at ho
    · exact callI_le h ho
    · cases ho
  | y id => exact roundI_le h ho

theorem eval_step (F : IProg) : ∀ n, EvLe (eval F n) (eval F (n + 1)) := by
  intro n
  induction n with
  | zero => intro c s r h; simp [eval] at h
  | succ n ih =>
    have hcf := cfOf_le ih
    intro c s r h
    cases c with
    | stuck => simp [eval] at h
    | skip => simpa [eval] using h
    | label l => simpa [eval] using h
    | exit id => simpa [eval] using h
    | goto l => simpa [eval] using h
    | ret => simpa [eval] using h
    | ops l =>
      have h' : runOps (cfOf F n) l s = some r := h
      show runOps (cfOf F (n + 1)) l s = some r
      exact runOps_le hcf h'
    | draw l pairs =>
      have h' : (match runDraw (cfOf F n) l s with
        | some (s', log) => if pairsOK pairs log then some (IExit.normal, s') else none
        | none => none) = some r := h
      show (match runDraw (cfOf F (n + 1)) l s with
        | some (s', log) => if pairsOK pairs log then some (IExit.normal, s') else none
        | none => none) = some r
      split at h'
      · rename_i e; rw [runDraw_le hcf e]; exact h'
      · cases h'
    | seq a b =>
      rw [eval] at h ⊢
      split at h
      · rename_i e; rw [ih _ _ _ e]; exact ih _ _ _ h
      · rename_i hne
        have e := ih _ _ _ h
        rw [e]
        split
        · rename_i hr; exact absurd (by rw [← hr]; exact h) (hne _)
        · rfl
    | cond x a b =>
      rw [eval] at h ⊢
      split at h
      · exact ih _ _ _ h
      · exact ih _ _ _ h
      · cases h
    | block id b =>
      rw [eval] at h ⊢
      split at h
      · rename_i e; rw [ih _ _ _ e]; exact h
      · rename_i hne
        have e := ih _ _ _ h
        rw [e]
        split
        · rename_i hr; exact absurd (by rw [← hr]; exact h) (hne _ _)
        · rfl
    | loop b =>
      rw [eval] at h ⊢
      split at h
      · rename_i e; rw [ih _ _ _ e]; exact ih _ _ _ h
      · rename_i hne
        have e := ih _ _ _ h
        rw [e]
        split
        · rename_i hr; exact absurd (by rw [← hr]; exact h) (hne _)
        · rfl
    | scope b =>
      rw [eval] at h ⊢
      split at h
      · cases h
      · rename_i hne
        have e := ih _ _ _ h
        rw [e]
        split
        · rename_i hr; exact absurd (by rw [← hr]; exact h) (hne _ _)
        · rfl
    | rangeF x ps a b =>
      cases hx : x.get s.ts with
      | none => simp [eval, hx] at h
      | some p =>
        obtain ⟨y, t⟩ := p
        cases y with
        | fn gf us ws =>
          cases gf with
          | func g =>
            cases hF : F g with
            | none => simp [eval, hx, hF] at h
            | some fn =>
              cases hc : callI (eval F n) fn (us ++ [.yl (s.σ.length + 1)] ++ ws) (s.σ ++ [.defr, .loop ⟨0, { s.ts with t := s.ts.t.un, ds := [] }, ps, a, b, none⟩]) with
              | none =>
                simp only [eval, hx, hF, hc] at h
                cases h
              | some o =>
                have hc' := callI_le ih hc
                simp only [eval, hx, hF, hc] at h
                rw [eval]
                simp only [hx, hF, hc']
                exact h
          | _ => simp [eval, hx] at h
        | _ => simp [eval, hx] at h

theorem eval_mono (F : IProg) {n m : Nat} (h : n ≤ m) : EvLe (eval F n) (eval F m) := by
  induction h with
  | refl => exact fun _ _ _ h => h
  | step _ ih => exact fun c s r hr => eval_step F _ c s r (ih c s r hr)

/-! ### what code comes to, with fuel enough -/
def Ev (F : IProg) (c : ICode) (s : St) (Q : IExit → St → Prop) : Prop := ∃ n x s', eval F n c s = some (x, s') ∧ Q x s'

variable {F : IProg} {c a b : ICode} {s : St} {Q : IExit → St → Prop}

theorem Ev.mono {Q' : IExit → St → Prop} (h : Ev F c s Q) (hq : ∀ x s', Q x s' → Q' x s') : Ev F c s Q' :=
  let ⟨n, x, s', h1, h2⟩ := h
  ⟨n, x, s', h1, hq _ _ h2⟩

theorem Ev.skip (h : Q .normal s) : Ev F .skip s Q := ⟨1, _, _, rfl, h⟩
theorem Ev.ret (h : Q .ret s) : Ev F .ret s Q := ⟨1, _, _, rfl, h⟩
theorem Ev.exit {id : Nat} (h : Q (.exit id) s) : Ev F (.exit id) s Q := ⟨1, _, _, rfl, h⟩

theorem Ev.seq (h : Ev F a s fun x s' => match x with
    | .normal => Ev F b s' Q
    | x => Q x s') : Ev F (.seq a b) s Q := by
  obtain ⟨n, x, s', h1, h2⟩ := h
  cases x with
  | normal =>
    obtain ⟨m, y, s2, h3, h4⟩ := h2
    refine ⟨max n m + 1, y, s2, ?_, h4⟩
    rw [eval, eval_mono F (Nat.le_max_left n m) _ _ _ h1]
    exact eval_mono F (Nat.le_max_right n m) _ _ _ h3
  | _ => exact ⟨n + 1, _, s', by rw [eval, h1], h2⟩

theorem Ev.cond {x : Opd} {v : Bool} {ts : Ts} (hx : x.get s.ts = some (.bool v, ts)) (h : Ev F (if v then a else b) s Q) : Ev F (.cond x a b) s Q := by
  obtain ⟨n, y, s', h1, h2⟩ := h
  refine ⟨n + 1, y, s', ?_, h2⟩
  rw [eval, hx]
  cases v <;> exact h1

theorem Ev.block {id : Nat} (h : Ev F c s fun x s' => match x with
    | .exit i => if i = id then Q .normal s' else Q (.exit i) s'
    | x => Q x s') : Ev F (.block id c) s Q := by
  obtain ⟨n, x, s', h1, h2⟩ := h
  cases x with
  | exit i =>
    by_cases e : i = id
    · exact ⟨n + 1, .normal, s', by rw [eval, h1]; simp [e], by simpa [e] using h2⟩
    · exact ⟨n + 1, .exit i, s', by rw [eval, h1]; simp [e], by simpa [e] using h2⟩
  | _ => exact ⟨n + 1, _, s', by rw [eval, h1], h2⟩

/-- A loop by an invariant that bears a measure. -/
theorem Ev.loop {I : Nat → St → Prop} (hI : ∀ k s, I k s → Ev F c s fun x s' => match x with
    | .normal => ∃ k', k' < k ∧ I k' s'
    | x => Q x s') : ∀ k s, I k s → Ev F (.loop c) s Q := by
  intro k
  induction k using Nat.strongRecOn with
  | _ k ih =>
    intro s hs
    obtain ⟨n, x, s', h1, h2⟩ := hI k s hs
    cases x with
    | normal =>
      obtain ⟨k', hk, hi⟩ := h2
      obtain ⟨m, y, s2, h3, h4⟩ := ih k' hk s' hi
      refine ⟨max n m + 1, y, s2, ?_, h4⟩
      rw [eval, eval_mono F (Nat.le_max_left n m) _ _ _ h1]
      exact eval_mono F (Nat.le_max_right n m) _ _ _ h3
    | _ => exact ⟨n + 1, _, s', by rw [eval, h1], h2⟩

end Go.Idl
