/-
  The ideal machine without fuel: what code and calls come to, as equations.
-/
import Derived.Test.YtkjcgfadojfeeaaIdlEv
set_option linter.unusedSectionVars false
set_option linter.unusedVariables false
set_option linter.unusedSimpArgs false
namespace Go.Idl

open Classical in
/-- What code comes to, with fuel enough. -/
noncomputable def evw (F : IProg) (c : ICode) (s : St) : Option (IExit × St) :=
  if h : ∃ r n, eval F n c s = some r then some (Classical.choose h) else none
open Classical in
/-- What a call comes to. -/
noncomputable def cfw (F : IProg) : CallF := fun f args σ =>
  if h : ∃ o n, cfOf F n f args σ = some o then some (Classical.choose h) else none

variable {F : IProg}

theorem evw_iff {c : ICode} {s : St} {r : IExit × St} : evw F c s = some r ↔ ∃ n, eval F n c s = some r := by
  unfold evw
  split
  · rename_i h
    obtain ⟨n, hn⟩ := Classical.choose_spec h
    constructor
    · intro e; cases e; exact ⟨n, hn⟩
    · rintro ⟨m, hm⟩
      have h1 := eval_mono F (Nat.le_max_left n m) _ _ _ hn
      have h2 := eval_mono F (Nat.le_max_right n m) _ _ _ hm
      rw [h1] at h2; exact h2
  · rename_i h
    constructor
    · intro e; cases e
    · rintro ⟨n, hn⟩; exact absurd ⟨r, n, hn⟩ h

theorem cfOf_mono {n m : Nat} (h : n ≤ m) : CfLe (cfOf F n) (cfOf F m) := cfOf_le (eval_mono F h)

theorem cfw_iff {f : Cal} {args : List IVal} {σ : List IObj} {o : Out} : cfw F f args σ = some o ↔ ∃ n, cfOf F n f args σ = some o := by
  unfold cfw
  split
  · rename_i h
    obtain ⟨n, hn⟩ := Classical.choose_spec h
    constructor
    · intro e; cases e; exact ⟨n, hn⟩
    · rintro ⟨m, hm⟩
      have h1 := cfOf_mono (Nat.le_max_left n m) _ _ _ _ hn
      have h2 := cfOf_mono (Nat.le_max_right n m) _ _ _ _ hm
      rw [h1] at h2; exact h2
  · rename_i h
    constructor
    · intro e; cases e
    · rintro ⟨n, hn⟩; exact absurd ⟨o, n, hn⟩ h

theorem evw_le (n : Nat) : EvLe (eval F n) (evw F) := fun _ _ _ h => evw_iff.2 ⟨n, h⟩
theorem cfw_le (n : Nat) : CfLe (cfOf F n) (cfw F) := fun _ _ _ _ h => cfw_iff.2 ⟨n, h⟩

/-! ### one step -/
def evG (ev : ICode → St → Option (IExit × St)) (cf : CallF) (c : ICode) (s : St) : Option (IExit × St) :=
  match c with
  | .stuck => none
  | .skip => some (.normal, s)
  | .label _ => some (.normal, s)
  | .exit id => some (.exit id, s)
  | .goto l => some (.goto l, s)
  | .ret => some (.ret, s)
  | .ops l => runOps cf l s
  | .draw l pairs => match runDraw cf l s with
    | some (s', log) => if pairsOK pairs log then some (.normal, s') else none
    | none => none
  | .seq a b => match ev a s with
    | some (.normal, s') => ev b s'
    | r => r
  | .cond x a b => match x.get s.ts with
    | some (.bool true, _) => ev a s
    | some (.bool false, _) => ev b s
    | _ => none
  | .block id b => match ev b s with
    | some (.exit i, s') => if i = id then some (.normal, s') else some (.exit i, s')
    | r => r
  | .loop b => match ev b s with
    | some (.normal, s') => ev (.loop b) s'
    | r => r
  | .scope b => match ev b s with
    | some (.goto _, _) => none
    | r => r
  | .rangeF x ps a b => match x.get s.ts with
    | some (.fn (.func g) us ws, _) =>
      let k := s.σ.length
      match cf (.f g) (us ++ [.yl (k + 1)] ++ ws) (s.σ ++ [.defr, .loop ⟨0, { s.ts with t := s.ts.t.un, ds := [] }, ps, a, b, none⟩]) with
      | some ⟨false, _, σ', wr'⟩ => match σ'[k + 1]? with
        | some (.loop l) => if l.st = 1 then none else
          let s' : St := { ts := { s.ts with ds := k :: s.ts.ds }, σ := σ'.set (k + 1) .dead, wr := (k + 1, false) :: (wr' ++ s.wr) }
          match l.pend with
          | none => some (.normal, s')
          | some x => if isJump x then some (x, s') else none
        | _ => none
      | _ => none
    | _ => none

theorem eval_succ (n : Nat) (c : ICode) (s : St) : eval F (n + 1) c s = evG (eval F n) (cfOf F n) c s := by
  cases c <;> rfl

theorem evG_le {a b : ICode → St → Option (IExit × St)} {ca cb : CallF} (h : EvLe a b) (hc : CfLe ca cb) {c : ICode} {s : St} {r : IExit × St} (hr : evG a ca c s = some r) : evG b cb c s = some r := by
  cases c with
  | ops l => exact runOps_le hc hr
  | draw l pairs =>
    simp only [evG] at hr ⊢
    split at hr
    · rename_i e; rw [runDraw_le hc e]; exact hr
    · cases hr
  | seq x y =>
    simp only [evG] at hr ⊢
    split at hr
    · rename_i e; rw [h _ _ _ e]; exact h _ _ _ hr
    · rename_i hne
      rw [h _ _ _ hr]
      split
      · rename_i e; exact absurd (by rw [← e]; exact hr) (hne _)
      · rfl
  | cond x y z =>
    simp only [evG] at hr ⊢
    split at hr
    · exact h _ _ _ hr
    · exact h _ _ _ hr
    · cases hr
  | block id y =>
    simp only [evG] at hr ⊢
    split at hr
    · rename_i e; rw [h _ _ _ e]; exact hr
    · rename_i hne
      rw [h _ _ _ hr]
      split
      · rename_i e; exact absurd (by rw [← e]; exact hr) (hne _ _)
      · rfl
  | loop y =>
    simp only [evG] at hr ⊢
    split at hr
    · rename_i e; rw [h _ _ _ e]; exact h _ _ _ hr
    · rename_i hne
      rw [h _ _ _ hr]
      split
      · rename_i e; exact absurd (by rw [← e]; exact hr) (hne _)
      · rfl
  | scope y =>
    simp only [evG] at hr ⊢
    split at hr
    · cases hr
    · rename_i hne
      rw [h _ _ _ hr]
      split
      · rename_i e; exact absurd (by rw [← e]; exact hr) (hne _ _)
      · rfl
  | rangeF x ps y z =>
    simp only [evG] at hr ⊢
    split at hr
    · split at hr
      · rename_i e; rw [hc _ _ _ _ e]; exact hr
      · cases hr
    · cases hr
  | _ => exact hr

/-! ### what is come to with no end of fuel is come to with some -/
theorem stepOp_cont {o : IOp} {s : St} {r : Res} (h : stepOp (cfw F) o s = some r) : ∃ n, stepOp (cfOf F n) o s = some r := by
  have hcall : ∀ {f vs ts} , stepCall (cfw F) f vs ts s = some r → ∃ n, stepCall (cfOf F n) f vs ts s = some r := by
    intro f vs ts h
    unfold stepCall at h
    split at h
    · rename_i o ho
      obtain ⟨n, hn⟩ := cfw_iff.1 ho
      exact ⟨n, by unfold stepCall; rw [hn]; exact h⟩
    · cases h
  cases o
  case call f xs =>
    simp only [stepOp] at h ⊢
    split at h
    · exact hcall h
    · cases h
  case callp f xs =>
    simp only [stepOp] at h ⊢
    split at h
    · split at h
      · rename_i hn
        split at h
        · rename_i ho
          obtain ⟨n, hn'⟩ := cfw_iff.1 ho
          exact ⟨n, by rw [if_pos hn, hn']; exact h⟩
        · cases h
      · cases h
    · cases h
  case callv f xs =>
    simp only [stepOp] at h ⊢
    split at h
    · split at h
      · exact hcall h
      · cases h
    · split at h
      · exact hcall h
      · cases h
    · cases h
  case inv tab x xs =>
    simp only [stepOp] at h ⊢
    split at h
    · split at h
      · split at h
        · split at h
          · exact hcall h
          · cases h
        · cases h
      · cases h
    · cases h
  all_goals exact ⟨0, h⟩

theorem runOps_cont : ∀ {l : List IOper} {s : St} {r : IExit × St}, runOps (cfw F) l s = some r → ∃ n, runOps (cfOf F n) l s = some r := by
  intro l
  induction l with
  | nil => intro s r h; exact ⟨0, h⟩
  | cons o l ih =>
    intro s r h
    simp only [runOps] at h ⊢
    split at h
    · split at h
      · rename_i hs
        obtain ⟨n, hn⟩ := stepOp_cont hs
        obtain ⟨m, hm⟩ := ih h
        refine ⟨max n m, ?_⟩
        rw [stepOp_le (cfOf_mono (Nat.le_max_left n m)) hn]
        exact runOps_le (cfOf_mono (Nat.le_max_right n m)) hm
      · rename_i hs
        obtain ⟨n, hn⟩ := stepOp_cont hs
        exact ⟨n, by rw [hn]; exact h⟩
      · cases h
    · exact ih h
    · cases h

theorem stepD_cont {o : IOper} {s : St} {r : St × DLog} (h : stepD (cfw F) o s = some r) : ∃ n, stepD (cfOf F n) o s = some r := by
  unfold stepD at h
  split at h
  · rename_i hw
    split at h
    · rename_i hno
      split at h
      · rename_i hg
        split at h
        · rename_i hs
          obtain ⟨n, hn⟩ := stepOp_cont hs
          refine ⟨n, ?_⟩
          unfold stepD
          rw [hw]
          simp only
          rw [if_pos hno, hg]
          simp only
          rw [hn]
          exact h
        · cases h
      · cases h
    · cases h
  · rename_i hw; exact ⟨0, by unfold stepD; rw [hw]; exact h⟩
  · cases h

theorem runDraw_cont : ∀ {l : List (Nat × IOper)} {s : St} {r : St × List (Nat × DLog)}, runDraw (cfw F) l s = some r → ∃ n, runDraw (cfOf F n) l s = some r := by
  intro l
  induction l with
  | nil => intro s r h; exact ⟨0, h⟩
  | cons o l ih =>
    intro s r h
    simp only [runDraw] at h ⊢
    split at h
    · rename_i hs
      obtain ⟨n, hn⟩ := stepD_cont hs
      split at h
      · rename_i hl
        obtain ⟨m, hm⟩ := ih hl
        refine ⟨max n m, ?_⟩
        rw [stepD_le (cfOf_mono (Nat.le_max_left n m)) hn]
        simp only
        rw [runDraw_le (cfOf_mono (Nat.le_max_right n m)) hm]
        exact h
      · cases h
    · cases h

theorem callI_cont {fn : IFunc} {args : List IVal} {σ : List IObj} {o : Out} (h : callI (evw F) fn args σ = some o) : ∃ n, callI (eval F n) fn args σ = some o := by
  unfold callI at h ⊢
  split at h
  · rename_i e; obtain ⟨n, hn⟩ := evw_iff.1 e; exact ⟨n, by rw [hn]; exact h⟩
  · rename_i e; obtain ⟨n, hn⟩ := evw_iff.1 e; exact ⟨n, by rw [hn]; exact h⟩
  · rename_i e; obtain ⟨n, hn⟩ := evw_iff.1 e; exact ⟨n, by rw [hn]; exact h⟩
  · cases h

theorem roundI_cont {id : Nat} {args : List IVal} {σ : List IObj} {o : Out} (h : roundI (evw F) id args σ = some o) : ∃ n, roundI (eval F n) id args σ = some o := by
  unfold roundI at h ⊢
  split at h
  · split at h
    · split at h
      · rename_i e
        obtain ⟨n, hn⟩ := evw_iff.1 e
        split at h
        · rename_i hl
          split at h
          · rename_i hst
            split at h
            · rename_i e2
              obtain ⟨m, hm⟩ := evw_iff.1 e2
              refine ⟨max n m, ?_⟩
              rw [eval_mono F (Nat.le_max_left n m) _ _ _ hn]
              simp only [hl, hst]
              rw [eval_mono F (Nat.le_max_right n m) _ _ _ hm]
              exact h
            · cases h
          · cases h
        · cases h
      · cases h
    · cases h
  · cases h

theorem evG_cont {c : ICode} {s : St} {r : IExit × St} (h : evG (evw F) (cfw F) c s = some r) : ∃ n, evG (eval F n) (cfOf F n) c s = some r := by
  cases c with
  | ops l => exact runOps_cont h
  | draw l pairs =>
    simp only [evG] at h ⊢
    split at h
    · rename_i e; obtain ⟨n, hn⟩ := runDraw_cont e; exact ⟨n, by rw [hn]; exact h⟩
    · cases h
  | seq x y =>
    simp only [evG] at h ⊢
    split at h
    · rename_i e
      obtain ⟨n, hn⟩ := evw_iff.1 e
      obtain ⟨m, hm⟩ := evw_iff.1 h
      exact ⟨max n m, by rw [eval_mono F (Nat.le_max_left n m) _ _ _ hn]; exact eval_mono F (Nat.le_max_right n m) _ _ _ hm⟩
    · rename_i hne
      obtain ⟨n, hn⟩ := evw_iff.1 h
      refine ⟨n, ?_⟩
      rw [hn]
      split
      · rename_i e; exact absurd (by rw [← e]; exact h) (hne _)
      · rfl
  | cond x y z =>
    simp only [evG] at h ⊢
    split at h
    · exact evw_iff.1 h
    · exact evw_iff.1 h
    · cases h
  | block id y =>
    simp only [evG] at h ⊢
    split at h
    · rename_i e; obtain ⟨n, hn⟩ := evw_iff.1 e; exact ⟨n, by rw [hn]; exact h⟩
    · rename_i hne
      obtain ⟨n, hn⟩ := evw_iff.1 h
      refine ⟨n, ?_⟩
      rw [hn]
      split
      · rename_i e; exact absurd (by rw [← e]; exact h) (hne _ _)
      · rfl
  | loop y =>
    simp only [evG] at h ⊢
    split at h
    · rename_i e
      obtain ⟨n, hn⟩ := evw_iff.1 e
      obtain ⟨m, hm⟩ := evw_iff.1 h
      exact ⟨max n m, by rw [eval_mono F (Nat.le_max_left n m) _ _ _ hn]; exact eval_mono F (Nat.le_max_right n m) _ _ _ hm⟩
    · rename_i hne
      obtain ⟨n, hn⟩ := evw_iff.1 h
      refine ⟨n, ?_⟩
      rw [hn]
      split
      · rename_i e; exact absurd (by rw [← e]; exact h) (hne _)
      · rfl
  | scope y =>
    simp only [evG] at h ⊢
    split at h
    · cases h
    · rename_i hne
      obtain ⟨n, hn⟩ := evw_iff.1 h
      refine ⟨n, ?_⟩
      rw [hn]
      split
      · rename_i e; exact absurd (by rw [← e]; exact h) (hne _ _)
      · rfl
  | rangeF x ps y z =>
    simp only [evG] at h ⊢
    split at h
    · split at h
      · rename_i e; obtain ⟨n, hn⟩ := cfw_iff.1 e; exact ⟨n, by rw [hn]; exact h⟩
      · cases h
    · cases h
  | _ => exact ⟨0, h⟩

theorem opt_ext {α : Type} {a b : Option α} (h : ∀ r, a = some r ↔ b = some r) : a = b := by
  cases a with
  | none => cases b with
    | none => rfl
    | some y => exact ((h y).2 rfl)
  | some x => exact ((h x).1 rfl).symm

theorem evw_eq (F : IProg) (c : ICode) (s : St) : evw F c s = evG (evw F) (cfw F) c s := by
  refine opt_ext fun r => ?_
  constructor
  · intro h
    obtain ⟨n, hn⟩ := evw_iff.1 h
    cases n with
    | zero => simp [eval] at hn
    | succ n => rw [eval_succ] at hn; exact evG_le (evw_le n) (cfw_le n) hn
  · intro h
    obtain ⟨n, hn⟩ := evG_cont h
    exact evw_iff.2 ⟨n + 1, by rw [eval_succ]; exact hn⟩

theorem cfw_f (F : IProg) (f : FuncId) (args : List IVal) (σ : List IObj) : cfw F (.f f) args σ = match F f with
    | some fn => callI (evw F) fn args σ
    | none => none := by
  refine opt_ext fun r => ?_
  rw [cfw_iff]
  constructor
  · rintro ⟨n, hn⟩
    simp only [cfOf] at hn
    split at hn
    · rename_i e; rw [e]; exact callI_le (evw_le n) hn
    · cases hn
  · intro h
    split at h
    · rename_i e
      obtain ⟨n, hn⟩ := callI_cont h
      exact ⟨n, by simp only [cfOf, e]; exact hn⟩
    · cases h

theorem cfw_y (F : IProg) (id : Nat) (args : List IVal) (σ : List IObj) : cfw F (.y id) args σ = roundI (evw F) id args σ := by
  refine opt_ext fun r => ?_
  rw [cfw_iff]
  constructor
  · rintro ⟨n, hn⟩; exact roundI_le (evw_le n) hn
  · intro h; obtain ⟨n, hn⟩ := roundI_cont h; exact ⟨n, hn⟩

end Go.Idl
