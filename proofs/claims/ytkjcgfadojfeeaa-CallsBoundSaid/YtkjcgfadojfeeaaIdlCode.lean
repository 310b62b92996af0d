/-
  Code: control, regions in the text's order, functions. Whatever the ideal evaluator comes to, the model comes to.
-/
import Derived.Test.YtkjcgfadojfeeaaIdlMatch2
set_option linter.unusedSectionVars false
set_option linter.unusedVariables false
set_option linter.unusedSimpArgs false
namespace Go.Idl
variable [Globs]

variable {C0 : CRel} {P : Program} {a : Act} {g : Gh} {O : List Nat} {w : World} {s : St} {cf : CallF}

/-! ### the table's shape stays -/
/-- How many temporaries there are; their slots. -/
structure Shape where
  n : Nat
  nv : Nat
  m : Nat

def Shape.slot (z : Shape) (j : Nat) : Nat := bif Nat.blt j z.nv then j else z.nv + (j - z.nv) % z.m

def SameSh (ts ts' : Ts) : Prop := ts'.nv = ts.nv ∧ ts'.m = ts.m ∧ ts'.ds = ts.ds
theorem SameSh.refl (ts : Ts) : SameSh ts ts := ⟨rfl, rfl, rfl⟩
theorem SameSh.trans {a b c : Ts} (h : SameSh a b) (k : SameSh b c) : SameSh a c := ⟨k.1.trans h.1, k.2.1.trans h.2.1, k.2.2.trans h.2.2⟩
theorem SameSh.get {x : Opd} {ts ts' : Ts} {v : IVal} (h : x.get ts = some (v, ts')) : SameSh ts ts' := by
  cases x <;> simp only [Opd.get] at h
  · split at h <;> simp at h; obtain ⟨-, rfl⟩ := h; exact .refl _
  · split at h <;> simp at h; obtain ⟨-, rfl⟩ := h; exact ⟨rfl, rfl, rfl⟩
  · simp at h; obtain ⟨-, rfl⟩ := h; exact .refl _
theorem SameSh.getAll {xs : List Opd} : ∀ {ts ts' : Ts} {vs : List IVal}, Idl.getAll xs ts = some (vs, ts') → SameSh ts ts' := by
  induction xs with
  | nil => intro ts ts' vs h; simp [Idl.getAll] at h; rw [h.2]; exact .refl _
  | cons x xs ih =>
    intro ts ts' vs h
    simp only [Idl.getAll] at h
    split at h
    · rename_i h1
      split at h
      · rename_i h2
        simp only [Option.some.injEq, Prod.mk.injEq] at h
        obtain ⟨-, rfl⟩ := h
        exact (SameSh.get h1).trans (ih h2)
      · cases h
    · cases h
theorem SameSh.fill : ∀ {vs : List IVal} {ts : Ts} {j : Nat}, SameSh ts (ts.fill j vs) := by
  intro vs
  induction vs with
  | nil => intro ts j; exact .refl _
  | cons v vs ih => intro ts j; exact SameSh.trans ⟨rfl, rfl, rfl⟩ ih
theorem SameSh.put {ts : Ts} {d : Option Nat} {v : IVal} : SameSh ts (putT ts d v) := by cases d <;> exact ⟨rfl, rfl, rfl⟩

theorem SameSh.stepCall {f : Cal} {vs : List IVal} {ts : Ts} {r : Res} (h : Idl.stepCall cf f vs ts s = some r) : r.s.ts = ts := by
  unfold Idl.stepCall at h
  split at h
  · simp only [Option.some.injEq] at h; subst h; rfl
  · cases h

theorem SameSh.step {o : IOp} {r : Res} (h : stepOp cf o s = some r) : SameSh s.ts r.s.ts := by
  cases o <;> simp only [stepOp, rv] at h
  case call f xs =>
    split at h
    · rename_i h1; rw [SameSh.stepCall h]; exact .getAll h1
    · cases h
  case callv f xs =>
    split at h
    · rename_i h0
      split at h
      · rename_i h1; rw [SameSh.stepCall h]; exact (SameSh.get h0).trans (.getAll h1)
      · cases h
    · rename_i h0
      split at h
      · rename_i h1; rw [SameSh.stepCall h]; exact (SameSh.get h0).trans (.getAll h1)
      · cases h
    · cases h
  case inv tab x xs =>
    repeat' split at h
    all_goals first | (cases h; done) | (rw [SameSh.stepCall h]; exact (SameSh.get (by assumption)).trans (.getAll (by assumption)))
  case extract x i =>
    split at h
    · rename_i h0
      split at h
      · split at h
        · simp only [Option.some.injEq] at h; subst h; exact (SameSh.get h0).trans ⟨rfl, rfl, rfl⟩
        · simp only [Option.some.injEq] at h; subst h; exact SameSh.get h0
      · cases h
    · cases h
  all_goals
    repeat' split at h
    all_goals first | (cases h; done) | (simp only [Option.some.injEq] at h; subst h; simp only; first | exact .refl _ | exact SameSh.get (by assumption) | exact SameSh.getAll (by assumption) | exact SameSh.trans (SameSh.get (by assumption)) (SameSh.get (by assumption)) | exact SameSh.trans (SameSh.getAll (by assumption)) (SameSh.getAll (by assumption)) | exact SameSh.trans (SameSh.get (by assumption)) (SameSh.trans (SameSh.get (by assumption)) (SameSh.get (by assumption))) | exact SameSh.trans (SameSh.get (by assumption)) ⟨rfl, rfl, rfl⟩)

/-! ### what code leaves -/
/-- The deferred marks of loops. -/
def DefsR (g : Gh) (ds : List Nat) (defers : List Deferred) : Prop :=
  defers.length = ds.length ∧ ∀ (i : Nat) id d, ds[i]? = some id → defers[i]? = some d → ∃ b, g.ι[id]? = some b ∧ d = { target := .collected b, args := #[] }

theorem DefsR.mono {g g' : Gh} {ds : List Nat} {defers : List Deferred} (h : DefsR g ds defers) (hι : ∀ (id b : Nat), g.ι[id]? = some b → g'.ι[id]? = some b) : DefsR g' ds defers :=
  ⟨h.1, fun i id d h1 h2 => let ⟨b, q1, q2⟩ := h.2 i id d h1 h2; ⟨b, hι _ _ q1, q2⟩⟩
theorem DefsR.nil (g : Gh) : DefsR g [] [] := ⟨rfl, fun i id d h => by simp at h⟩

/-- The state of an activation, and its world. -/
structure Stand (C0 : CRel) (N : Shape) (g : Gh) (O : List Nat) (s : St) (a : Act) (w : World) : Prop where
  rel : R g O (s.ts.roots a.tmps) s.σ w
  len : WT s.ts a.tmps
  defs : DefsR g s.ts.ds a.defers
  size : N.n ≤ a.tmps.size
  sh : s.ts.nv = N.nv ∧ s.ts.m = N.m
  code : g.C = C0

/-- From one state to another one. -/
structure Goes (g : Gh) (O : List Nat) (s : St) (w : World) (g' : Gh) (O' : List Nat) (s' : St) (w' : World) : Prop where
  grow : Grow O g w O' g' w'
  keep : ∃ wn, s'.wr = wn ++ s.wr ∧ Keep s.σ s'.σ wn

theorem Goes.refl (g : Gh) (O : List Nat) (s : St) (w : World) : Goes g O s w g O s w := ⟨.refl O g w, ⟨[], rfl, .refl _⟩⟩
theorem Goes.trans {g1 g2 g3 : Gh} {O1 O2 O3 : List Nat} {s1 s2 s3 : St} {w1 w2 w3 : World} (h : Goes g1 O1 s1 w1 g2 O2 s2 w2) (k : Goes g2 O2 s2 w2 g3 O3 s3 w3) : Goes g1 O1 s1 w1 g3 O3 s3 w3 := by
  obtain ⟨wn, h1, h2⟩ := h.keep
  obtain ⟨wn', k1, k2⟩ := k.keep
  exact ⟨h.grow.trans k.grow, ⟨wn' ++ wn, by rw [k1, h1, List.append_assoc], h2.trans k2⟩⟩

/-- How the model leaves where the ideal leaves by such a way. -/
def exitOf : IExit → Option Exit
  | .normal => some .normal
  | .exit id => some (.exit id)
  | .goto l => some (.goto l)
  | .ret => some .ret
  | .panic _ => none

/-- What is asked behind code. -/
def After (C0 : CRel) (N : Shape) (g : Gh) (O : List Nat) (s : St) (w : World) (x : IExit) (s' : St) (Q : Exit → Act → World → Prop) : Prop :=
  (∀ e g' O' a' w', exitOf x = some e → Goes g O s w g' O' s' w' → Stand C0 N g' O' s' a' w' → Q e a' w') ∧
  (∀ v g' O' a' w' v', x = .panic v → Goes g O s w g' O' s' w' → R g' O' ((v, v') :: s'.ts.roots a'.tmps) s'.σ w' → DefsR g' s'.ts.ds a'.defers → Q (.panic [{ v := v', recovered := false }]) a' w')

theorem After.of_goes {N : Shape} {g1 : Gh} {O1 : List Nat} {s1 : St} {w1 : World} {x : IExit} {s' : St} {Q : Exit → Act → World → Prop} (h : After C0 N g O s w x s' Q) (hg : Goes g O s w g1 O1 s1 w1) : After C0 N g1 O1 s1 w1 x s' Q :=
  ⟨fun e g' O' a' w' he k st => h.1 e g' O' a' w' he (hg.trans k) st, fun v g' O' a' w' v' he k r d => h.2 v g' O' a' w' v' he (hg.trans k) r d⟩

/-! ### regions -/
def guardOK (ops : Array Oper) : Option (Nat × Bool) → Option (Nat × Bool) → Bool
  | none, none => true
  | some (j, b), some (t, b') => b == b' && (match ops[j]? with | some o => o.dst == some t | none => false)
  | _, _ => false

def operOK (P : Program) (ops : Array Oper) (o : Oper) (io : IOper) : Bool := opOK P o.op io.op && o.dst == io.dst && guardOK ops o.guard io.guard

def opersOK (P : Program) (ops : Array Oper) : List Oper → List IOper → Bool
  | [], [] => true
  | o :: os, io :: ios => operOK P ops o io && opersOK P ops os ios
  | _, _ => false

theorem opersOK_get {ops : Array Oper} : ∀ {os : List Oper} {ios : List IOper}, opersOK P ops os ios = true → os.length = ios.length ∧ ∀ (i : Nat) o io, os[i]? = some o → ios[i]? = some io → operOK P ops o io = true := by
  intro os
  induction os with
  | nil => intro ios h; cases ios <;> simp [opersOK] at h ⊢
  | cons o os ih =>
    intro ios h
    cases ios with
    | nil => simp [opersOK] at h
    | cons io ios =>
      simp [opersOK] at h
      obtain ⟨h1, h2⟩ := ih h.2
      refine ⟨by simp [h1], fun i o' io' ho hi => ?_⟩
      cases i with
      | zero => simp at ho hi; subst ho hi; exact h.1
      | succ i => simp at ho hi; exact h2 i o' io' ho hi

theorem V.bool_iff {x : IVal} {v : Value} (h : V g x v) (b : Bool) : v = .bool b ↔ x = .bool b := by
  cases h with
  | prim v hp => cases v <;> simp [okPrim] at hp ⊢
  | _ => simp

theorem wanted_sim {N : Shape} {ops : Array Oper} {o : Oper} {io : IOper} {bw : Bool} (h : guardOK ops o.guard io.guard = true) (hs : Stand C0 N g O s a w) (hw : wantedI io.guard s.ts = some bw) : Region.wanted o (yielded ops a.tmps) = bw := by
  unfold guardOK at h
  unfold wantedI at hw
  unfold Region.wanted
  split at h
  · rename_i h1 h2; rw [h2] at hw; simp at hw; simp [h1, hw]
  · rename_i j b t b' h1 h2
    simp only [Bool.and_eq_true] at h
    obtain ⟨h3, h4⟩ := h
    have := eq_of_beq h3
    subst this
    rw [h1]
    rw [h2] at hw
    simp only at hw ⊢
    split at h4
    · rename_i og hog
      have hdst : og.dst = some t := eq_of_beq h4
      simp only [yielded, hog, Option.bind_some, hdst]
      cases ht : s.ts.get? t with
      | none => simp [ht] at hw
      | some x =>
        rw [ht] at hw
        obtain ⟨rest, hp, -⟩ := Ts.roots_get a.tmps ht
        have hV : V g x (a.tmps.getD t undef) := hs.rel.vals (x, a.tmps.getD t undef) (hp.mem_iff.2 (by simp))
        have hlt := (hs.len _ _ (Ts.get?_spec ht)).2
        have hget : a.tmps[t]? = some (a.tmps.getD t undef) := by simp [hlt]
        rw [hget]
        generalize a.tmps.getD t undef = v at hV
        cases v with
        | bool b0 =>
          have := (hV.bool_iff b0).1 rfl
          subst this
          simp only [Option.some.injEq] at hw
          subst hw
          cases b0 <;> cases b <;> rfl
        | _ =>
          cases x with
          | bool b0 => have := (hV.bool_iff b0).2 rfl; cases this
          | _ => simp at hw; subst hw; cases b <;> rfl
    · cases h4
  · cases h

/-- A value is put into its temporary. -/
theorem put_stand {N : Shape} {d : Option Nat} {x : IVal} {v : Value} (hR : R g O ((x, v) :: s.ts.roots a.tmps) s.σ w) (hl : WT s.ts a.tmps) (hd : DefsR g s.ts.ds a.defers) (hN : N.n ≤ a.tmps.size) (hz : s.ts.nv = N.nv ∧ s.ts.m = N.m) (hC : g.C = C0) (hlt : ∀ t, d = some t → t < N.n) :
    Stand C0 N g O { s with ts := putT s.ts d x } (a.put d v) w := by
  cases d with
  | none => exact ⟨hR.drop, hl, hd, hN, hz, hC⟩
  | some t =>
    have ht : t < a.tmps.size := Nat.lt_of_lt_of_le (hlt t rfl) hN
    have hW := hl.set ht x
    refine ⟨?_, fun k p hp => by have := hW k p hp; simpa [Act.put, putT] using this, hd, by simpa [Act.put] using hN, hz, hC⟩
    obtain ⟨rest, ev, h1, h2⟩ := Ts.roots_put hl ht x v
    simp only [putT, Act.put]
    have h3 := hR.perm (h1.cons _)
    cases hb : s.ts.t.has (s.ts.slot t) with
    | true =>
      rw [hb] at h2
      refine R.perm (R.drops (l := ev) (h3.perm ?_)) (h2.symm)
      simpa using (List.perm_middle (a := (x, v)) (l₁ := ev) (l₂ := rest)).symm
    | false =>
      rw [hb] at h2
      exact R.perm (R.drops (l := ev) h3.drop) (by simpa using h2.symm)

def dstsOK (n : Nat) (ios : List IOper) : Bool := ios.all fun io => match io.dst with | some d => decide (d < n) | none => true

theorem ops_sim {ρ : Option Nat} {n : Nat} {N : Shape} {ops : Array Oper} {Q : Exit → Act → World → Prop} (hcf : CallOK P C0 cf) : ∀ {ios : List IOper} {os pre : List Oper} {g : Gh} {O : List Nat} {s s' : St} {a : Act} {w : World} {x : IExit}, ops.toList = pre ++ os → opersOK P ops os ios = true →
    dstsOK N.n ios = true → runOps cf ios s = some (x, s') → Stand C0 N g O s a w → After C0 N g O s w x s' Q → wpOpsIn (WF ρ) n P ops Q (List.range' pre.length os.length) a w := by
  intro ios
  induction ios with
  | nil =>
    intro os pre g O s s' a w x hops hok hds hrun hst haft
    cases os <;> simp [opersOK] at hok
    simp [runOps] at hrun
    obtain ⟨rfl, rfl⟩ := hrun
    exact haft.1 _ g O a w rfl (.refl _ _ _ _) hst
  | cons io ios ih =>
    intro os pre g O s s' a w x hops hok hds hrun hst haft
    cases os with
    | nil => simp [opersOK] at hok
    | cons o os =>
      simp only [opersOK, Bool.and_eq_true, operOK] at hok
      obtain ⟨⟨⟨hop, hdst⟩, hgd⟩, hrest⟩ := hok
      have hdst := eq_of_beq hdst
      obtain ⟨iod, iop, iog⟩ := io
      simp only at hop hdst hgd
      subst hdst
      simp only [dstsOK, List.all_cons, Bool.and_eq_true] at hds
      have hd0 : ∀ t, o.dst = some t → t < N.n := by
        intro t ht
        have := hds.1
        rw [ht] at this
        simpa using this
      have hget : ops[pre.length]? = some o := by
        rw [← Array.getElem?_toList, hops]; simp
      simp only [List.length_cons, List.range'_succ, wpOpsIn, hget]
      have hnext : ops.toList = (pre ++ [o]) ++ os := by rw [hops]; simp
      have hlenp : (pre ++ [o]).length = pre.length + 1 := by simp
      simp only [runOps] at hrun
      split at hrun
      · rename_i hwi
        rw [if_pos (wanted_sim (o := o) (io := ⟨o.dst, iop, iog⟩) hgd hst hwi)]
        split at hrun
        · rename_i v s1 hstep
          refine op_res hcf hst.code hop hstep hst.len hst.rel ρ n _ Q (fun _ v' w' hp => ?_) (fun h => by cases h)
          obtain ⟨g1, O1, wn, hg, hR, hl, hwr, hk⟩ := hp
          have hst1 := put_stand (d := o.dst) (s := s1) hR hl (by rw [(SameSh.step hstep).2.2]; exact hst.defs.mono hg.pre) hst.size ⟨(SameSh.step hstep).1.trans hst.sh.1, (SameSh.step hstep).2.1.trans hst.sh.2⟩ (hg.code.trans hst.code) hd0
          rw [← hlenp]
          exact ih hnext hrest hds.2 hrun hst1 (haft.of_goes ⟨hg, ⟨wn, hwr, hk⟩⟩)
        · rename_i v s1 hstep
          refine op_res hcf hst.code hop hstep hst.len hst.rel ρ n _ Q (fun h => by cases h) (fun _ v' w' hp => ?_)
          obtain ⟨g1, O1, wn, hg, hR, hl, hwr, hk⟩ := hp
          simp only [Option.some.injEq, Prod.mk.injEq] at hrun
          obtain ⟨rfl, rfl⟩ := hrun
          exact haft.2 v g1 O1 a w' v' rfl ⟨hg, ⟨wn, hwr, hk⟩⟩ hR (by rw [(SameSh.step hstep).2.2]; exact hst.defs.mono hg.pre)
        · cases hrun
      · rename_i hwi
        rw [if_neg (by rw [wanted_sim (o := o) (io := ⟨o.dst, iop, iog⟩) hgd hst hwi]; simp)]
        refine ⟨fun _ _ => trivial, ?_⟩
        have hR : R g O ((undefI, undef) :: s.ts.roots a.tmps) s.σ w := hst.rel.push (undef_V g) rfl
        have hst1 := put_stand (d := o.dst) (s := s) hR hst.len hst.defs hst.size hst.sh hst.code hd0
        rw [← hlenp]
        exact ih hnext hrest hds.2 hrun hst1 (haft.of_goes ⟨.refl O g w, ⟨[], rfl, .refl _⟩⟩)
      · cases hrun

end Go.Idl
