/-
  The main theorem: what the ideal evaluator comes to, the model comes to.
-/
import Derived.Test.YtkjcgfadojfeeaaIdlDraw6
import Derived.Scope
set_option linter.unusedSectionVars false
set_option linter.unusedVariables false
set_option linter.unusedSimpArgs false
namespace Go.Idl
variable [Globs]

variable {C0 : CRel} {P : Program} {a : Act} {g : Gh} {O : List Nat} {w : World} {s : St} {cf : CallF}

/-! ### a scope -/
theorem stepR_scope {b : Frame} {k : List Item} {cs : List Frame} {c : Code} : step P (lone (b.atR a (.code (.scope c) :: k)) cs w) = .next (lone (b.atR a (.code c :: .inScope c :: k)) cs w) :=
  step_lone_go (by simp [stepG, stepG.exec, Frame.atR])
theorem stepR_inScope {b : Frame} {k : List Item} {cs : List Frame} {c : Code} : step P (lone (b.atR a (.inScope c :: k)) cs w) = .next (lone (b.atR a k) cs w) :=
  step_lone_go (by simp [stepG, stepG.exec, Frame.atR])

theorem wpIn_scope_straight {F : Fence} {n : Nat} {Q : Exit → Act → World → Prop} {c : Code} (h : c.wpIn F n P (Exit.noGoto Q) a w) : (Code.scope c).wpIn F n P Q a w := by
  intro b k cs hro hb hr
  have h0 : (lone (b.atR a (.code (.scope c) :: k)) cs w).fenced P F := fenced_calm hb hr rfl
  obtain ⟨e, a₁, w₁, hq, harr⟩ := h b (.inScope c :: k) cs hro hb hr
  cases e with
  | normal => exact ⟨.normal, a₁, w₁, hq, .head h0 stepR_scope (StepsIn.trans harr (.one (fenced_calm hb hr rfl) stepR_inScope))⟩
  | exit id =>
    have hx : exitTo id (.inScope c :: k) = exitTo id k := by simp [exitTo]
    exact ⟨.exit id, a₁, w₁, hq, fun k' hk => .head h0 stepR_scope (harr.1 k' (by rw [hx]; exact hk)),
        fun hr' hk => let ⟨k₁, h1, h2⟩ := harr.2 hr' (by rw [hx]; exact hk); ⟨k₁, h1, .head h0 stepR_scope h2⟩⟩
  | goto l => exact hq.elim
  | ret => exact ⟨_, a₁, w₁, hq, .of_steps (.one h0 stepR_scope) harr⟩
  | panic ch => exact ⟨_, a₁, w₁, hq, .of_steps (.one h0 stepR_scope) harr⟩
  | outgrown => exact ⟨_, a₁, w₁, hq, .of_steps (.one h0 stepR_scope) harr⟩

/-! ### code -/
def codeOK (P : Program) (n : Shape) (top : Bool) : Code → ICode → Bool
  | .skip, .skip => true
  | .region _ ops false, .ops l => opersOK P ops ops.toList l && dstsOK n.n l
  | .region _ ops true, .draw l pairs => drawOK P n ops l pairs
  | .seq a b, .seq x y => codeOK P n top a x && codeOK P n top b y
  | .cond c a b, .cond z x y => opdOK z c && (codeOK P n top a x && codeOK P n top b y)
  | .block id c, .block id' b => id == id' && codeOK P n top c b
  | .loop c, .loop b => codeOK P n top c b
  | .exit id, .exit id' => id == id'
  | .scope c, .scope b => codeOK P n top c b
  | .label _, .label _ => true
  | .goto l, .goto l' => l == l'
  | .ret, .ret => true
  | .rangeFunc g ps ca cb, .rangeF x ps' a b => top && (opdOK x g && (ps.toList == ps' && ((ps'.all fun p => decide (p < n.n)) && (codeOK P n false ca a && codeOK P n false cb b))))
  | _, .stuck => true
  | _, _ => false

/-- Code of a loop over a function. -/
def CR (P : Program) : CRel := fun n nv m c ic => codeOK P ⟨n, nv, m⟩ false c ic = true

def IFunc.sh (fn : IFunc) : Shape := ⟨fn.nt, fn.nv, fn.m⟩

/-- One function of the program, and the ideal one. -/
structure FunOK (P : Program) (gfn : Func) (fn : IFunc) : Prop where
  name : gfn.name ≠ "runtime.NumGoroutine"
  code : ∃ c, gfn.body = some c ∧ codeOK P fn.sh true c fn.body = true
  res : ressOK P gfn.results.toList fn.res = true
  nt : fn.nt = gfn.ntmps

def FOK (P : Program) (F : IProg) : Prop := ∀ f fn, F f = some fn → ∃ gfn, P.funcs[f]? = some gfn ∧ FunOK P gfn fn


/-- What is said of code at one depth. -/
def CodeSim (P : Program) (F : IProg) (n : Nat) : Prop :=
  ∀ (c : Code) (ic : ICode) (m : Shape) (top : Bool) (s : St) (x : IExit) (s' : St), codeOK P m top c ic = true → eval F n ic s = some (x, s') →
    ∀ (ρ : Option Nat), (top = true → ρ = none) → ∀ (k : Nat) (Q : Exit → Act → World → Prop) (a : Act) (w : World) (g : Gh) (O : List Nat), Stand (CR P) m g O s a w → After (CR P) m g O s w x s' Q → c.wpIn (WF ρ) k P Q a w

/-- The same end, asked in another way. -/
theorem After.imp {m : Shape} {x : IExit} {s' : St} {Q Q' : Exit → Act → World → Prop} (h : After C0 m g O s w x s' Q) (hq : ∀ e a' w', (∀ x', x = .panic x' → ∃ ch, e = .panic ch) → (∀ e', exitOf x = some e' → e = e') → Q e a' w' → Q' e a' w') : After C0 m g O s w x s' Q' := by
  refine ⟨fun e g' O' a' w' he k st => hq e a' w' (fun x' hx => by subst hx; cases he) (fun e' he' => by rw [he] at he'; cases he'; rfl) (h.1 e g' O' a' w' he k st), fun v g' O' a' w' v' hx k r d => hq _ a' w' (fun _ _ => ⟨_, rfl⟩) (fun e' he' => by subst hx; cases he') (h.2 v g' O' a' w' v' hx k r d)⟩

theorem empty_list : ∀ n, (Tm.empty n).list = [] := by
  intro n
  induction n with
  | zero => rfl
  | succ n ih => simp [Tm.empty, Tm.list, ih]
theorem empty_get : ∀ n k, (Tm.empty n).get k = none := by
  intro n
  induction n with
  | zero => intro k; rfl
  | succ n ih => intro k; simp only [Tm.empty, Tm.get, ih]; cases Nat.beq k 0 <;> cases Nat.beq (k % 2) 1 <;> rfl

theorem fill_R {tmps : Array Value} {σ : List IObj} : ∀ {vs : List IVal} {us : List Value} {ts : Ts} {j : Nat}, WT ts tmps → vs.length = us.length → (∀ (i : Nat) u, us[i]? = some u → tmps[j + i]? = some u) →
    R g O (vs.zip us ++ ts.roots tmps) σ w → R g O ((ts.fill j vs).roots tmps) σ w ∧ WT (ts.fill j vs) tmps := by
  intro vs
  induction vs with
  | nil => intro us ts j hW _ _ hR; exact ⟨by simpa [Ts.fill] using hR, hW⟩
  | cons v vs ih =>
    intro us ts j hW hl hu hR
    cases us with
    | nil => simp at hl
    | cons u us =>
      have h0 : tmps[j]? = some u := by simpa using hu 0 u rfl
      have hj : j < tmps.size := (Array.getElem?_eq_some_iff.1 h0).1
      have hset : tmps.setIfInBounds j u = tmps := by
        apply Array.ext_getElem?
        intro k
        rw [Array.getElem?_setIfInBounds]
        split
        · rename_i e; subst e; exact h0.symm
        · rfl
      obtain ⟨rest, ev, h1, h2⟩ := Ts.roots_put hW hj v u
      rw [hset] at h2
      refine ih (ts := ts.set j v) (j := j + 1) (hW.set hj v) (by simpa using hl) (fun i u' hi => ?_) ?_
      · have := hu (i + 1) u' (by simpa using hi)
        rw [show j + 1 + i = j + (i + 1) by omega]; exact this
      · simp only [List.zip_cons_cons, List.cons_append] at hR
        have h3 : R g O ((v, u) :: (ev ++ (vs.zip us ++ rest))) σ w := by
          refine hR.perm (.cons _ ?_)
          refine (h1.append_left _).trans ?_
          rw [← List.append_assoc, ← List.append_assoc]
          exact List.perm_append_comm.append_right _
        cases hb : ts.t.has (ts.slot j) with
        | true =>
          rw [hb] at h2
          have h4 : R g O (ev ++ ((v, u) :: (vs.zip us ++ rest))) σ w := h3.perm List.perm_middle.symm
          refine (R.drops (l := ev) h4).perm ?_
          refine List.Perm.trans ?_ (h2.symm.append_left _)
          exact List.perm_middle.symm
        | false =>
          rw [hb] at h2
          exact (R.drops (l := ev) h3.drop).perm (h2.symm.append_left _)

theorem results_run {gfn : Func} {tmps : Array Value} {us : List Value} {w' : World} (h : (resM tmps gfn.results.toList).run P w = .ok us w') :
    (results gfn tmps).run P w = .ok (if hh : us.toArray.size = 1 then us.toArray[0] else .tuple us.toArray) w' := by
  have e : ∀ f : ResultVar → Sem Value, gfn.results.mapM f = Functor.map List.toArray (gfn.results.toList.mapM f) := fun f => by
    rw [← List.mapM_toArray]
  unfold results
  rw [e]
  unfold resM at h
  simp only [map_eq_pure_bind, Sem.run_bind]
  erw [h]
  simp [Sem.run_pure, Result.andThen_ok]

/-- A function's call. -/
theorem cfn_ok {F : IProg} {n : Nat} (hF : FOK P F) (hS : CodeSim P F n) (f : FuncId) (args : List IVal) (σ : List IObj) (out : Out) (hout : cfOf F n (.f f) args σ = some out) : Callable P f ∧
    ∀ g O (rargs : Array Value) w, g.C = CR P → args.length = rargs.toList.length → R g O (args.zip rargs.toList) σ w → CallsIn Fence.wide 0 P f rargs w (CallPost g O w σ out) := by
  simp only [cfOf] at hout
  split at hout
  · rename_i fn hfn
    obtain ⟨gfn, hgf, hok⟩ := hF f fn hfn
    obtain ⟨c, hbody, hcode⟩ := hok.code
    refine ⟨⟨gfn, hgf, hok.name, by simp [hbody]⟩, fun g O rargs w hC hlen hR => ?_⟩
    refine callsIn_of_wp_marks (F := Fence.wide) hgf hbody trivial ?_
    have hst : Stand (CR P) fn.sh g O { ts := (Ts.mk fn.nv fn.m (Tm.empty fn.dep) []).fill 0 args, σ := σ, wr := [] } { tmps := rargs ++ Array.replicate (gfn.ntmps - rargs.size) undef, defers := [] } w := by
      have hf := fill_R (g := g) (O := O) (w := w) (σ := σ) (tmps := rargs ++ Array.replicate (gfn.ntmps - rargs.size) undef) (vs := args) (us := rargs.toList) (ts := Ts.mk fn.nv fn.m (Tm.empty fn.dep) []) (j := 0)
        (fun k p hp => by rw [empty_get] at hp; cases hp) hlen (fun i u hu => by
          rw [Nat.zero_add, Array.getElem?_append_left (by have := lt_of_get hu; simpa using this)]; simpa using hu) (by simpa [Ts.roots, empty_list] using hR)
      have hsh := SameSh.fill (vs := args) (ts := Ts.mk fn.nv fn.m (Tm.empty fn.dep) []) (j := 0)
      refine ⟨hf.1, hf.2, by rw [hsh.2.2]; exact .nil g, ?_, ⟨hsh.1, hsh.2.1⟩, hC⟩
      simp [IFunc.sh, hok.nt]; omega
    have hwide : (WF none) = Fence.wide := rfl
    rw [← hwide]
    -- what is handed back
    have hret : ∀ {e : Exit} {s1 : St}, (e = .normal ∨ e = .ret) → retI σ.length fn.res s1 = some out →
        ∀ g' O' a' w', Goes g O { ts := (Ts.mk fn.nv fn.m (Tm.empty fn.dep) []).fill 0 args, σ := σ, wr := [] } w g' O' s1 w' → Stand (CR P) fn.sh g' O' s1 a' w' →
        bodyPostM (WF none) 0 P gfn (CallPost g O w σ out) e a' w' := by
      intro e s1 he hri g' O' a' w' hgo hst'
      unfold retI at hri
      split at hri
      · rename_i σ1 hsh
        split at hri
        · rename_i vs s2 hrd
          split at hri
          · rename_i hnt
            simp only [Option.some.injEq] at hri
            have hL : LeavesInM (WF none) 0 P gfn a'.tmps (CallPost g O w σ out) a'.defers .returning w' := by
              refine shut_sim (l := s1.ts.roots a'.tmps) s1.ts.ds s1.σ σ1 a'.defers w' hsh hst'.defs hst'.rel (fun w'' hR'' hG'' => ?_)
              obtain ⟨us, h1, h2, h3, h4, wn, h5, h6, h7⟩ := results_sim (l := []) hok.res hrd hst'.len (by simpa using hR'')
              have h8 := (R.merge h4 h2 (List.all_eq_true.1 hnt))
              obtain ⟨wn', k1, k2⟩ := hgo.keep
              have hkeep : Keep σ s2.σ s2.wr := by
                rw [h5]
                simp only
                rw [k1]
                simp only [List.append_nil]
                exact (k2.trans (shut_keep _ _ _ hsh)).trans h6
              have hR1 : R g' O' [(tupV vs, if hh : us.toArray.size = 1 then us.toArray[0] else .tuple us.toArray)] s2.σ w'' :=
                R.drops (l := s2.ts.roots a'.tmps) (h8.perm (List.perm_append_comm (l₁ := [_])))
              obtain ⟨g'', k3, k4, k5, k6⟩ := finish_sim (v := tupV vs) (pan := false) hR (hgo.grow.trans hG'') hR1 hkeep
              rw [hri] at k4 k5 k6
              exact ⟨(if hh : us.toArray.size = 1 then us.toArray[0] else .tuple us.toArray), results_run h1, ⟨g'', O', _, by rw [k6]; rfl, k3, k4, k5⟩⟩
            rcases he with rfl | rfl <;> exact hL
          · cases hri
        · cases hri
      · cases hri
    unfold callI at hout
    split at hout
    · rename_i s1 hev
      refine hS c fn.body fn.sh true _ .normal s1 hcode hev none (fun _ => rfl) 0 _ _ w g O hst ⟨fun e g' O' a' w' he k st => ?_, fun v g' O' a' w' v' hx => by cases hx⟩
      simp only [exitOf, Option.some.injEq] at he
      exact hret (.inl he.symm) hout g' O' a' w' k st
    · rename_i s1 hev
      refine hS c fn.body fn.sh true _ .ret s1 hcode hev none (fun _ => rfl) 0 _ _ w g O hst ⟨fun e g' O' a' w' he k st => ?_, fun v g' O' a' w' v' hx => by cases hx⟩
      simp only [exitOf, Option.some.injEq] at he
      exact hret (.inr he.symm) hout g' O' a' w' k st
    · rename_i v s1 hev
      split at hout
      · rename_i hds
        simp only [Option.some.injEq] at hout
        subst hout
        refine hS c fn.body fn.sh true _ (.panic v) s1 hcode hev none (fun _ => rfl) 0 _ _ w g O hst ⟨fun e g' O' a' w' he => (by cases he), fun v0 g' O' a' w' v' hx k r d => ?_⟩
        simp only [IExit.panic.injEq] at hx
        subst hx
        obtain ⟨wn', k1, k2⟩ := k.keep
        have hkeep : Keep σ s1.σ s1.wr := by rw [k1, List.append_nil]; exact k2
        have hR1 : R g' O' [(v, v')] s1.σ w' := R.drops (l := s1.ts.roots a'.tmps) (R.perm r (List.perm_append_comm (l₁ := [_])))
        obtain ⟨g'', k3, k4, k5, k6⟩ := finish_sim (v := v) (pan := true) hR k.grow hR1 hkeep
        have hnil : a'.defers = [] := by have := d.1; rw [hds] at this; exact List.eq_nil_of_length_eq_zero (by simpa using this)
        show LeavesInM _ _ _ _ _ _ a'.defers _ _
        rw [hnil]
        exact ⟨g'', O', v', by rw [k6]; rfl, k3, k4, k5⟩
      · cases hout
    · cases hout
  · cases hout

/-! ### rounds of a loop over a function -/
theorem un3_un3 (x : IVal) : un3 (un3 x) = un3 x := by
  cases x with
  | tup xs => simp [un3]; intro a _; exact un2_un2 a
  | agg xs => simp [un3, un2, un1]; intro a _; exact un1_un1 a
  | _ => rfl

theorem un_list : ∀ (t : Tm), t.un.list = t.list.map fun p => (p.1, un3 p.2) := by
  intro t
  induction t with
  | leaf => rfl
  | node l c r ihl ihr =>
    simp only [Tm.un, Tm.list, List.map_append, ihl, ihr]
    cases c with
    | none => rfl
    | some p => rfl

theorem un_get : ∀ (t : Tm) (k : Nat), t.un.get k = (t.get k).map fun p => (p.1, un3 p.2) := by
  intro t
  induction t with
  | leaf => intro k; rfl
  | node l c r ihl ihr =>
    intro k
    simp only [Tm.un, Tm.get, ihl, ihr]
    cases Nat.beq k 0 <;> cases Nat.beq (k % 2) 1 <;> simp
    all_goals (cases c <;> rfl)

theorem pushAll {l : Roots} {σ : List IObj} : ∀ {ps : Roots}, (∀ p ∈ ps, V g p.1 p.2 ∧ own3 p.1 p.2 = []) → R g O l σ w → R g O (ps ++ l) σ w := by
  intro ps
  induction ps with
  | nil => intro _ h; exact h
  | cons p ps ih =>
    intro hp h
    exact (ih (fun q hq => hp q (by simp [hq])) h).push (hp p (by simp)).1 (hp p (by simp)).2

theorem setAll_R {σ : List IObj} : ∀ {ps : List Nat} {vs : List IVal} {us : List Value} {ts ts' : Ts} {tmps : Array Value}, ts.setAll ps vs = some ts' → vs.length = us.length → WT ts tmps → (∀ p ∈ ps, p < tmps.size) → R g O (vs.zip us ++ ts.roots tmps) σ w →
    R g O (ts'.roots ((ps.zip us).foldl (fun t p => t.setIfInBounds p.1 p.2) tmps)) σ w ∧ WT ts' ((ps.zip us).foldl (fun t p => t.setIfInBounds p.1 p.2) tmps) ∧ SameSh ts ts' ∧ ((ps.zip us).foldl (fun t p => t.setIfInBounds p.1 p.2) tmps).size = tmps.size := by
  intro ps
  induction ps with
  | nil =>
    intro vs us ts ts' tmps h hl hW _ hR
    cases vs with
    | nil => simp [Ts.setAll] at h; subst h; exact ⟨by simpa using hR, by simpa using hW, .refl _, by simp⟩
    | cons v vs => simp [Ts.setAll] at h
  | cons p ps ih =>
    intro vs us ts ts' tmps h hl hW hp hR
    cases vs with
    | nil => simp [Ts.setAll] at h
    | cons v vs =>
    cases us with
    | nil => simp at hl
    | cons u us =>
      simp only [Ts.setAll] at h
      have hj : p < tmps.size := hp p (by simp)
      obtain ⟨rest, ev, h1, h2⟩ := Ts.roots_put hW hj v u
      have hW' : WT (ts.set p v) (tmps.setIfInBounds p u) := fun k q hq => by have := hW.set hj v k q hq; simpa using this
      simp only [List.zip_cons_cons, List.cons_append] at hR
      have h3 : R g O ((v, u) :: (ev ++ (vs.zip us ++ rest))) σ w := by
        refine hR.perm (.cons _ ?_)
        refine (h1.append_left _).trans ?_
        rw [← List.append_assoc, ← List.append_assoc]
        exact List.perm_append_comm.append_right _
      have hR' : R g O (vs.zip us ++ (ts.set p v).roots (tmps.setIfInBounds p u)) σ w := by
        cases hb : ts.t.has (ts.slot p) with
        | true =>
          rw [hb] at h2
          have h4 : R g O (ev ++ ((v, u) :: (vs.zip us ++ rest))) σ w := h3.perm List.perm_middle.symm
          refine (R.drops (l := ev) h4).perm ?_
          refine List.Perm.trans ?_ (h2.symm.append_left _)
          exact List.perm_middle.symm
        | false =>
          rw [hb] at h2
          exact (R.drops (l := ev) h3.drop).perm (h2.symm.append_left _)
      obtain ⟨k1, k2, k3, k4⟩ := ih h (by simpa using hl) hW' (fun q hq => by simpa using hp q (by simp [hq])) hR'
      simp only [List.zip_cons_cons, List.foldl_cons]
      exact ⟨k1, k2, SameSh.trans ⟨rfl, rfl, rfl⟩ k3, by rw [k4]; simp⟩

theorem setParams_eq (r : Loop) (rargs : Array Value) : setParams r rargs = (r.params.toList.zip rargs.toList).foldl (fun t p => t.setIfInBounds p.1 p.2) r.tmps := by
  unfold setParams
  rw [← Array.foldl_toList, Array.toList_zip]

theorem loop_of {σ : List IObj} {l : Roots} {id b : Nat} {L : ILoop} (hR : R g O l σ w) (hι : g.ι[id]? = some b) (hσ : σ[id]? = some (.loop L)) : ∃ r : Loop, w.heap[b]? = some (.loop r) ∧ LoopR g L r ∧ b < w.heap.size := by
  obtain ⟨r, h1, h2⟩ := hR.objs id b _ hι hσ
  exact ⟨r, h1, h2, (Array.getElem?_eq_some_iff.1 h1).1⟩

/-- A record is set. -/
theorem R.setLoop {σ : List IObj} {l : Roots} {id b : Nat} {L L' : ILoop} {r r' : Loop} (hR : R g O l σ w) (hι : g.ι[id]? = some b) (hσ : σ[id]? = some (.loop L)) (hw : w.heap[b]? = some (.loop r)) (hL : LoopR g L' r') :
    R g O l (σ.set id (.loop L')) (w.putObj b (.loop r')) ∧ Grow O g w O g (w.putObj b (.loop r')) := by
  have hlt : b < w.heap.size := (Array.getElem?_eq_some_iff.1 hw).1
  exact hR.putObj hι hσ (by simp) hlt (by rw [hw]; simp) ⟨r', World.putObj_heap_same hlt, hL⟩ (.inl rfl) rfl

theorem Keep.setLoop {σ : List IObj} {id : Nat} {L L' : ILoop} (hσ : σ[id]? = some (.loop L)) (ht : L'.ts = L.ts) : Keep σ (σ.set id (.loop L')) [(id, false)] :=
  Keep.set fun n _ _ ho => by
    have := ho _ hσ
    simpa [RLO, ht] using this

theorem exitOf_jump {x : IExit} (h : isJump x = true) : ∃ e c, exitOf x = some e ∧ pendOf (some x) = some c ∧ (∀ (b : Nat) (Rp : Ending → World → Prop) (a' : Act) (w' : World), (∃ v w'', (Instr.endRound b (some c)).run P w' = .ok v w'' ∧ Rp (.returned v) w'') → roundPost P b Rp e a' w') ∧
    (∀ (F : Fence) (n : Nat) (Q : Exit → Act → World → Prop) (a' : Act) (w' : World), Q e a' w' → c.wpIn F n P Q a' w') := by
  cases x with
  | exit id => exact ⟨.exit id, .exit id, rfl, rfl, fun _ _ _ _ h => h, fun _ _ _ _ _ h => wpIn_exit h⟩
  | goto l => exact ⟨.goto l, .goto l, rfl, rfl, fun _ _ _ _ h => h, fun _ _ _ _ _ h => wpIn_goto h⟩
  | ret => exact ⟨.ret, .ret, rfl, rfl, fun _ _ _ _ h => h, fun _ _ _ _ _ h => wpIn_ret h⟩
  | normal => cases h
  | panic v => cases h

theorem cyl_ok {F : IProg} {n : Nat} (hS : CodeSim P F n) (id : Nat) (args : List IVal) (σ : List IObj) (out : Out) (hout : cfOf F n (.y id) args σ = some out) (g : Gh) (O : List Nat) (rargs : Array Value) (w : World) (b : Nat) (hC : g.C = CR P) (hι : g.ι[id]? = some b) (hlen : args.length = rargs.toList.length)
    (hR : R g O (args.zip rargs.toList) σ w) : ∃ r : Loop, w.heap[b]? = some (.loop r) ∧ rargs.size = r.params.size ∧ RoundIn Fence.wide 0 P b r.fn (setParams r rargs) r.assign r.body w (CallPost g O w σ out) := by
  simp only [cfOf] at hout
  unfold roundI at hout
  split at hout
  · rename_i L hσ
    split at hout
    · rename_i ts hst0 hset
      obtain ⟨r, hw, hL, hlt⟩ := loop_of hR hι hσ
      obtain ⟨m, hm, hpm, hca, hcb⟩ := hL.code
      rw [hC] at hca hcb
      have hsetlen : ∀ {ps : List Nat} {vs : List IVal} {t t' : Ts}, t.setAll ps vs = some t' → ps.length = vs.length := by
        intro ps
        induction ps with
        | nil => intro vs t t' h; cases vs <;> simp [Ts.setAll] at h ⊢
        | cons p ps ih => intro vs t t' h; cases vs <;> simp [Ts.setAll] at h ⊢; exact ih h
      have hpl := hsetlen hset
      have hsz : rargs.size = r.params.size := by
        have := hL.ps
        have e1 : r.params.size = L.ps.length := by rw [← this]; simp
        rw [e1, hpl, hlen]; simp
      refine ⟨r, hw, hsz, ?_⟩
      have hroots : R g O (args.zip rargs.toList ++ L.ts.roots r.tmps) σ w := by
        have h1 := pushAll (ps := L.ts.roots r.tmps) (fun p hp => by
          simp only [Ts.roots, List.mem_map] at hp
          obtain ⟨q, hq, rfl⟩ := hp
          obtain ⟨k1, k2⟩ := hL.vals q hq
          exact ⟨k1, by rw [← k2]; exact own3_un3 _ _⟩) hR
        exact h1.perm List.perm_append_comm
      obtain ⟨k1, k2, k3, k4⟩ := setAll_R hset hlen hL.wt (fun p hp => Nat.lt_of_lt_of_le (hpm p hp) hm) hroots
      rw [← hL.ps, ← setParams_eq] at k1 k2 k4
      have hstand : Stand (CR P) ⟨m, L.ts.nv, L.ts.m⟩ g O { ts := ts, σ := σ, wr := [] } { tmps := setParams r rargs, defers := [] } w := by
        refine ⟨k1, k2, by rw [k3.2.2, hL.ds]; exact .nil g, by rw [k4]; exact hm, ⟨k3.1, k3.2.1⟩, hC⟩
      refine roundIn_of_wpIn (F := Fence.wide) trivial ?_
      have hF : Fence.wide.inRound b = WF (some b) := rfl
      rw [hF]
      split at hout
      · rename_i s1 h1
        split at hout
        · rename_i L1 hσ1
          split at hout
          · rename_i hst1
            split at hout
            · rename_i x s2 h2
              split at hout
              · rename_i L2 hσ2
                -- the assignments
                refine hS r.assign L.a ⟨m, L.ts.nv, L.ts.m⟩ false _ .normal s1 hca h1 (some b) (fun h => by cases h) 0 _ _ w g O hstand ⟨fun e g1 O1 a1 w1 he hgo1 hs1 => ?_, fun v _ _ _ _ _ hx => by cases hx⟩
                simp only [exitOf, Option.some.injEq] at he
                subst he
                have hι1 := hgo1.grow.pre id b hι
                obtain ⟨r1, hw1, hL1, -⟩ := loop_of hs1.rel hι1 hσ1
                refine ⟨_, run_beginRound hw1 (by rw [hL1.st, hst1]; rfl), ?_⟩
                have hLb : LoopR g1 { L1 with st := 1 } { r1 with state := .busy } := ⟨rfl, hL1.ps, hL1.pend, hL1.wt, hL1.ds, hL1.vals, hL1.code⟩
                obtain ⟨hRb, hGb⟩ := hs1.rel.setLoop hι1 hσ1 hw1 hLb
                have hsb : Stand (CR P) ⟨m, L.ts.nv, L.ts.m⟩ g1 O1 { s1 with σ := s1.σ.set id (.loop { L1 with st := 1 }), wr := (id, false) :: s1.wr } a1 (w1.putObj b (.loop { r1 with state := .busy })) :=
                  ⟨hRb, hs1.len, hs1.defs, hs1.size, hs1.sh, hs1.code⟩
                -- what is behind the body
                have hend : ∀ (g2 : Gh) (O2 : List Nat) (a2 : Act) (w2 : World), Goes g1 O1 { s1 with σ := s1.σ.set id (.loop { L1 with st := 1 }), wr := (id, false) :: s1.wr } (w1.putObj b (.loop { r1 with state := .busy })) g2 O2 s2 w2 → R g2 O2 (s2.ts.roots a2.tmps) s2.σ w2 →
                    ∀ (jump : Option Code) (L3 : ILoop), L3.st = (if jump.isNone then 0 else 2) → L3.ts = L2.ts → L3.ps = L2.ps → L3.a = L2.a → L3.b = L2.b → jump = pendOf L3.pend →
                    out = finish σ.length false (.bool jump.isNone) { s2 with σ := s2.σ.set id (.loop L3), wr := (id, false) :: s2.wr } →
                    ∃ v w', (Instr.endRound b jump).run P w2 = .ok v w' ∧ CallPost g O w σ out (.returned v) w' := by
                  intro g2 O2 a2 w2 hgo2 hR2 jump L3 e1 e2 e3 e4 e5 e6 e7
                  have hι2 := hgo2.grow.pre id b hι1
                  obtain ⟨r2, hw2, hL2, -⟩ := loop_of hR2 hι2 hσ2
                  have hLe : LoopR g2 L3 { r2 with state := if jump.isNone then .ready else .done, pending := jump } := by
                    refine ⟨?_, by rw [e3]; exact hL2.ps, e6, by rw [e2]; exact hL2.wt, by rw [e2]; exact hL2.ds, by rw [e2]; exact hL2.vals, by rw [e2, e3, e4, e5]; exact hL2.code⟩
                    rw [e1]; cases jump <;> rfl
                  obtain ⟨hRe, hGe⟩ := hR2.setLoop hι2 hσ2 hw2 hLe
                  refine ⟨_, _, run_endRound jump hw2, ?_⟩
                  have hRf := (R.drops (l := s2.ts.roots a2.tmps) (l' := []) (by rw [List.append_nil]; exact hRe)).push (.bool jump.isNone) rfl
                  have hgr : Grow O g w O2 g2 _ := ((hgo1.grow.trans hGb).trans hgo2.grow).trans hGe
                  obtain ⟨wn1, q1, q2⟩ := hgo1.keep
                  obtain ⟨wn2, q3, q4⟩ := hgo2.keep
                  have hkeep : Keep σ (s2.σ.set id (.loop L3)) ((id, false) :: s2.wr) := by
                    rw [q3]; simp only; rw [q1]; simp only [List.append_nil]
                    have := ((q2.trans (Keep.setLoop hσ1 (L' := { L1 with st := 1 }) rfl)).trans q4).trans (Keep.setLoop hσ2 (L' := L3) e2)
                    simpa using this
                  obtain ⟨g'', k3, k4, k5, k6⟩ := finish_sim (s' := { s2 with σ := s2.σ.set id (.loop L3), wr := (id, false) :: s2.wr }) (v := .bool jump.isNone) (pan := false) hR hgr hRf hkeep
                  rw [← e7] at k4 k5 k6
                  exact ⟨g'', O2, _, by rw [k6]; rfl, k3, k4, k5⟩
                refine hS r.body L.b ⟨m, L.ts.nv, L.ts.m⟩ false _ x s2 hcb h2 (some b) (fun h => by cases h) 0 _ _ _ g1 O1 hsb ⟨fun e g2 O2 a2 w2 he hgo2 hs2 => ?_, fun v g2 O2 a2 w2 v' hx hgo2 hr2 hd2 => ?_⟩
                · split at hout
                  · simp only [exitOf, Option.some.injEq] at he
                    subst he
                    simp only [Option.some.injEq] at hout
                    exact hend g2 O2 a2 w2 hgo2 hs2.rel none { L2 with st := 0, pend := none } rfl rfl rfl rfl rfl rfl hout.symm
                  · split at hout
                    · rename_i hj
                      simp only [Option.some.injEq] at hout
                      obtain ⟨e', c', j1, j2, j3, j4⟩ := exitOf_jump (P := P) hj
                      rw [j1] at he
                      cases he
                      refine j3 _ _ _ _ (hend g2 O2 a2 w2 hgo2 hs2.rel (some c') { L2 with st := 2, pend := some x } rfl rfl rfl rfl rfl j2.symm hout.symm)
                    · cases hout
                · subst hx
                  simp only [isJump, Bool.false_eq_true, if_false] at hout
                  cases hout
              · cases hout
            · cases hout
          · cases hout
        · cases hout
      · cases hout
    · cases hout
  · cases hout

theorem cfOf_ok {F : IProg} {n : Nat} (hF : FOK P F) (hS : CodeSim P F n) : CallOK P (CR P) (cfOf F n) :=
  ⟨fun f args σ out h => cfn_ok hF hS f args σ out h, fun id args σ out h g O rargs w b hC hι hlen hR => cyl_ok hS id args σ out h g O rargs w b hC hι hlen hR⟩

def LoopSim (P : Program) (F : IProg) (n : Nat) : Prop :=
  ∀ (c : Code) (ic : ICode) (m : Shape) (top : Bool) (s : St) (x : IExit) (s' : St), codeOK P m top c ic = true → eval F n (.loop ic) s = some (x, s') →
    ∀ (ρ : Option Nat), (top = true → ρ = none) → ∀ (k : Nat) (Q : Exit → Act → World → Prop) (a : Act) (w : World) (g : Gh) (O : List Nat), Stand (CR P) m g O s a w → After (CR P) m g O s w x s' Q → Code.roundsIn (WF ρ) k P c Q n a w

theorem loop_sim {F : IProg} {n : Nat} (ih : CodeSim P F n) (il : LoopSim P F n) : LoopSim P F (n + 1) := by
  intro c ic m top s x s' hok hev ρ hρ k Q a w g O hst haft
  simp only [eval] at hev
  rw [roundsIn_succ]
  split at hev
  · rename_i s1 h1
    refine ih c ic m top s .normal s1 hok h1 ρ hρ k _ a w g O hst ⟨fun e g' O' a' w' he hk st => ?_, fun v g' O' a' w' v' hx => by cases hx⟩
    simp only [exitOf, Option.some.injEq] at he
    subst he
    exact il c ic m top s1 x s' hok hev ρ hρ k Q a' w' g' O' st (haft.of_goes hk)
  · rename_i hne
    refine ih c ic m top s x s' hok hev ρ hρ k _ a w g O hst (haft.imp fun e a' w' hp hx hq => ?_)
    cases x with
    | normal => exact absurd hev (by intro h; exact hne _ h)
    | panic v => obtain ⟨ch, rfl⟩ := hp v rfl; exact hq
    | exit id => have := hx _ rfl; subst this; exact hq
    | goto id => have := hx _ rfl; subst this; exact hq
    | ret => have := hx _ rfl; subst this; exact hq

theorem code_loop_sim {F : IProg} (hmx : P.follows .mixedOrders = true) (hF : FOK P F) : ∀ n, CodeSim P F n ∧ LoopSim P F n := by
  intro n
  induction n with
  | zero => exact ⟨fun c ic m top s x s1 _ hev => (by simp [eval] at hev), fun c ic m top s x s1 _ hev => (by simp [eval] at hev)⟩
  | succ n ih =>
    obtain ⟨ih, il⟩ := ih
    have hcf := cfOf_ok hF ih
    have il' := loop_sim ih il
    refine ⟨?_, il'⟩
    intro c ic m top s x s' hok hev ρ hρ k Q a w g O hst haft
    have hns : ic ≠ .stuck := fun e => by subst e; simp [eval] at hev
    cases c <;> cases ic <;> (try exact absurd rfl hns) <;> try (simp only [codeOK, Bool.false_eq_true] at hok)
    case skip.skip => simp only [eval, Option.some.injEq, Prod.mk.injEq] at hev; obtain ⟨rfl, rfl⟩ := hev; exact wpIn_skip (haft.1 _ g O a w rfl (.refl _ _ _ _) hst)
    case label.label => simp only [eval, Option.some.injEq, Prod.mk.injEq] at hev; obtain ⟨rfl, rfl⟩ := hev; exact wpIn_label (haft.1 _ g O a w rfl (.refl _ _ _ _) hst)
    case exit.exit id id' =>
      have := eq_of_beq hok; subst this
      simp only [eval, Option.some.injEq, Prod.mk.injEq] at hev; obtain ⟨rfl, rfl⟩ := hev; exact wpIn_exit (haft.1 _ g O a w rfl (.refl _ _ _ _) hst)
    case goto.goto id id' =>
      have := eq_of_beq hok; subst this
      simp only [eval, Option.some.injEq, Prod.mk.injEq] at hev; obtain ⟨rfl, rfl⟩ := hev; exact wpIn_goto (haft.1 _ g O a w rfl (.refl _ _ _ _) hst)
    case ret.ret => simp only [eval, Option.some.injEq, Prod.mk.injEq] at hev; obtain ⟨rfl, rfl⟩ := hev; exact wpIn_ret (haft.1 _ g O a w rfl (.refl _ _ _ _) hst)
    case region.ops id ops d l =>
      cases d <;> simp only [codeOK, Bool.false_eq_true] at hok
      simp only [Bool.and_eq_true] at hok
      refine wpIn_region ?_
      have := ops_sim (ρ := ρ) (n := k) (ops := ops) (Q := Q) (pre := []) (os := ops.toList) hcf (by simp) hok.1 hok.2 hev hst haft
      simpa [List.range_eq_range'] using this
    case region.draw id ops d l pairs =>
      cases d <;> simp only [codeOK, Bool.false_eq_true] at hok
      simp only [eval] at hev
      split at hev
      · rename_i s1 ls h1
        split at hev
        · rename_i hp
          simp only [Option.some.injEq, Prod.mk.injEq] at hev
          obtain ⟨rfl, rfl⟩ := hev
          exact draw_sim hmx hcf (eval_chg n).1 hok h1 hp hst haft
        · cases hev
      · cases hev
    case seq.seq c1 c2 i1 i2 =>
      simp only [Bool.and_eq_true] at hok
      simp only [eval] at hev
      refine wpIn_seq ?_
      split at hev
      · rename_i s1 h1
        refine ih c1 i1 m top s .normal s1 hok.1 h1 ρ hρ k _ a w g O hst ⟨fun e g' O' a' w' he hk st => ?_, fun v g' O' a' w' v' hx => by cases hx⟩
        simp only [exitOf, Option.some.injEq] at he
        subst he
        exact ih c2 i2 m top s1 x s' hok.2 hev ρ hρ k Q a' w' g' O' st (haft.of_goes hk)
      · rename_i hne
        refine ih c1 i1 m top s x s' hok.1 hev ρ hρ k _ a w g O hst (haft.imp fun e a' w' hp hx hq => ?_)
        cases x with
        | normal => exact absurd hev (by intro h; exact hne _ h)
        | panic v => obtain ⟨ch, rfl⟩ := hp v rfl; exact hq
        | exit id => have := hx _ rfl; subst this; exact hq
        | goto id => have := hx _ rfl; subst this; exact hq
        | ret => have := hx _ rfl; subst this; exact hq
    case cond.cond cx c1 c2 ix i1 i2 =>
      simp only [Bool.and_eq_true] at hok
      obtain ⟨hx, h1, h2⟩ := hok
      simp only [eval] at hev
      have hb : ∀ b ts', ix.get s.ts = some (.bool b, ts') → a.eval cx = .bool b := by
        intro b ts' hg
        have h3 := (get_sim (l := []) hx hg hst.len (by simpa using hst.rel)).1
        exact ((h3.vals (.bool b, a.eval cx) (by simp)).bool_iff b).2 rfl
      split at hev
      · rename_i ts' hg; exact wpIn_cond_true (hb true ts' hg) (ih c1 i1 m top s x s' h1 hev ρ hρ k Q a w g O hst haft)
      · rename_i ts' hg; exact wpIn_cond_false (hb false ts' hg) (ih c2 i2 m top s x s' h2 hev ρ hρ k Q a w g O hst haft)
      · cases hev
    case block.block id c1 id' i1 =>
      simp only [Bool.and_eq_true] at hok
      have := eq_of_beq hok.1; subst this
      simp only [eval] at hev
      refine wpIn_block ?_
      split at hev
      · rename_i i s1 h1
        split at hev
        · rename_i hi
          subst hi
          simp only [Option.some.injEq, Prod.mk.injEq] at hev
          obtain ⟨rfl, rfl⟩ := hev
          refine ih c1 i1 m top s (.exit i) s1 hok.2 h1 ρ hρ k _ a w g O hst ⟨fun e g' O' a' w' he hk st => ?_, fun v g' O' a' w' v' hx => by cases hx⟩
          simp only [exitOf, Option.some.injEq] at he
          subst he
          simp only [Exit.inBlock, if_true]
          exact haft.1 _ g' O' a' w' rfl hk st
        · rename_i hi
          simp only [Option.some.injEq, Prod.mk.injEq] at hev
          obtain ⟨rfl, rfl⟩ := hev
          refine ih c1 i1 m top s (.exit i) s1 hok.2 h1 ρ hρ k _ a w g O hst ⟨fun e g' O' a' w' he hk st => ?_, fun v g' O' a' w' v' hx => by cases hx⟩
          simp only [exitOf, Option.some.injEq] at he
          subst he
          simp only [Exit.inBlock, hi, if_false]
          exact haft.1 _ g' O' a' w' rfl hk st
      · rename_i hne
        refine ih c1 i1 m top s x s' hok.2 hev ρ hρ k _ a w g O hst (haft.imp fun e a' w' hp hx hq => ?_)
        cases x with
        | exit i => exact absurd hev (by intro h; exact hne _ _ h)
        | panic v => obtain ⟨ch, rfl⟩ := hp v rfl; exact hq
        | normal => have := hx _ rfl; subst this; exact hq
        | goto i => have := hx _ rfl; subst this; exact hq
        | ret => have := hx _ rfl; subst this; exact hq
    case scope.scope c1 i1 =>
      simp only [eval] at hev
      refine wpIn_scope_straight ?_
      split at hev
      · cases hev
      · rename_i hne
        refine ih c1 i1 m top s x s' hok hev ρ hρ k _ a w g O hst (haft.imp fun e a' w' hp hx hq => ?_)
        cases x with
        | goto i => exact absurd hev (by intro h; exact hne _ _ h)
        | panic v => obtain ⟨ch, rfl⟩ := hp v rfl; exact hq
        | normal => have := hx _ rfl; subst this; exact hq
        | exit i => have := hx _ rfl; subst this; exact hq
        | ret => have := hx _ rfl; subst this; exact hq
    case rangeFunc.rangeF g0 ps ca cb x0 ps' ia ib =>
      simp only [Bool.and_eq_true] at hok
      obtain ⟨htop, hx, hps, hall, hca, hcb⟩ := hok
      have hρ0 := hρ htop
      subst hρ0
      have hps := eq_of_beq hps
      simp only [List.all_eq_true, decide_eq_true_eq] at hall
      simp only [eval] at hev
      split at hev
      · rename_i gf us ws ts' hget
        split at hev
        · rename_i v σ1 wr1 hc
          split at hev
          · rename_i L hσL
            split at hev
            · cases hev
            · rename_i hst1
              have hR0 := hst.rel
              have h1 := (get_sim (l := []) hx hget hst.len (by simpa using hst.rel)).1
              have hV0 : V g (.fn (.func gf) us ws) (a.eval g0) := h1.vals (.fn (.func gf) us ws, a.eval g0) (by simp)
              generalize hrv : a.eval g0 = rv at hV0
              cases hV0 with
              | fn _ _ _ firsts caps hl1 hv1 hf1 hl2 hv2 hf2 =>
              -- the two blocks
              let L0 : ILoop := ⟨0, { s.ts with t := s.ts.t.un, ds := [] }, ps', ia, ib, none⟩
              let gA : Gh := g.fresh w.heap.size
              let wA : World := w.alloc (.deferred (some []))
              have hRA : R gA (w.heap.size :: O) (s.ts.roots a.tmps) (s.σ ++ [.defr]) wA :=
                (hR0.push (undef_V g) rfl).new (obr := .deferred (some [])) (ob := .defr) (fun _ => alloc_new w _) ⟨[], rfl, by simp⟩
              have hGA : Grow O g w (w.heap.size :: O) gA wA := growFresh hR0 _
              have hszA : wA.heap.size = w.heap.size + 1 := by simp [wA]
              let gB : Gh := gA.fresh wA.heap.size
              have hιA : ∀ (id b : Nat), g.ι[id]? = some b → gB.ι[id]? = some b := by
                intro id b hb
                have h2 := hGA.pre id b hb
                simp only [gB, Gh.fresh]
                rw [List.getElem?_append_left (lt_of_get h2)]; exact h2
              have hVB : ∀ {y : IVal} {u : Value}, V g y u → own3 y u = [] → V gB y u := fun hv ho => hv.mono hιA (fun _ _ _ h => h) (by rw [ho]; simp)
              have hgBC : gB.C = CR P := hst.code
              have hwp : ∀ fn : FuncId, ∃ (l : Nat) (mark : List Deferred) (w₁ : World) (d : Deferred) (w₁' : World) (f : FuncId) (args : Array Value) (w₂ : World),
                  (Instr.enterLoop fn a.tmps ps ca cb (WF none).round).run P w = .ok (l, mark) w₁ ∧ (resolve a.eval (rangeCall g0 l) 0).run P w₁ = .ok d w₁' ∧ (∀ f', Target.leads P w₁' d.target d.args = some f' → (WF none).fn f') ∧
                  (invoke d.target d.args).run P w₁' = .ok (.enter f args) w₂ ∧ ((WF none).depth.isSome = true → 1 ≤ k) ∧ CallsIn (WF none) (k - 1) P f args w₂ (rangePost (WF none) k P l Q { a with defers := mark ++ a.defers }) := by
                intro fn
                let r0 : Loop := { state := .ready, pending := none, fn := fn, tmps := a.tmps, params := ps, assign := ca, body := cb, defers := w.heap.size }
                let wB : World := wA.alloc (.loop r0)
                have hL0 : LoopR gB L0 r0 := by
                  refine ⟨rfl, by rw [hps], rfl, fun j p hp => ?_, rfl, fun p hp => ?_, m.n, hst.size, hall, ?_, ?_⟩
                  · simp only [L0, un_get, Option.map_eq_some_iff] at hp
                    obtain ⟨q, hq, rfl⟩ := hp
                    exact hst.len j q hq
                  · simp only [L0, un_list, List.mem_map] at hp
                    obtain ⟨q, hq, rfl⟩ := hp
                    refine ⟨hVB (V.un3 (hR0.vals (q.2, a.tmps.getD q.1 undef) ?_)) (own3_un3 _ _), un3_un3 _⟩
                    simp only [Ts.roots, List.mem_map]; exact ⟨q, hq, rfl⟩
                  · rw [hgBC]; show codeOK P ⟨m.n, s.ts.nv, s.ts.m⟩ false ca ia = true
                    rw [hst.sh.1, hst.sh.2]; exact hca
                  · rw [hgBC]; show codeOK P ⟨m.n, s.ts.nv, s.ts.m⟩ false cb ib = true
                    rw [hst.sh.1, hst.sh.2]; exact hcb
                have hRB : R gB (wA.heap.size :: w.heap.size :: O) (s.ts.roots a.tmps) ((s.σ ++ [.defr]) ++ [.loop L0]) wB :=
                  (hRA.push (undef_V gA) rfl).new (obr := .loop r0) (ob := .loop L0) (fun _ => ⟨r0, alloc_new wA _, hL0⟩) ⟨[], rfl, by simp⟩
                have hGB : Grow O g w (wA.heap.size :: w.heap.size :: O) gB wB := hGA.trans (growFresh hRA _)
                have hlen : g.ι.length = s.σ.length := hR0.len
                have hι0 : gB.ι[s.σ.length]? = some w.heap.size := by
                  simp only [gB, gA, Gh.fresh, ← hlen]
                  rw [List.append_assoc, List.getElem?_append_right (Nat.le_refl _)]; simp
                have hι1 : gB.ι[s.σ.length + 1]? = some (w.heap.size + 1) := by
                  simp only [gB, gA, Gh.fresh, ← hlen]
                  rw [List.append_assoc, List.getElem?_append_right (by omega)]; simp [hszA]
                have hσe : s.σ ++ [.defr, .loop L0] = (s.σ ++ [.defr]) ++ [.loop L0] := by simp
                obtain ⟨⟨gfn, q1, q2, q3⟩, hcalls⟩ := hcf.fn gf _ _ _ hc
                -- the arguments
                let rargs : Array Value := firsts ++ #[.func (.yield (w.heap.size + 1)) #[] #[]] ++ caps
                have hz : (us ++ [IVal.yl (s.σ.length + 1)] ++ ws).zip rargs.toList = us.zip firsts.toList ++ [(IVal.yl (s.σ.length + 1), Value.func (.yield (w.heap.size + 1)) #[] #[])] ++ ws.zip caps.toList := by
                  simp only [rargs, Array.toList_append]
                  rw [List.zip_append (by simp; omega), List.zip_append (by simpa using hl1)]
                  rfl
                have hRargs : R gB (wA.heap.size :: w.heap.size :: O) ((us ++ [IVal.yl (s.σ.length + 1)] ++ ws).zip rargs.toList ++ s.ts.roots a.tmps) (s.σ ++ [.defr, .loop L0]) wB := by
                  rw [hσe]
                  refine pushAll (fun p hp => ?_) hRB
                  rw [hz] at hp
                  have hfl : ∀ (xs : List IVal) (vs : Array Value), (∀ (i : Nat) x v, xs[i]? = some x → vs[i]? = some v → V g x v) → (∀ x ∈ xs, Flat x) → p ∈ xs.zip vs.toList → V gB p.1 p.2 ∧ own3 p.1 p.2 = [] := by
                    intro xs vs hv hf hp
                    obtain ⟨i, hi⟩ := mem_idx hp
                    rw [List.getElem?_zip_eq_some] at hi
                    have hfx := hf p.1 (List.mem_of_getElem? hi.1)
                    have ho := own3_flat hfx p.2
                    exact ⟨hVB (hv i p.1 p.2 hi.1 (by simpa using hi.2)) ho, ho⟩
                  rcases List.mem_append.1 hp with hp | hp
                  · rcases List.mem_append.1 hp with hp | hp
                    · exact hfl us firsts hv1 hf1 hp
                    · simp only [List.mem_singleton] at hp; subst hp
                      exact ⟨.yl _ _ hι1, rfl⟩
                  · exact hfl ws caps hv2 hf2 hp
                have hrl : (us ++ [IVal.yl (s.σ.length + 1)] ++ ws).length = rargs.toList.length := by
                  simp [rargs]; omega
                refine ⟨w.heap.size + 1, _, wB, { target := .fn (.func gf) caps, args := firsts ++ #[.func (.yield (w.heap.size + 1)) #[] #[]] }, wB, gf, rargs, wB, run_enterLoop_outer fn a.tmps ps ca cb, ?_, fun _ _ => trivial, ?_, fun h => by simp [WF, Fence.wide] at h, ?_⟩
                · simp [resolve, rangeCall, hrv, Deferred.ofValue]; rfl
                · simp [invoke, callFunc, q1, q2, q3, rargs]
                · refine callsIn_WF ((hcalls gB _ rargs wB hgBC hrl hRargs.sub_own).mono ?_)
                  rintro e w' ⟨g', O', v', rfl, hg, hR', hk⟩
                  obtain ⟨O'', hR'', hg''⟩ := hRargs.frame hg hR'
                  have hι1' := hg''.pre _ _ hι1
                  obtain ⟨r3, hw3, hL3, hlt3⟩ := loop_of hR'' hι1' hσL
                  have hR3 : R g' O'' (s.ts.roots a.tmps) σ1 w' := R.drops (l := [(v, v')]) hR''
                  obtain ⟨hRd, hGd⟩ := hR3.putObj (ob' := .dead) (x := .loop { r3 with state := .exhausted }) hι1' hσL (by simp) hlt3 (by rw [hw3]; simp) trivial (.inr rfl) rfl
                  have hbusy : r3.state ≠ .busy := by
                    rw [hL3.st]
                    match hh : L.st with
                    | 0 => simp [stOf]
                    | 1 => exact absurd hh hst1
                    | 2 => simp [stOf]
                    | (j + 3) => simp [stOf]
                  have hgr : Grow O g w O'' g' (w'.putObj (w.heap.size + 1) (.loop { r3 with state := .exhausted })) := (hGB.trans hg'').trans hGd
                  have hgoes : Goes g O s w g' O'' { ts := { s.ts with ds := s.σ.length :: s.ts.ds }, σ := σ1.set (s.σ.length + 1) .dead, wr := (s.σ.length + 1, false) :: (wr1 ++ s.wr) } (w'.putObj (w.heap.size + 1) (.loop { r3 with state := .exhausted })) := by
                    refine ⟨hgr, (s.σ.length + 1, false) :: wr1, by simp, ?_⟩
                    have := (((Keep.snoc s.σ .defr).trans (Keep.snoc _ (.loop L0))).trans (by rw [← hσe]; exact hk)).trans (Keep.set (σ := σ1) (id := s.σ.length + 1) (ob := .dead) (rf := false) fun n _ _ _ => trivial)
                    simpa using this
                  have hstand : Stand (CR P) m g' O'' { ts := { s.ts with ds := s.σ.length :: s.ts.ds }, σ := σ1.set (s.σ.length + 1) .dead, wr := (s.σ.length + 1, false) :: (wr1 ++ s.wr) } { a with defers := [{ target := .collected w.heap.size, args := #[] }] ++ a.defers } (w'.putObj (w.heap.size + 1) (.loop { r3 with state := .exhausted })) := by
                    refine ⟨hRd, hst.len, ⟨by simp [hst.defs.1], fun i id d h1 h2 => ?_⟩, hst.size, hst.sh, hgr.code.trans hst.code⟩
                    cases i with
                    | zero =>
                      simp at h1 h2
                      subst h1 h2
                      exact ⟨w.heap.size, hg''.pre _ _ hι0, rfl⟩
                    | succ i =>
                      simp at h1 h2
                      obtain ⟨b, p1, p2⟩ := hst.defs.2 i id d h1 h2
                      exact ⟨b, hgr.pre _ _ p1, p2⟩
                  refine ⟨_, _, run_endLoop hw3 hbusy, ?_⟩
                  have hpend := hL3.pend
                  generalize w'.putObj (w.heap.size + 1) (.loop { r3 with state := .exhausted }) = w4 at hgoes hstand ⊢
                  rw [hpend]
                  split at hev
                  · rename_i hpn
                    simp only [Option.some.injEq, Prod.mk.injEq] at hev
                    obtain ⟨rfl, rfl⟩ := hev
                    rw [hpn]
                    exact haft.1 _ g' O'' _ _ rfl hgoes hstand
                  · rename_i x1 hpn
                    split at hev
                    · rename_i hj
                      simp only [Option.some.injEq, Prod.mk.injEq] at hev
                      obtain ⟨rfl, rfl⟩ := hev
                      obtain ⟨e', c', j1, j2, j3, j4⟩ := exitOf_jump (P := P) hj
                      rw [hpn, j2]
                      exact j4 _ _ _ _ _ (haft.1 _ g' O'' _ _ j1 hgoes hstand)
                    · cases hev
              exact wpIn_rangeFunc fun fn _ => hwp fn
          · cases hev
        · cases hev
      · cases hev
    case loop.loop c1 i1 => exact wpIn_loop_rounds (n + 1) (il' c1 i1 m top s x s' hok hev ρ hρ k Q a w g O hst haft)

theorem call_sim {F : IProg} (hmx : P.follows .mixedOrders = true) (hF : FOK P F) (n : Nat) : CallOK P (CR P) (cfOf F n) := cfOf_ok hF (code_loop_sim hmx hF n).1

end Go.Idl
