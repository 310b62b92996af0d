/-
  Calls: the frame; operations that call.
-/
import Derived.Test.YtkjcgfadojfeeaaIdlOpsK
import Derived.RangeFuncRecord
set_option linter.unusedSectionVars false
set_option linter.unusedVariables false
set_option linter.unusedSimpArgs false
namespace Go.Idl
variable [Globs]

variable {P : Program} {o : Oper} {a : Act} {g : Gh} {O : List Nat} {w : World} {s : St} {res : Res} {cf : CallF}

theorem ownL_append (l l' : Roots) : ownL (l ++ l') = ownL l ++ ownL l' := by simp [ownL]

/-- What a callee gets: its arguments, and the store. -/
theorem R.sub_own {A l : Roots} {σ : List IObj} (h : R g O (A ++ l) σ w) : R g (ownL A ++ ownS w g.ι σ) A σ w := by
  have hn := h.nodup
  have hs := h.sub
  rw [ownL_append] at hn hs
  have hsub : (ownL A ++ ownS w g.ι σ).Sublist (ownL A ++ ownL l ++ ownS w g.ι σ) := by
    rw [List.append_assoc]; exact List.Sublist.append (.refl _) (List.sublist_append_right _ _)
  have hO : ∀ b ∈ ownL A ++ ownS w g.ι σ, b ∈ O := fun b hb => hs b (hsub.mem hb)
  exact ⟨h.len, fun p hp => h.vals p (by simp [hp]), h.objs, hn.sublist hsub, fun b hb => hb, fun b hb => h.lt b (hO b hb), h.claim, h.apart, fun b hb => h.spare b (hO b hb), h.glob⟩

/-- What stands beside a call stays. -/
theorem R.frame {A A' l : Roots} {σ σ' : List IObj} {g' : Gh} {Oa' : List Nat} {w' : World} (h : R g O (A ++ l) σ w) (hg : Grow (ownL A ++ ownS w g.ι σ) g w Oa' g' w') (h' : R g' Oa' A' σ' w') :
    ∃ O', R g' O' (A' ++ l) σ' w' ∧ Grow O g w O' g' w' := by
  have hn := h.nodup
  have hs := h.sub
  rw [ownL_append] at hn hs
  have hOa : ∀ b ∈ ownL A ++ ownS w g.ι σ, b ∈ O := fun b hb => hs b (by
    rcases List.mem_append.1 hb with hb | hb
    · simp [hb]
    · simp [hb])
  have hlO : ∀ b ∈ ownL l, b ∈ O := fun b hb => hs b (by simp [hb])
  have hdis : ∀ b ∈ ownL l, b ∉ ownL A ++ ownS w g.ι σ := by
    intro b hb hm
    rw [List.nodup_append] at hn
    obtain ⟨h1, h2, h3⟩ := hn
    rw [List.nodup_append] at h1
    rcases List.mem_append.1 hm with hm | hm
    · exact h1.2.2 b hm b hb rfl
    · exact h3 b (by simp [hb]) b hm rfl
  have hdis' : ∀ b ∈ ownL l, b ∉ Oa' := by
    intro b hb hm
    rcases hg.fresh b hm with h1 | h1
    · exact hdis b hb h1
    · have := h.lt b (hlO b hb); omega
  refine ⟨Oa' ++ O.filter (fun b => decide (b ∉ ownL A ++ ownS w g.ι σ)), ⟨h'.len, fun p hp => ?_, h'.objs, ?_, fun b hb => ?_, fun b hb => ?_, h'.claim, h'.apart, fun b hb => ?_, h'.glob⟩, ⟨hg.size, fun b hb hO => hg.same b hb (fun hm => hO (hOa b hm)), hg.mono, hg.pre, fun b hb => ?_, hg.code, hg.os, hg.tape, hg.output⟩⟩
  · rcases List.mem_append.1 hp with hp | hp
    · exact h'.vals p hp
    · have hpl : ∀ b ∈ own3 p.1 p.2, b ∈ ownL l := fun b hb => by
        simp only [ownL, List.mem_flatten, List.mem_map]; exact ⟨_, ⟨p, hp, rfl⟩, hb⟩
      exact (h.vals p (by simp [hp])).mono hg.pre hg.mono fun b hb => (hg.same b (h.lt b (hlO b (hpl b hb))) (hdis b (hpl b hb))).2.1
  · rw [ownL_append, List.append_assoc]
    have h1 := h'.nodup
    have h2 : (ownL l).Nodup := (List.nodup_append.1 (List.nodup_append.1 hn).1).2.1
    have hp : (ownL A' ++ (ownL l ++ ownS w' g'.ι σ')).Perm (ownL l ++ (ownL A' ++ ownS w' g'.ι σ')) := by
      rw [← List.append_assoc, ← List.append_assoc]
      exact List.perm_append_comm.append_right _
    rw [hp.nodup_iff, List.nodup_append]
    exact ⟨h2, h1, fun b hb c hc e => hdis' b hb (e ▸ h'.sub c hc)⟩
  · rw [ownL_append] at hb
    simp only [List.mem_append] at hb
    rcases hb with (hb | hb) | hb
    · exact List.mem_append_left _ (h'.sub b (by simp [hb]))
    · refine List.mem_append_right _ (List.mem_filter.2 ⟨hlO b hb, ?_⟩)
      simpa using hdis b hb
    · exact List.mem_append_left _ (h'.sub b (by simp [hb]))
  · rcases List.mem_append.1 hb with hb | hb
    · exact h'.lt b hb
    · exact Nat.lt_of_lt_of_le (h.lt b (List.mem_filter.1 hb).1) hg.size
  · rcases List.mem_append.1 hb with hb | hb
    · exact h'.spare b hb
    · obtain ⟨hbO, hbn⟩ := List.mem_filter.1 hb
      have hbn' : b ∉ ownL A ++ ownS w g.ι σ := by simpa using hbn
      obtain ⟨e1, e2, e3⟩ := hg.same b (h.lt b hbO) hbn'
      intro ext top ht
      rw [e2] at ht
      obtain ⟨⟨c, el, fz, q1, q2, q3⟩, q4⟩ := h.spare b hbO ext top ht
      exact ⟨⟨c, el, fz, by rw [e1]; exact q1, q2, q3⟩, fun o ho => by rw [e3]; exact q4 o ho⟩
  · rcases List.mem_append.1 hb with hb | hb
    · rcases hg.fresh b hb with h1 | h1
      · exact .inl (hOa b h1)
      · exact .inr h1
    · exact .inl (List.mem_filter.1 hb).1

/-! ### what a call comes to -/
def WF (ρ : Option Nat) : Fence := { Fence.wide with round := ρ }

def endOf (pan : Bool) (v : Value) : Ending := if pan then .panicked [{ v, recovered := false }] else .returned v

def Callable (P : Program) (f : FuncId) : Prop := ∃ fn, P.funcs[f]? = some fn ∧ fn.name ≠ "runtime.NumGoroutine" ∧ fn.body ≠ none

/-- What a call leaves. -/
def CallPost (g : Gh) (O : List Nat) (w : World) (σ : List IObj) (out : Out) (e : Ending) (w' : World) : Prop :=
  ∃ g' O' v', e = endOf out.pan v' ∧ Grow O g w O' g' w' ∧ R g' O' [(out.v, v')] out.σ w' ∧ Keep σ out.σ out.wr

abbrev CRel := Nat → Nat → Nat → Code → ICode → Prop

def setParams (r : Loop) (rargs : Array Value) : Array Value := (r.params.zip rargs).foldl (fun tmps (t, a) => tmps.setIfInBounds t a) r.tmps

structure CallOK (P : Program) (C0 : CRel) (cf : CallF) : Prop where
  fn : ∀ f args σ out, cf (.f f) args σ = some out → Callable P f ∧
    ∀ g O (rargs : Array Value) w, g.C = C0 → args.length = rargs.toList.length → R g O (args.zip rargs.toList) σ w → CallsIn Fence.wide 0 P f rargs w (CallPost g O w σ out)
  yl : ∀ id args σ out, cf (.y id) args σ = some out → ∀ g O (rargs : Array Value) w b, g.C = C0 → g.ι[id]? = some b → args.length = rargs.toList.length → R g O (args.zip rargs.toList) σ w →
    ∃ r : Loop, w.heap[b]? = some (.loop r) ∧ rargs.size = r.params.size ∧ RoundIn Fence.wide 0 P b r.fn (setParams r rargs) r.assign r.body w (CallPost g O w σ out)

theorem roundIn_WF {ρ : Option Nat} {n l : Nat} {f : FuncId} {tmps : Array Value} {x y : Code} {R : Ending → World → Prop} (h : RoundIn Fence.wide 0 P l f tmps x y w R) : RoundIn (WF ρ) n P l f tmps x y w R :=
  ⟨trivial, fun c cs _ => h.2 c cs (room_wide _)⟩

theorem callsIn_WF {ρ : Option Nat} {n : Nat} {f : FuncId} {args : Array Value} {R : Ending → World → Prop} (h : CallsIn Fence.wide 0 P f args w R) : CallsIn (WF ρ) n P f args w R := by
  cases ρ with
  | none => exact h.more (Nat.zero_le _)
  | some l => exact (h.more (Nat.zero_le _)).inRound l

/-- An operation, met. -/
def OpRes (P : Program) (o : Oper) (a : Act) (g : Gh) (O : List Nat) (w : World) (s : St) (res : Res) : Prop :=
  ∀ (ρ : Option Nat) (n : Nat) (next : Act → World → Prop) (Q : Exit → Act → World → Prop),
    (res.pan = false → ∀ v' w', Post g O w s res.v v' res.s a w' → next (a.put o.dst v') w') →
    (res.pan = true → ∀ v' w', Post g O w s res.v v' res.s a w' → Q (.panic [{ v := v', recovered := false }]) a w') →
    o.wpIn (WF ρ) n P a w next Q

theorem OpRes.of_val (h : SimV P o a g O w s res) (hd : ∀ c, o.op ≠ .defer c) : OpRes P o a g O w s res := by
  intro ρ n next Q h1 _
  obtain ⟨hp, v', w', nx, hrun, hnx, hpost⟩ := h
  refine ⟨fun _ _ => trivial, ?_⟩
  rw [Oper.semAt_eq _ _ _ hd, hrun]
  cases nx with
  | value u => simp only [nxVal] at hnx; subst hnx; exact h1 hp _ _ hpost
  | skip => simp only [nxVal] at hnx; subst hnx; exact h1 hp _ _ hpost
  | _ => exact absurd hnx (by simp [nxVal])

/-- A call of a function, the arguments at hand. -/
theorem opRes_call {f : FuncId} {vs : List IVal} {ts : Ts} {rargs : Array Value} {C0 : CRel} (hcf : CallOK P C0 cf) (hC : g.C = C0) (hd : ∀ c, o.op ≠ .defer c) (hrun : Callable P f → (execOp a.eval o).run P w = .ok (.enter f rargs) w) (hlen : vs.length = rargs.toList.length)
    (hR : R g O (vs.zip rargs.toList ++ ts.roots a.tmps) s.σ w) (hl : WT ts a.tmps) (hs : stepCall cf (.f f) vs ts s = some res) : OpRes P o a g O w s res := by
  intro ρ n next Q h1 h2
  unfold stepCall at hs
  split at hs
  · rename_i out hout
    simp only [Option.some.injEq] at hs
    subst hs
    obtain ⟨hcall, hc⟩ := hcf.fn f vs s.σ out hout
    refine ⟨fun _ _ => trivial, ?_⟩
    rw [Oper.semAt_eq _ _ _ hd, hrun hcall, Oper.uponIn_enter]
    refine ⟨fun h => by simp [WF, Fence.wide] at h, ?_⟩
    refine callsIn_WF ((hc g _ rargs w hC hlen hR.sub_own).mono ?_)
    rintro e w' ⟨g', O', v', rfl, hg, hR', hk⟩
    obtain ⟨O'', hR'', hg''⟩ := hR.frame hg hR'
    have hpost : Post g O w s out.v v' (addOut out s ts).s a w' := ⟨g', O'', out.wr, hg'', by simpa [addOut] using hR'', hl, rfl, hk⟩
    cases hpan : out.pan with
    | false =>
      have : endOf false v' = .returned v' := rfl
      rw [this]
      exact h1 (by simp [addOut, hpan]) _ _ hpost
    | true =>
      have : endOf true v' = .panicked [{ v := v', recovered := false }] := rfl
      rw [this]
      exact h2 (by simp [addOut, hpan]) _ _ hpost
  · cases hs

/-- A call of a loop's yield, the arguments at hand. -/
theorem opRes_yield {id b : Nat} {vs : List IVal} {ts : Ts} {rargs : Array Value} {C0 : CRel} (hcf : CallOK P C0 cf) (hC : g.C = C0) (hd : ∀ c, o.op ≠ .defer c)
    (hrun : ∀ r : Loop, w.heap[b]? = some (.loop r) → rargs.size = r.params.size → (execOp a.eval o).run P w = .ok (.round b r.fn (setParams r rargs) r.assign r.body) w) (hι : g.ι[id]? = some b) (hlen : vs.length = rargs.toList.length)
    (hR : R g O (vs.zip rargs.toList ++ ts.roots a.tmps) s.σ w) (hl : WT ts a.tmps) (hs : stepCall cf (.y id) vs ts s = some res) : OpRes P o a g O w s res := by
  intro ρ n next Q h1 h2
  unfold stepCall at hs
  split at hs
  · rename_i out hout
    simp only [Option.some.injEq] at hs
    subst hs
    obtain ⟨r, q1, q2, q3⟩ := hcf.yl id vs s.σ out hout g _ rargs w b hC hι hlen hR.sub_own
    refine ⟨fun _ _ => trivial, ?_⟩
    rw [Oper.semAt_eq _ _ _ hd, hrun r q1 q2, Oper.uponIn_round]
    refine ⟨fun h => by simp [WF, Fence.wide] at h, ?_⟩
    refine roundIn_WF (q3.mono ?_)
    rintro e w' ⟨g', O', v', rfl, hg, hR', hk⟩
    obtain ⟨O'', hR'', hg''⟩ := hR.frame hg hR'
    have hpost : Post g O w s out.v v' (addOut out s ts).s a w' := ⟨g', O'', out.wr, hg'', by simpa [addOut] using hR'', hl, rfl, hk⟩
    cases hpan : out.pan with
    | false =>
      have : endOf false v' = .returned v' := rfl
      rw [this]
      exact h1 (by simp [addOut, hpan]) _ _ hpost
    | true =>
      have : endOf true v' = .panicked [{ v := v', recovered := false }] := rfl
      rw [this]
      exact h2 (by simp [addOut, hpan]) _ _ hpost
  · cases hs

theorem run_yieldOp {c : Call} {r : Operand} {b : Nat} {L : Loop} (hop : o.op = .call c) (hc : c.callee = .value r) (hr : a.eval r = .func (.yield b) #[] #[]) (h : w.heap[b]? = some (.loop L)) (hs : (c.args.map a.eval).size = L.params.size) :
    (execOp a.eval o).run P w = .ok (.round b L.fn (setParams L (c.args.map a.eval)) L.assign L.body) w := by
  have := run_yield (P := P) (w := w) (args := c.args.map a.eval) h hs
  simp [execOp, hop, resolve, hc, hr, Deferred.ofValue, invoke, setParams, this]

theorem run_call {f : FuncId} {c : Call} {args : Array Value} {caps firsts : Array Value} (hop : o.op = .call c) {r : Operand} (hc : c.callee = .value r) (hr : a.eval r = .func (.func f) firsts caps) (hf : Callable P f) :
    (execOp a.eval o).run P w = .ok (.enter f (firsts ++ c.args.map a.eval ++ caps)) w := by
  obtain ⟨fn, h1, h2, h3⟩ := hf
  simp [execOp, hop, resolve, hc, hr, Deferred.ofValue, invoke, callFunc, h1, h2, h3]

theorem opRes_callStatic {f : FuncId} {c : Call} {xs : List Opd} {C0 : CRel} (hcf : CallOK P C0 cf) (hC : g.C = C0) (hop : o.op = .call c) (hc : c.callee = .value (.func f)) (hx : opdsOK xs c.args.toList = true) (hs : stepOp cf (.call f xs) s = some res)
    (hl : WT s.ts a.tmps) (hR : R g O (s.ts.roots a.tmps) s.σ w) : OpRes P o a g O w s res := by
  simp only [stepOp] at hs
  split at hs
  · rename_i vs ts h
    obtain ⟨h1, h2, h3⟩ := getAll_sim (l := []) hx h hl hR
    refine opRes_call (rargs := c.args.map a.eval) hcf hC (fun c' h => by rw [hop] at h; cases h) (fun hf => ?_) (by simpa using h3) (by simpa using h1) h2 hs
    rw [run_call (args := #[]) hop hc (f := f) (firsts := #[]) (caps := #[]) rfl hf]
    simp
  · cases hs

theorem opRes_callv {c : Call} {r : Operand} {x : Opd} {xs : List Opd} {C0 : CRel} (hcf : CallOK P C0 cf) (hC : g.C = C0) (hop : o.op = .call c) (hc : c.callee = .value r) (hr : opdOK x r = true) (hx : opdsOK xs c.args.toList = true) (hs : stepOp cf (.callv x xs) s = some res)
    (hl : WT s.ts a.tmps) (hR : R g O (s.ts.roots a.tmps) s.σ w) : OpRes P o a g O w s res := by
  simp only [stepOp] at hs
  split at hs
  · rename_i gf us ws ts h
    split at hs
    · rename_i vs ts' h'
      obtain ⟨h1, h2⟩ := get_sim (l := []) hr h hl hR
      obtain ⟨h3, h4, h5⟩ := getAll_sim (l := [(.fn (.func gf) us ws, a.eval r)]) hx h' h2 h1
      have hV : V g (.fn (.func gf) us ws) (a.eval r) := h3.vals (.fn (.func gf) us ws, a.eval r) (by simp)
      generalize hrv : a.eval r = rv at hV h3
      cases hV with
      | fn _ _ _ firsts caps hl1 hv1 hf1 hl2 hv2 hf2 =>
      refine opRes_call (rargs := firsts ++ c.args.map a.eval ++ caps) hcf hC (fun c' h => by rw [hop] at h; cases h) (fun hf => run_call (args := #[]) hop hc hrv hf) (by simp at h5 ⊢; omega) ?_ h4 hs
      have hz : (us ++ vs ++ ws).zip (firsts ++ c.args.map a.eval ++ caps).toList = us.zip firsts.toList ++ vs.zip (c.args.toList.map a.eval) ++ ws.zip caps.toList := by
        simp only [Array.toList_append, Array.toList_map]
        rw [List.zip_append (by simp at h5 ⊢; omega), List.zip_append (by simpa using hl1)]
      rw [hz]
      have hbase : R g O (vs.zip (c.args.toList.map a.eval) ++ ts'.roots a.tmps) s.σ w := by
        have hp : (vs.zip (c.args.toList.map a.eval) ++ ([(IVal.fn (.func gf) us ws, Value.func (.func gf) firsts caps)] ++ ts'.roots a.tmps)).Perm ((IVal.fn (.func gf) us ws, Value.func (.func gf) firsts caps) :: (vs.zip (c.args.toList.map a.eval) ++ ts'.roots a.tmps)) := List.perm_middle
        exact (h3.perm hp).drop
      have hpush : ∀ (l0 : Roots) (xs : List IVal) (vs : List Value), xs.length = vs.length → (∀ (i : Nat) x v, xs[i]? = some x → vs[i]? = some v → V g x v) → (∀ x ∈ xs, Flat x) → R g O l0 s.σ w → R g O (xs.zip vs ++ l0) s.σ w := by
        intro l0 xs
        induction xs with
        | nil => intro vs _ _ _ h; simpa using h
        | cons x xs ih =>
          intro vs hl hv hf h
          cases vs with
          | nil => simp at hl
          | cons v vs =>
            simp only [List.zip_cons_cons, List.cons_append]
            exact (ih vs (by simpa using hl) (fun i x v hx hw => hv (i + 1) x v (by simpa using hx) (by simpa using hw)) (fun x hx => hf x (by simp [hx])) h).push (hv 0 x v rfl rfl) (own3_flat (hf x (by simp)) v)
      have h6 := hpush _ ws caps.toList (by simpa using hl2) (fun i x v hx hw => hv2 i x v hx (by simpa using hw)) hf2 hbase
      have h7 := hpush _ us firsts.toList (by simpa using hl1) (fun i x v hx hw => hv1 i x v hx (by simpa using hw)) hf1 h6
      refine h7.perm ?_
      rw [List.append_assoc, List.append_assoc]
      refine List.Perm.append_left _ ?_
      rw [← List.append_assoc, ← List.append_assoc]
      exact List.perm_append_comm.append_right _
    · cases hs
  · rename_i id ts h
    split at hs
    · rename_i vs ts' h'
      obtain ⟨h1, h2⟩ := get_sim (l := []) hr h hl hR
      obtain ⟨h3, h4, h5⟩ := getAll_sim (l := [(.yl id, a.eval r)]) hx h' h2 h1
      have hV : V g (.yl id) (a.eval r) := h3.vals (.yl id, a.eval r) (by simp)
      generalize hrv : a.eval r = rv at hV h3
      cases hV with
      | yl _ b hb =>
      have hbase : R g O (vs.zip (c.args.map a.eval).toList ++ ts'.roots a.tmps) s.σ w := by
        have hp : (vs.zip (c.args.toList.map a.eval) ++ ([(IVal.yl id, Value.func (.yield b) #[] #[])] ++ ts'.roots a.tmps)).Perm ((IVal.yl id, Value.func (.yield b) #[] #[]) :: (vs.zip (c.args.toList.map a.eval) ++ ts'.roots a.tmps)) := List.perm_middle
        simpa using (h3.perm hp).drop
      exact opRes_yield (rargs := c.args.map a.eval) hcf hC (fun c' h => by rw [hop] at h; cases h) (fun L q1 q2 => run_yieldOp hop hc hrv q1 q2) hb (by simpa using h5) hbase h4 hs
    · cases hs
  · cases hs

/-- A call that neither gets nor hands back anything of the store. -/
theorem opRes_callp {f : FuncId} {c : Call} {xs : List Opd} {C0 : CRel} (hcf : CallOK P C0 cf) (hC : g.C = C0) (hop : o.op = .call c) (hc : c.callee = .value (.func f)) (hx : opdsOK xs c.args.toList = true) (hs : stepOp cf (.callp f xs) s = some res)
    (hl : WT s.ts a.tmps) (hR : R g O (s.ts.roots a.tmps) s.σ w) : OpRes P o a g O w s res := by
  simp only [stepOp] at hs
  split at hs
  · rename_i vs ts h
    split at hs
    · rename_i hnr
      split at hs
      · rename_i v σ1 wr1 hout
        split at hs
        · rename_i hnv
          simp only [rv, Option.some.injEq] at hs
          subst hs
          obtain ⟨h1, h2, h3⟩ := getAll_sim (l := []) hx h hl hR
          simp only [List.nil_append] at h1
          obtain ⟨hcall, hcc⟩ := hcf.fn f vs [] _ hout
          intro ρ n next Q n1 _
          refine ⟨fun _ _ => trivial, ?_⟩
          rw [Oper.semAt_eq _ _ _ (fun c' h => by rw [hop] at h; cases h), run_call (args := #[]) hop hc (f := f) (firsts := #[]) (caps := #[]) rfl hcall, Oper.uponIn_enter]
          refine ⟨fun h => by simp [WF, Fence.wide] at h, ?_⟩
          have hsub := h1.sub_own
          have hnl : ∀ p ∈ vs.zip (c.args.toList.map a.eval), V (g.cut 0) p.1 p.2 := by
            intro p hp
            have hm : p.1 ∈ vs := (List.of_mem_zip hp).1
            exact (h1.vals p (by simp [hp])).cut 0 ((h1.vals p (by simp [hp])).norl 0 (nr3_of_nr2 (List.all_eq_true.1 hnr p.1 hm)))
          have hcut : (g.cut 0).ι = [] := by simp [Gh.cut]
          have hOs : ownS w (g.cut 0).ι [] = [] := by simp [ownS]
          have hRa : R (g.cut 0) (ownL (vs.zip (c.args.toList.map a.eval))) (vs.zip (c.args.toList.map a.eval)) [] w := by
            refine ⟨by simp [Gh.cut], hnl, fun id b o h => by rw [hcut] at h; simp at h, ?_, ?_, fun b hb => hsub.lt b (by simp [hb]), h1.claim, fun id b o h => by rw [hcut] at h; simp at h, fun b hb => hsub.spare b (by simp [hb]), h1.glob⟩
            · rw [hOs, List.append_nil]; exact (List.nodup_append.1 hsub.nodup).1
            · rw [hOs, List.append_nil]; exact fun b hb => hb
          have hlen : vs.length = (c.args.map a.eval).toList.length := by simpa using h3
          have hcall' := hcc (g.cut 0) _ (c.args.map a.eval) w hC hlen (by simpa using hRa)
          have e : (#[] : Array Value) ++ c.args.map a.eval ++ #[] = c.args.map a.eval := by simp
          rw [e]
          refine callsIn_WF (hcall'.mono ?_)
          rintro e w' ⟨g', O', v', rfl, hg, hR', hk⟩
          -- the caller's own ghost, with what has come to be known
          let g'' : Gh := { ι := g.ι, M := g'.M, T := g'.T, C := g.C }
          have hV0 : V (g'.cut 0) v v' := (hR'.vals (v, v') (by simp)).cut 0 ((hR'.vals (v, v') (by simp)).norl 0 hnv)
          have hV : V g'' v v' := by
            refine hV0.mono (fun id b hb => by simp [Gh.cut] at hb) (fun _ _ _ h => h) (fun _ _ => rfl)
          have hgrow : Grow (ownL (vs.zip (c.args.toList.map a.eval)) ++ ownS w g.ι s.σ) g w (ownL [(v, v')] ++ ownS w g.ι s.σ) g'' w' := by
            refine ⟨hg.size, fun b hb hO => hg.same b hb (fun hm => hO (by simp [show b ∈ ownL (vs.zip (c.args.toList.map a.eval)) by simpa using hm])), hg.mono, fun _ _ h => h, fun b hb => ?_, rfl, hg.os, hg.tape, hg.output⟩
            rcases List.mem_append.1 hb with hb | hb
            · rcases hg.fresh b (hR'.sub b (by simp [hb])) with h1 | h1
              · exact .inl (by simp at h1 ⊢; exact .inl h1)
              · exact .inr h1
            · exact .inl (by simp [hb])
          have hSlt : ∀ b ∈ ownS w g.ι s.σ, b < w.heap.size ∧ b ∉ ownL (vs.zip (c.args.toList.map a.eval)) := by
            intro b hb
            refine ⟨hsub.lt b (by simp [hb]), fun hm => (List.nodup_append.1 hsub.nodup).2.2 b hm b hb rfl⟩
          have hSsame : ∀ b ∈ ownS w g.ι s.σ, w'.heap[b]? = w.heap[b]? ∧ g'.T b = g.T b ∧ ∀ o, g'.M b o = g.M b o := by
            intro b hb
            obtain ⟨q1, q2⟩ := hSlt b hb
            exact hg.same b q1 (by simpa using q2)
          have hOO : ∀ (id b : Nat) x, g.ι[id]? = some b → s.σ[id]? = some x → ownO w' b x = ownO w b x := by
            intro id b x q1 q2
            by_cases hd : x = .dead
            · subst hd; rfl
            · exact ownO_same (hSsame b (ownS_mem q1 q2 (ownO_head hd))).1 x
          have hS' : ownS w' g.ι s.σ = ownS w g.ι s.σ := by simp only [ownS]; rw [zipWith_congr hOO]
          have hRes : R g'' (ownL [(v, v')] ++ ownS w g.ι s.σ) [(v, v')] s.σ w' := by
            refine ⟨hsub.len, fun p hp => by simp at hp; subst hp; exact hV, fun id b x q1 q2 => ?_, ?_, fun b hb => by rw [hS'] at hb; exact hb, fun b hb => ?_, hR'.claim, fun id b x q1 q2 hm k => ?_, fun b hb => ?_, hR'.glob⟩
            · by_cases hd : x = .dead
              · subst hd; trivial
              · exact (hsub.objs id b x q1 q2).mono (hSsame b (ownS_mem q1 q2 (ownO_head hd))).1 (fun _ _ h => h) hg.mono rfl (fun b' hb' => (hSsame b' (ownS_mem q1 q2 hb')).2.1)
            · rw [hS', List.nodup_append]
              refine ⟨(List.nodup_append.1 hR'.nodup).1, (List.nodup_append.1 hsub.nodup).2.1, fun b hb c hc e => ?_⟩
              subst e
              obtain ⟨q1, q2⟩ := hSlt b hc
              rcases hg.fresh b (hR'.sub b (by simp [hb])) with h1 | h1
              · exact q2 (by simpa using h1)
              · omega
            · rcases List.mem_append.1 hb with hb | hb
              · exact hR'.lt b (hR'.sub b (by simp [hb]))
              · exact Nat.lt_of_lt_of_le (hSlt b hb).1 hg.size
            · rw [hOO id b x q1 q2] at hm
              rw [(hSsame b (ownS_mem q1 q2 hm)).2.2 k]
              exact hsub.apart id b x q1 q2 hm k
            · rcases List.mem_append.1 hb with hb | hb
              · exact hR'.spare b (hR'.sub b (by simp [hb]))
              · obtain ⟨e1, e2, e3⟩ := hSsame b hb
                intro ext top ht
                have ht' : g.T b = some (ext, top) := by rw [← e2]; exact ht
                obtain ⟨⟨c, el, fz, q1, q2, q3⟩, q4⟩ := hsub.spare b (by simp [hb]) ext top ht'
                exact ⟨⟨c, el, fz, by rw [e1]; exact q1, q2, q3⟩, fun o ho => by show g'.M b o = none; rw [e3]; exact q4 o ho⟩
          obtain ⟨O'', hR'', hg''⟩ := h1.frame hgrow hRes
          exact n1 rfl _ _ ⟨g'', O'', [], hg'', by simpa using hR'', h2, rfl, Keep.refl _⟩
        · cases hs
      · cases hs
    · cases hs
  · cases hs

end Go.Idl
