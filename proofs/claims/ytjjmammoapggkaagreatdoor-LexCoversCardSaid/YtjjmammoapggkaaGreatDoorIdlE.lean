/- The ideal machine and its evaluators, part 5; no conditions. -/
import Derived.RecoverIn
import Derived.Scope
import Derived.ProofKit
import Derived.Deep.Slices
import Derived.Lib.Fields
import Derived.Lib.Space
import Derived.Deep.Draws
import Derived.Test.YtjjmammoapggkaaGreatDoorIdlD
set_option linter.unusedSectionVars false
set_option linter.unusedVariables false
set_option linter.unusedSimpArgs false
namespace Go.Idl
variable [Globs]
variable {C0 : Q5} {P : Program} {a : Act} {g : Gh} {O : List Nat} {w : World} {s : St} {cf : kt}
theorem qE {b : Frame} {k : List Item} {cs : List Frame} {c : Code} : step P (lone (b.atR a (.code (.scope c) :: k)) cs w) = .next (lone (b.atR a (.code c :: .inScope c :: k)) cs w) :=
 step_lone_go (by simp [stepG, stepG.exec, Frame.atR])
theorem K7 {b : Frame} {k : List Item} {cs : List Frame} {c : Code} : step P (lone (b.atR a (.inScope c :: k)) cs w) = .next (lone (b.atR a k) cs w) :=
 step_lone_go (by simp [stepG, stepG.exec, Frame.atR])
theorem za {F : Fence} {n : Nat} {Q : Exit -> Act -> World -> Prop} {c : Code} (h : c.wpIn F n P (Exit.noGoto Q) a w) : (Code.scope c).wpIn F n P Q a w := by
 intro b k cs hro hb hr;have h0 : (lone (b.atR a (.code (.scope c) :: k)) cs w).fenced P F := fenced_calm hb hr rfl;obtain ⟨e, a₁, w₁, hq, harr⟩ := h b (.inScope c :: k) cs hro hb hr
 cases e with
 | normal => exact ⟨.normal, a₁, w₁, hq, .head h0 qE (StepsIn.trans harr (.one (fenced_calm hb hr rfl) K7))⟩
 | exit id =>
   have hx : exitTo id (.inScope c :: k) = exitTo id k := by simp [exitTo]
   exact ⟨.exit id, a₁, w₁, hq, fun k' hk => .head h0 qE (harr.1 k' (by rw [hx]; exact hk)),
       fun hr' hk => let ⟨k₁, h1, h2⟩ := harr.2 hr' (by rw [hx]; exact hk); ⟨k₁, h1, .head h0 qE h2⟩⟩
 | goto l => exact hq.elim
 | ret => exact ⟨_, a₁, w₁, hq, .of_steps (.one h0 qE) harr⟩
 | panic ch => exact ⟨_, a₁, w₁, hq, .of_steps (.one h0 qE) harr⟩
 | outgrown => exact ⟨_, a₁, w₁, hq, .of_steps (.one h0 qE) harr⟩
def kG (P : Program) (n : Shape) (top : Bool) : Code -> ICode -> Bool
 | .skip, .skip => true
 | .region _ ops false, .ops l => vY P ops ops.toList l && yP n.n l
 | .region _ ops true, .draw l pairs => z5 P n ops l pairs
 | .seq a b, .seq x y => kG P n top a x && kG P n top b y
 | .cond c a b, .cond z x y => jL z c && (kG P n top a x && kG P n top b y)
 | .block id c, .block id' b => id == id' && kG P n top c b
 | .loop c, .loop b => kG P n top c b
 | .exit id, .exit id' => id == id'
 | .scope c, .scope b => kG P n top c b
 | .label _, .label _ => true
 | .goto l, .goto l' => l == l'
 | .ret, .ret => true
 | .rangeFunc g ps ca cb, .rangeF x ps' a b => top && (jL x g && (ps.toList == ps' && ((ps'.all fun p => decide (p < n.n)) && (kG P n false ca a && kG P n false cb b))))
 | _, .stuck => true
 | _, _ => false
def JF (o : Oper) (t : Nat) : Bool := match o.op with
 | .call c => (match c.callee with | .builtin .recover => c.args.isEmpty && (o.dst == some t && o.guard.isNone) | _ => false)
 | _ => false
def jcd (P : Program) (d : DInfo) (c : ICode) : Bool := match P.funcs[d.g]? with
 | some gfn => gfn.name != "runtime.NumGoroutine" && (gfn.results.isEmpty && (d.nt == gfn.ntmps && (match gfn.body with
   | some body => (match d.slot with
     | none => kG P ⟨d.nt, d.nv, d.m⟩ true body c
     | some t => (match body with
       | .seq (.region _ ops false) b => (match ops.toList with | [o] => JF o t | _ => false) && (decide (t < d.nt) && kG P ⟨d.nt, d.nv, d.m⟩ true b c)
       | _ => false))
   | none => false)))
 | none => false
def YV (o : Oper) (x : Opd) (xs : List Opd) : Bool := match o.op with
 | .defer k => (match k.callee with | .value r => jL x r && ka xs k.args.toList | _ => false) && (o.dst.isNone && o.guard.isNone)
 | _ => false
def jaa (P : Program) (n : Shape) (ops : Array Oper) (l : List IOper) (x : Opd) (xs : List Opd) (d : DInfo) (c : ICode) : Bool :=
 match ops.toList.reverse with
 | o :: pre => YV o x xs && (vY P ops pre.reverse l && (yP n.n l && jcd P d c))
 | [] => false
def vh (P : Program) (n : Shape) : Code -> ICode -> Bool
 | .seq a b, .seq x y => kG P n true a x && vh P n b y
 | .seq a b, .dfr l x xs d c y => (match a with | .region _ ops false => jaa P n ops l x xs d c | _ => false) && vh P n b y
 | .cond z a b, .cond w x y => jL w z && (vh P n a x && vh P n b y)
 | c, ic => kG P n true c ic
def CR (P : Program) : Q5 := fun n nv m c ic => kG P ⟨n, nv, m⟩ false c ic = true
def IFunc.sh (fn : IFunc) : Shape := ⟨fn.nt, fn.nv, fn.m⟩
structure FunOK (P : Program) (gfn : Func) (fn : IFunc) : Prop where
 name : gfn.name ≠ "runtime.NumGoroutine"
 code : ∃ c, gfn.body = some c /\ vh P fn.sh c fn.body = true
 res : JO P gfn.results.toList fn.res = true
 nt : fn.nt = gfn.ntmps
def LibOK (P : Program) (f : FuncId) (p : ZY) : Prop := ∀ σ args v, p (jfj σ) (jfk σ) args = some v -> vk P f /\
 ∀ (g : Gh) (O : List Nat) (rargs : Array Value) (w : World), g.C = CR P -> args.length = rargs.toList.length -> R g O (args.zip rargs.toList) σ w ->
   CallsIn Fence.wide 0 P f rargs w fun e w' => ∃ v' g' O', e = .returned v' /\ Grow O g w O' g' w' /\ R g' O' [(v, v')] σ w'
def FOK (P : Program) (F : kg) : Prop := ∀ f fn, F f = some fn -> (∃ gfn, P.funcs[f]? = some gfn /\ FunOK P gfn fn) \/ ∃ p, fn.body = .lib p /\ LibOK P f p
def vy (P : Program) (F : kg) (n : Nat) : Prop :=
 ∀ [Base] (c : Code) (ic : ICode) (m : Shape) (top : Bool) (s : St) (x : IExit) (s' : St), kG P m top c ic = true -> eval F n ic s = some (x, s') ->
   ∀ (ρ : Option Nat), (top = true -> ρ = none) -> ∀ (k : Nat) (Q : Exit -> Act -> World -> Prop) (a : Act) (w : World) (g : Gh) (O : List Nat), Stand (CR P) m g O s a w -> After (CR P) m g O s w x s' Q -> c.wpIn (WF ρ) k P Q a w
theorem After.imp [Base] {m : Shape} {x : IExit} {s' : St} {Q Q' : Exit -> Act -> World -> Prop} (h : After C0 m g O s w x s' Q) (hq : ∀ e a' w', (∀ x', x = .panic x' -> ∃ ch, e = .panic ch) -> (∀ e', qK x = some e' -> e = e') -> Q e a' w' -> Q' e a' w') : After C0 m g O s w x s' Q' := by
 refine ⟨fun e g' O' a' w' he k st => hq e a' w' (fun x' hx => by subst hx; cases he) (fun e' he' => by rw [he] at he'; cases he'; rfl) (h.1 e g' O' a' w' he k st), fun v g' O' a' w' v' hx k r d wt => hq _ a' w' (fun _ _ => ⟨_, rfl⟩) (fun e' he' => by subst hx; cases he') (h.2 v g' O' a' w' v' hx k r d wt)⟩
theorem XE : ∀ n, (Tm.empty n).list = [] := by
 intro n
 induction n with
 | zero => rfl
 | succ n ih => simp [Tm.empty, Tm.list, ih]
theorem Yy : ∀ n k, (Tm.empty n).get k = none := by
 intro n
 induction n with
 | zero => intro k; rfl
 | succ n ih => intro k; simp only [Tm.empty, Tm.get, ih]; cases Nat.beq k 0 <;> cases Nat.beq (k % 2) 1 <;> rfl
theorem jdY {tmps : Array Value} {σ : List IObj} : ∀ {vs : List IVal} {us : List Value} {ts : Ts} {j : Nat}, WT ts tmps -> vs.length = us.length -> (∀ (i : Nat) u, us[i]? = some u -> tmps[j + i]? = some u) ->
   R g O (vs.zip us ++ ts.roots tmps) σ w -> R g O ((ts.fill j vs).roots tmps) σ w /\ WT (ts.fill j vs) tmps := by
 intro vs
 induction vs with
 | nil => intro us ts j hW _ _ hR; exact ⟨by simpa [Ts.fill] using hR, hW⟩
 | cons v vs ih =>
   intro us ts j hW hl hu hR
   cases us with
   | nil => simp at hl
   | cons u us =>
     have h0 : tmps[j]? = some u := by simpa using hu 0 u rfl
     have hj : j < tmps.size := (Array.getElem?_eq_some_iff.1 h0).1;have hset : tmps.setIfInBounds j u = tmps := by
       apply Array.ext_getElem?;intro k;rw [Array.getElem?_setIfInBounds];split
       . rename_i e; subst e; exact h0.symm
       . rfl
     obtain ⟨rest, ev, h1, h2⟩ := Ts.roots_put hW hj v u;rw [hset] at h2;refine ih (ts := ts.set j v) (j := j + 1) (hW.set hj v) (by simpa using hl) (fun i u' hi => ?_) ?_
     . have := hu (i + 1) u' (by simpa using hi);rw [show j + 1 + i = j + (i + 1) by omega]; exact this
     . simp only [tC, tI] at hR;have h3 : R g O ((v, u) :: (ev ++ (vs.zip us ++ rest))) σ w := by
         refine hR.perm (.cons _ ?_);refine (h1.append_left _).trans ?_;rw [<- zS, <- zS];exact List.perm_append_comm.append_right _
       cases hb : ts.t.has (ts.slot j) with
       | true =>
         rw [hb] at h2;have h4 : R g O (ev ++ ((v, u) :: (vs.zip us ++ rest))) σ w := h3.perm List.perm_middle.symm;refine (R.drops (l := ev) h4).perm ?_;refine List.Perm.trans ?_ (h2.symm.append_left _);exact List.perm_middle.symm
       | false =>
         rw [hb] at h2;exact (R.drops (l := ev) h3.drop).perm (h2.symm.append_left _)
theorem JP {gfn : Func} {tmps : Array Value} {us : List Value} {w' : World} (h : (Ya tmps gfn.results.toList).run P w = .ok us w') :
   (results gfn tmps).run P w = .ok (if hh : us.toArray.size = 1 then us.toArray[0] else .tuple us.toArray) w' := by
 have e : ∀ f : ResultVar -> Sem Value, gfn.results.mapM f = Functor.map List.toArray (gfn.results.toList.mapM f) := fun f => by
   rw [<- List.mapM_toArray]
 unfold results;rw [e];unfold Ya at h;simp only [map_eq_pure_bind, Sem.run_bind]
 erw [h]
 simp [Sem.run_pure, Result.andThen_ok]
def Jq (P : Program) (F : kg) (n : Nat) : Prop :=
 ∀ [Base] (c : Code) (ic : ICode) (m : Shape) (s : St) (x : IExit) (s' : St), vh P m c ic = true -> eval F n ic s = some (x, s') -> (zo x).isSome = true ->
   ∀ (gfn : Func) (Rp : Ending -> World -> Prop) (a : Act) (w : World) (g : Gh) (O : List Nat), Stand (CR P) m g O s a w ->
   (zo x = some none -> ∀ g' O' tmps' ms w', Goes g O s w g' O' s' w' -> R g' O' (s'.ts.roots tmps') s'.σ w' -> WT s'.ts tmps' -> MarksR g' s'.ts.ds ms -> LeavesInM (WF none) 0 P gfn tmps' Rp (ms ++ Base.B) .returning w') ->
   (∀ v, zo x = some (some v) -> ∀ g' O' tmps' ms w' v', Goes g O s w g' O' s' w' -> R g' O' ((v, v') :: s'.ts.roots tmps') s'.σ w' -> WT s'.ts tmps' -> MarksR g' s'.ts.ds ms -> LeavesInM (WF none) 0 P gfn tmps' Rp (ms ++ Base.B) (.panicking [{ v := v', recovered := false }]) w') ->
   c.wpIn (WF none) 0 P (bodyPostM (WF none) 0 P gfn Rp) a w
def Yb (l : ke) : Option IVal -> FrameMode -> Prop
 | none, u => u = .returning
 | some v, u => ∃ v', u = .panicking [{ v := v', recovered := false }] /\ (v, v') ∈ l
theorem zh {gfn : Func} {tmps : Array Value} (h : gfn.results.isEmpty = true) : ∃ v, (results gfn tmps).run P w = .ok v w := by
 have e : gfn.results.toList = [] := by simpa using h
 have h1 : (Ya tmps gfn.results.toList).run P w = .ok [] w := by rw [e, Xi, Sem.run_pure]
 exact ⟨_, JP h1⟩
theorem yY [Base] {gfn : Func} {args : List IVal} {σ : List IObj} {rargs : Array Value} {nv m dep nt : Nat} (hb : Base.B = []) (hnt : nt = gfn.ntmps) (hC : g.C = CR P) (hlen : args.length = rargs.toList.length) (hR : R g O (args.zip rargs.toList) σ w) :
   Stand (CR P) ⟨nt, nv, m⟩ g O { ts := (Ts.mk nv m (Tm.empty dep) []).fill 0 args, σ := σ, wr := [] } { tmps := rargs ++ Array.replicate (gfn.ntmps - rargs.size) undef, defers := [] } w := by
 have hf := jdY (g := g) (O := O) (w := w) (σ := σ) (tmps := rargs ++ Array.replicate (gfn.ntmps - rargs.size) undef) (vs := args) (us := rargs.toList) (ts := Ts.mk nv m (Tm.empty dep) []) (j := 0)
   (fun k p hp => by rw [Yy] at hp; cases hp) hlen (fun i u hu => by
     rw [tS, Array.getElem?_append_left (by have := jk hu; simpa using this)]; simpa using hu) (by simpa [Ts.roots, XE] using hR)
 have hsh := SameSh.fill (vs := args) (ts := Ts.mk nv m (Tm.empty dep) []) (j := 0);refine ⟨hf.1, hf.2, by rw [hsh.2.2]; have := DefsR.nil g; rw [hb] at this; exact this, ?_, ⟨hsh.1, hsh.2.1⟩, hC⟩;simp [hnt]; omega
def jfl : Option IVal -> IVal
 | some v => un3 v
 | none => zG
theorem Z8 {d : DInfo} {args : List IVal} {m : Option IVal} {t : Nat} (h : d.slot = some t) : dTs d args m = ((Ts.mk d.nv d.m (Tm.empty d.dep) []).fill 0 args).set t (jfl m) := by
 simp only [dTs, h];cases m <;> rfl
theorem jdU {F : kg} {n : Nat} (hS : vy P F n) {d : DInfo} {c : ICode} (hd : jcd P d c = true) {args : List IVal} {m : Option IVal} {s s' : St} {x : IExit} (h : Ju (eval F n) d c args m s = some (x, s')) :
   ∃ m', x = jck m' /\ s'.ts = s.ts /\ (m' = none \/ m' = m) /\ ∃ gfn, P.funcs[d.g]? = some gfn /\ gfn.name ≠ "runtime.NumGoroutine" /\ gfn.body ≠ none /\
     ∀ (g : Gh) (O : List Nat) (rargs : Array Value) (w : World) (u : FrameMode) (l : ke), g.C = CR P -> args.length = rargs.toList.length -> Yb l m u -> R g O (args.zip rargs.toList ++ l) s.σ w ->
       CallsDIn Fence.wide 0 P d.g rargs u w fun e u' w' => (∃ v0, e = .returned v0) /\ ∃ g' O' wn, Grow O g w O' g' w' /\ R g' O' l s'.σ w' /\ s'.wr = wn ++ s.wr /\ Keep s.σ s'.σ wn /\ (match m' with | none => settle u' = .returning | some _ => settle u' = u) := by
 unfold Ju at h;split at h
 . rename_i x1 s1 hev;split at h
   . cases h
   . rename_i hnp;split at h
     . rename_i mm hmm hds;simp only [zO, zP] at h;obtain ⟨rfl, rfl⟩ := h;refine ⟨_, rfl, rfl, by cases d.slot <;> simp, ?_⟩;unfold jcd at hd;split at hd
       . rename_i gfn hgf;simp only [zA, bne_iff_ne, ne_eq, beq_iff_eq] at hd;obtain ⟨hname, hres, hnt, hd⟩ := hd;split at hd
         . rename_i body hbody;refine ⟨gfn, hgf, hname, by simp [hbody], ?_⟩;intro g O rargs w u l hC hlen hm hR;have hR0 := hR.sub_own
           -- what is left behind
           have hfin : ∀ {g' : Gh} {O' : List Nat} {w' : World} {s0 : St}, Goes g (ky (args.zip rargs.toList) ++ kY w g.ι s.σ) s0 w g' O' s1 w' -> s0.σ = s.σ -> s0.wr = [] -> (∃ tmps', R g' O' (s1.ts.roots tmps') s1.σ w') ->
               ∃ O'' wn, Grow O g w O'' g' w' /\ R g' O'' l s1.σ w' /\ s1.wr ++ s.wr = wn ++ s.wr /\ Keep s.σ s1.σ wn := by
             intro g' O' w' s0 hgo e1 e2 ⟨tmps', hr⟩;obtain ⟨wn, k1, k2⟩ := hgo.keep;have hr0 : R g' O' [] s1.σ w' := R.drops (l := s1.ts.roots tmps') (by rw [rM]; exact hr);obtain ⟨O'', q1, q2⟩ := hR.frame hgo.grow hr0;refine ⟨O'', wn, q2, by simpa using q1, by rw [k1, e2, rM], by rw [<- e1]; exact k2⟩
           letI : Base := ⟨[]⟩
           cases hslot : d.slot with
           | none =>
             rw [hslot] at hd;simp only at hd;have hst := yY (P := P) (gfn := gfn) (nv := d.nv) (m := d.m) (dep := d.dep) (nt := d.nt) rfl hnt hC hlen hR0;have hts : dTs d args m = (Ts.mk d.nv d.m (Tm.empty d.dep) []).fill 0 args := by simp only [dTs, hslot]
             rw [hts] at hev;refine CallsDIn.mono (callsDIn_of_wp (F := Fence.wide) (u := u) (R := fun e w' => (∃ v0, e = .returned v0) /\ ∃ g' O' wn, Grow O g w O' g' w' /\ R g' O' l s1.σ w' /\ s1.wr ++ s.wr = wn ++ s.wr /\ Keep s.σ s1.σ wn) hgf hbody trivial ?_) ?_
             . refine hS body c _ true _ x1 s1 hd hev none (fun _ => rfl) 0 _ _ w g _ hst ⟨fun e g' O' a' w' he k st => ?_, fun v g' O' a' w' v' hx => absurd hx (hnp v)⟩;have hdef : a'.defers = [] := by have := st.defs; rw [hds] at this; exact this.nil_iff
               obtain ⟨v0, hv0⟩ := zh (P := P) (w := w') (tmps := a'.tmps) hres;obtain ⟨O'', wn, q1, q2, q3, q4⟩ := hfin k rfl rfl ⟨a'.tmps, st.rel⟩;have hpost : (∃ v0', Ending.returned v0 = .returned v0') /\ ∃ g' O' wn, Grow O g w O' g' w' /\ R g' O' l s1.σ w' /\ s1.wr ++ s.wr = wn ++ s.wr /\ Keep s.σ s1.σ wn := ⟨⟨v0, rfl⟩, g', O'', wn, q1, q2, q3, q4⟩
               cases x1 with
               | normal => simp only [qK, zO] at he; subst he; exact ⟨hdef, v0, hv0, hpost⟩
               | ret => simp only [qK, zO] at he; subst he; exact ⟨hdef, v0, hv0, hpost⟩
               | panic v => exact absurd rfl (hnp v)
               | exit i => simp [zo] at hmm
               | goto i => simp [zo] at hmm
             . rintro e u' w' ⟨rfl, h1, g', O', wn, q1, q2, q3, q4⟩;refine ⟨h1, g', O', wn, q1, q2, q3, q4, ?_⟩;simp only [hslot]
               cases m with
               | none => simp only [Yb] at hm; subst hm; rfl
               | some v => obtain ⟨v', rfl, -⟩ := hm; rfl
           | some t =>
             rw [hslot] at hd;simp only at hd;split at hd
             . rename_i id ops b;simp only [zA, decide_eq_true_eq] at hd;obtain ⟨hrec, htlt, hcode⟩ := hd;split at hrec
               . rename_i o hops;have hop0 : ops[0]? = some o := by rw [<- Array.getElem?_toList, hops]; rfl
                 have hsz : ops.size = 1 := by rw [<- Array.length_toList, hops]; rfl
                 unfold JF at hrec;split at hrec
                 . rename_i k hk;split at hrec
                   . rename_i hcal;simp only [zA, beq_iff_eq, Option.isNone_iff_eq_none] at hrec;obtain ⟨hargs, hdst, hguard⟩ := hrec;have hargs : k.args = #[] := by simpa using hargs
                     -- the value that comes of it
                     obtain ⟨mv, hV, hmode⟩ : ∃ mv : Value, (V g (jfl m) mv /\ kl (jfl m) mv = []) /\
                         ∀ (c₀ : Frame) (cs : List Frame), c₀.mode = u -> ∃ u', settle u' = .returning /\ ((recoverD (c₀ :: cs) = some (mv, { c₀ with mode := u' } :: cs)) \/ (recoverD (c₀ :: cs) = none /\ mv = .nilIface /\ u' = u)) := by
                       cases m with
                       | none =>
                         simp only [Yb] at hm; subst hm;refine ⟨.nilIface, ⟨.prim _ rfl, rfl⟩, fun c₀ cs hc => ⟨.returning, rfl, .inr ⟨?_, rfl, rfl⟩⟩⟩;simp [recoverD, hc]
                       | some v =>
                         obtain ⟨v', rfl, hvl⟩ := hm;have hVv := hR.vals (v, v') (rW _ hvl);refine ⟨v', ⟨hVv.un3, vr _ _⟩, fun c₀ cs hc => ⟨.panicking [{ v := v', recovered := true }], rfl, .inl ?_⟩⟩;simp [recoverD, hc]
                     have hst := yY (P := P) (gfn := gfn) (nv := d.nv) (m := d.m) (dep := d.dep) (nt := d.nt) rfl hnt hC hlen hR0;have hst1 := vH (d := some t) (s := { ts := (Ts.mk d.nv d.m (Tm.empty d.dep) []).fill 0 args, σ := s.σ, wr := [] }) (hst.rel.push hV.1 hV.2) hst.len hst.defs hst.size hst.sh hst.code (fun t' ht => by cases ht; exact htlt);have hts : dTs d args m = jP ((Ts.mk d.nv d.m (Tm.empty d.dep) []).fill 0 args) (some t) (jfl m) := Z8 hslot;rw [hts] at hev;refine callsDIn_of_wpSIn (F := Fence.wide) hgf hbody trivial fun c₀ cs hc₀ => ?_;refine wpSIn_seq (wpSIn_region ?_);have hr : List.range ops.size = [0] := by rw [hsz]; rfl
                     have hw0 : ∀ ys, Region.wanted o ys = true := by intro ys; simp [Region.wanted, hguard]
                     have hrun : ∀ ρ, (execOp ρ o).run P w = .ok .recover w := by
                       intro ρ;simp [execOp, hk, resolve, hcal, hargs, invoke, builtin]
                     obtain ⟨u', hset, hrc⟩ := hmode c₀ cs hc₀
                     -- behind the recovery
                     have hrest : ∀ cs', cs' = { c₀ with mode := u' } :: cs -> b.wpSIn Fence.wide 0 P (bodyPostS P gfn c₀ cs fun e u' w' => (∃ v0, e = .returned v0) /\ ∃ g' O' wn, Grow O g w O' g' w' /\ R g' O' l s1.σ w' /\ s1.wr ++ s.wr = wn ++ s.wr /\ Keep s.σ s1.σ wn /\ settle u' = .returning) (({ tmps := rargs ++ Array.replicate (gfn.ntmps - rargs.size) undef, defers := [] } : Act).put o.dst mv) cs' w := by
                       intro cs' hcs';subst hcs';refine wpSIn_of_wpIn rfl ?_;rw [hdst];refine hS b c _ true _ x1 s1 hcode hev none (fun _ => rfl) 0 _ _ w g _ hst1 ⟨fun e g' O' a' w' he k st => ?_, fun v g' O' a' w' v' hx => absurd hx (hnp v)⟩;have hdef : a'.defers = [] := by have := st.defs; rw [hds] at this; exact this.nil_iff
                       obtain ⟨v0, hv0⟩ := zh (P := P) (w := w') (tmps := a'.tmps) hres;obtain ⟨O'', wn, q1, q2, q3, q4⟩ := hfin k rfl rfl ⟨a'.tmps, st.rel⟩
                       cases x1 with
                       | normal => simp only [qK, zO] at he; subst he; exact ⟨hdef, u', rfl, v0, hv0, ⟨v0, rfl⟩, g', O'', wn, q1, q2, q3, q4, hset⟩
                       | ret => simp only [qK, zO] at he; subst he; exact ⟨hdef, u', rfl, v0, hv0, ⟨v0, rfl⟩, g', O'', wn, q1, q2, q3, q4, hset⟩
                       | panic v => exact absurd rfl (hnp v)
                       | exit i => simp [zo] at hmm
                       | goto i => simp [zo] at hmm
                     rw [hr];simp only [wpOpsSIn, hop0];refine ⟨fun _ _ => trivial, ?_⟩;rw [if_pos (hw0 _), hrun];simp only
                     rcases hrc with hrc | ⟨hrc, rfl, rfl⟩
                     . rw [hrc];exact hrest _ rfl
                     . rw [hrc];simp only;have e0 : c₀ = { c₀ with mode := u' } := by rw [<- hc₀]
                       exact hrest _ (by rw [<- e0])
                   . cases hrec
                 . cases hrec
               . cases hrec
             . cases hd
         . cases hd
       . cases hd
     . cases h
 . cases h
theorem jdN {F : kg} {n : Nat} (hF : FOK P F) (hT : Jq P F n) (f : FuncId) (args : List IVal) (σ : List IObj) (out : Out) (hout : yh F n (.f f) args σ = some out) : vk P f /\
   ∀ g O (rargs : Array Value) w, g.C = CR P -> args.length = rargs.toList.length -> R g O (args.zip rargs.toList) σ w -> CallsIn Fence.wide 0 P f rargs w (yz g O w σ out) := by
 simp only [yh] at hout;split at hout
 . rename_i fn hfn;unfold jw at hout
   rcases hF f fn hfn with ⟨gfn, hgf, hok⟩ | ⟨p, hbody, hlib⟩
   . obtain ⟨c, hbody, hcode⟩ := hok.code;have hnl : jC fn.body = none \/ eval F n fn.body = fun _ => none := by
       cases n with
       | zero => right; funext s; simp [eval]
       | succ n => cases hb : fn.body <;> first | (left; rfl) | (right; funext s; simp [eval])
     split at hout
     . rename_i p hp
       exfalso
       have hb : fn.body = .lib p := by
         cases hb : fn.body <;> rw [hb] at hp <;> simp [jC] at hp;rw [hp]
       rw [hb] at hcode;cases c <;> simp [vh, kG] at hcode
     . refine ⟨⟨gfn, hgf, hok.name, by simp [hbody]⟩, fun g O rargs w hC hlen hR => ?_⟩;refine callsIn_of_wp_marks (F := Fence.wide) hgf hbody trivial ?_;letI : Base := ⟨[]⟩;have hst := yY (P := P) (gfn := gfn) (nv := fn.nv) (m := fn.m) (dep := fn.dep) (nt := fn.nt) rfl hok.nt hC hlen hR;have hwide : (WF none) = Fence.wide := rfl;rw [<- hwide]
       -- what is handed back
       have hret : ∀ {s1 : St}, jY σ.length fn.res s1 = some out ->
           ∀ g' O' tmps' ms w', Goes g O { ts := (Ts.mk fn.nv fn.m (Tm.empty fn.dep) []).fill 0 args, σ := σ, wr := [] } w g' O' s1 w' -> R g' O' (s1.ts.roots tmps') s1.σ w' -> WT s1.ts tmps' -> MarksR g' s1.ts.ds ms ->
           LeavesInM (WF none) 0 P gfn tmps' (yz g O w σ out) (ms ++ Base.B) .returning w' := by
         intro s1 hri g' O' tmps' ms w' hgo hrel hwt hms;unfold jY at hri;split at hri
         . rename_i σ1 hsh;split at hri
           . rename_i vs s2 hrd;split at hri
             . rename_i hnt;simp only [zO] at hri;refine Xl (l := s1.ts.roots tmps') (by simp) s1.ts.ds s1.σ σ1 ms w' hsh hms hrel (fun w'' hR'' hG'' => ?_);obtain ⟨us, h1, h2, h3, h4, wn, h5, h6, h7⟩ := VB (l := []) hok.res hrd hwt (by simpa using hR'');have h8 := (R.merge h4 h2 (List.all_eq_true.1 hnt));obtain ⟨wn', k1, k2⟩ := hgo.keep;have hkeep : Keep σ s2.σ s2.wr := by
                 rw [h5];simp only;rw [k1];simp only [rM];exact (k2.trans (QQ _ _ _ hsh)).trans h6
               have hR1 : R g' O' [(jZ vs, if hh : us.toArray.size = 1 then us.toArray[0] else .tuple us.toArray)] s2.σ w'' :=
                 R.drops (l := s2.ts.roots tmps') (h8.perm (List.perm_append_comm (l₁ := [_])))
               obtain ⟨g'', k3, k4, k5, k6⟩ := zQ (v := jZ vs) (pan := false) hR (hgo.grow.trans hG'') hR1 hkeep;rw [hri] at k4 k5 k6;exact ⟨(if hh : us.toArray.size = 1 then us.toArray[0] else .tuple us.toArray), JP h1, ⟨g'', O', _, by rw [k6]; rfl, k3, k4, k5⟩⟩
             . cases hri
           . cases hri
         . cases hri
       split at hout
       . rename_i s1 hev;refine hT c fn.body fn.sh _ .normal s1 hcode hev rfl gfn _ _ w g O hst (fun _ g' O' tmps' ms w' k r wt mr => hret hout g' O' tmps' ms w' k r wt mr) (fun v hv => by cases hv)
       . rename_i s1 hev;refine hT c fn.body fn.sh _ .ret s1 hcode hev rfl gfn _ _ w g O hst (fun _ g' O' tmps' ms w' k r wt mr => hret hout g' O' tmps' ms w' k r wt mr) (fun v hv => by cases hv)
       . rename_i v s1 hev;split at hout
         . rename_i hds;simp only [zO] at hout;subst hout;refine hT c fn.body fn.sh _ (.panic v) s1 hcode hev rfl gfn _ _ w g O hst (fun hn => by cases hn) (fun v0 hv g' O' tmps' ms w' v' k r wt mr => ?_);simp only [zo, zO] at hv;subst hv;obtain ⟨wn', k1, k2⟩ := k.keep;have hkeep : Keep σ s1.σ s1.wr := by rw [k1, rM]; exact k2
           have hR1 : R g' O' [(v, v')] s1.σ w' := R.drops (l := s1.ts.roots tmps') (R.perm r (List.perm_append_comm (l₁ := [_])));obtain ⟨g'', k3, k4, k5, k6⟩ := zQ (v := v) (pan := true) hR k.grow hR1 hkeep;have hnil : ms = [] := by have := mr.1; rw [hds] at this; exact List.eq_nil_of_length_eq_zero (by simpa using this)
           subst hnil;exact ⟨g'', O', v', by rw [k6]; rfl, k3, k4, k5⟩
         . cases hout
       . cases hout
   . rw [hbody] at hout;simp only [jC] at hout;split at hout
     . rename_i v hv;simp only [zO] at hout;subst hout;obtain ⟨hc, hl⟩ := hlib σ args v hv;refine ⟨hc, fun g O rargs w hC hlen hR => (hl g O rargs w hC hlen hR).mono ?_⟩;rintro e w' ⟨v', g', O', rfl, h1, h2⟩;exact ⟨g', O', v', rfl, h1, h2, .refl _⟩
     . cases hout
 . cases hout
theorem jdt (x : IVal) : un3 (un3 x) = un3 x := by
 cases x with
 | tup xs => simp [un3]; intro a _; exact VW a
 | agg xs => simp [un3, un2, un1]; intro a _; exact yy a
 | _ => rfl
theorem jdu : ∀ (t : Tm), t.un.list = t.list.map fun p => (p.1, un3 p.2) := by
 intro t
 induction t with
 | leaf => rfl
 | node l c r ihl ihr =>
   simp only [Tm.un, Tm.list, List.map_append, ihl, ihr]
   cases c with
   | none => rfl
   | some p => rfl
theorem je2 : ∀ (t : Tm) (k : Nat), t.un.get k = (t.get k).map fun p => (p.1, un3 p.2) := by
 intro t
 induction t with
 | leaf => intro k; rfl
 | node l c r ihl ihr =>
   intro k;simp only [Tm.un, Tm.get, ihl, ihr];cases Nat.beq k 0 <;> cases Nat.beq (k % 2) 1 <;> simp
   all_goals (cases c <;> rfl)
theorem Vy {l : ke} {σ : List IObj} : ∀ {ps : ke}, (∀ p ∈ ps, V g p.1 p.2 /\ kl p.1 p.2 = []) -> R g O l σ w -> R g O (ps ++ l) σ w := by
 intro ps
 induction ps with
 | nil => intro _ h; exact h
 | cons p ps ih =>
   intro hp h;exact (ih (fun q hq => hp q (by simp [hq])) h).push (hp p (by simp)).1 (hp p (by simp)).2
theorem ja4 {σ : List IObj} : ∀ {ps : List Nat} {vs : List IVal} {us : List Value} {ts ts' : Ts} {tmps : Array Value}, ts.setAll ps vs = some ts' -> vs.length = us.length -> WT ts tmps -> (∀ p ∈ ps, p < tmps.size) -> R g O (vs.zip us ++ ts.roots tmps) σ w ->
   R g O (ts'.roots ((ps.zip us).foldl (fun t p => t.setIfInBounds p.1 p.2) tmps)) σ w /\ WT ts' ((ps.zip us).foldl (fun t p => t.setIfInBounds p.1 p.2) tmps) /\ SameSh ts ts' /\ ((ps.zip us).foldl (fun t p => t.setIfInBounds p.1 p.2) tmps).size = tmps.size := by
 intro ps
 induction ps with
 | nil =>
   intro vs us ts ts' tmps h hl hW _ hR
   cases vs with
   | nil => simp [Ts.setAll] at h; subst h; exact ⟨by simpa using hR, by simpa using hW, .refl _, by simp⟩
   | cons v vs => simp [Ts.setAll] at h
 | cons p ps ih =>
   intro vs us ts ts' tmps h hl hW hp hR
   cases vs with
   | nil => simp [Ts.setAll] at h
   | cons v vs =>
   cases us with
   | nil => simp at hl
   | cons u us =>
     simp only [Ts.setAll] at h;have hj : p < tmps.size := hp p (by simp);obtain ⟨rest, ev, h1, h2⟩ := Ts.roots_put hW hj v u;have hW' : WT (ts.set p v) (tmps.setIfInBounds p u) := fun k q hq => by have := hW.set hj v k q hq; simpa using this
     simp only [tC, tI] at hR;have h3 : R g O ((v, u) :: (ev ++ (vs.zip us ++ rest))) σ w := by
       refine hR.perm (.cons _ ?_);refine (h1.append_left _).trans ?_;rw [<- zS, <- zS];exact List.perm_append_comm.append_right _
     have hR' : R g O (vs.zip us ++ (ts.set p v).roots (tmps.setIfInBounds p u)) σ w := by
       cases hb : ts.t.has (ts.slot p) with
       | true =>
         rw [hb] at h2;have h4 : R g O (ev ++ ((v, u) :: (vs.zip us ++ rest))) σ w := h3.perm List.perm_middle.symm;refine (R.drops (l := ev) h4).perm ?_;refine List.Perm.trans ?_ (h2.symm.append_left _);exact List.perm_middle.symm
       | false =>
         rw [hb] at h2;exact (R.drops (l := ev) h3.drop).perm (h2.symm.append_left _)
     obtain ⟨k1, k2, k3, k4⟩ := ih h (by simpa using hl) hW' (fun q hq => by simpa using hp q (by simp [hq])) hR';simp only [tC, List.foldl_cons];exact ⟨k1, k2, SameSh.trans ⟨rfl, rfl, rfl⟩ k3, by rw [k4]; simp⟩
theorem QN (r : Loop) (rargs : Array Value) : qM r rargs = (r.params.toList.zip rargs.toList).foldl (fun t p => t.setIfInBounds p.1 p.2) r.tmps := by
 unfold qM;rw [<- Array.foldl_toList, Array.toList_zip]
theorem KQ {σ : List IObj} {l : ke} {id b : Nat} {L : ILoop} (hR : R g O l σ w) (hι : g.ι[id]? = some (Blk.bk b)) (hσ : σ[id]? = some (.loop L)) : ∃ r : Loop, w.heap[b]? = some (.loop r) /\ LoopR g L r /\ b < w.heap.size := by
 obtain ⟨r, h1, h2⟩ := hR.objs id b _ hι hσ;exact ⟨r, h1, h2, (Array.getElem?_eq_some_iff.1 h1).1⟩
theorem R.setLoop {σ : List IObj} {l : ke} {id b : Nat} {L L' : ILoop} {r r' : Loop} (hR : R g O l σ w) (hι : g.ι[id]? = some (Blk.bk b)) (hσ : σ[id]? = some (.loop L)) (hw : w.heap[b]? = some (.loop r)) (hL : LoopR g L' r') :
   R g O l (σ.set id (.loop L')) (w.putObj b (.loop r')) /\ Grow O g w O g (w.putObj b (.loop r')) := by
 have hlt : b < w.heap.size := (Array.getElem?_eq_some_iff.1 hw).1;exact hR.putObj hι hσ (by simp) hlt (by rw [hw]; simp) ⟨r', World.putObj_heap_same hlt, hL⟩ (.inl rfl) rfl
theorem Keep.setLoop {σ : List IObj} {id : Nat} {L L' : ILoop} (hσ : σ[id]? = some (.loop L)) (ht : L'.ts = L.ts) : Keep σ (σ.set id (.loop L')) [(id, false)] :=
 Keep.set fun n _ _ ho => by
   have := ho _ hσ;simpa [RLO, ht] using this
theorem Jx {x : IExit} (h : Ko x = true) : ∃ e c, qK x = some e /\ Zq (some x) = some c /\ (∀ (b : Nat) (Rp : Ending -> World -> Prop) (a' : Act) (w' : World), (∃ v w'', (Instr.endRound b (some c)).run P w' = .ok v w'' /\ Rp (.returned v) w'') -> roundPost P b Rp e a' w') /\
   (∀ (F : Fence) (n : Nat) (Q : Exit -> Act -> World -> Prop) (a' : Act) (w' : World), Q e a' w' -> c.wpIn F n P Q a' w') := by
 cases x with
 | exit id => exact ⟨.exit id, .exit id, rfl, rfl, fun _ _ _ _ h => h, fun _ _ _ _ _ h => wpIn_exit h⟩
 | goto l => exact ⟨.goto l, .goto l, rfl, rfl, fun _ _ _ _ h => h, fun _ _ _ _ _ h => wpIn_goto h⟩
 | ret => exact ⟨.ret, .ret, rfl, rfl, fun _ _ _ _ h => h, fun _ _ _ _ _ h => wpIn_ret h⟩
 | normal => cases h
 | panic v => cases h
theorem jdS {F : kg} {n : Nat} (hS : vy P F n) (id : Nat) (args : List IVal) (σ : List IObj) (out : Out) (hout : yh F n (.y id) args σ = some out) (g : Gh) (O : List Nat) (rargs : Array Value) (w : World) (b : Nat) (hC : g.C = CR P) (hι : g.ι[id]? = some (Blk.bk b)) (hlen : args.length = rargs.toList.length)
   (hR : R g O (args.zip rargs.toList) σ w) : ∃ r : Loop, w.heap[b]? = some (.loop r) /\ rargs.size = r.params.size /\ RoundIn Fence.wide 0 P b r.fn (qM r rargs) r.assign r.body w (yz g O w σ out) := by
 simp only [yh] at hout;unfold vI at hout;split at hout
 . rename_i L hσ;split at hout
   . rename_i ts hst0 hset;obtain ⟨r, hw, hL, hlt⟩ := KQ hR hι hσ;obtain ⟨m, hm, hpm, hca, hcb⟩ := hL.code;rw [hC] at hca hcb;have hsetlen : ∀ {ps : List Nat} {vs : List IVal} {t t' : Ts}, t.setAll ps vs = some t' -> ps.length = vs.length := by
       intro ps
       induction ps with
       | nil => intro vs t t' h; cases vs <;> simp [Ts.setAll] at h ⊢
       | cons p ps ih => intro vs t t' h; cases vs <;> simp [Ts.setAll] at h ⊢; exact ih h
     have hpl := hsetlen hset;have hsz : rargs.size = r.params.size := by
       have := hL.ps;have e1 : r.params.size = L.ps.length := by rw [<- this]; simp
       rw [e1, hpl, hlen]; simp
     refine ⟨r, hw, hsz, ?_⟩;have hroots : R g O (args.zip rargs.toList ++ L.ts.roots r.tmps) σ w := by
       have h1 := Vy (ps := L.ts.roots r.tmps) (fun p hp => by
         simp only [Ts.roots, tO] at hp;obtain ⟨q, hq, rfl⟩ := hp;obtain ⟨k1, k2⟩ := hL.vals q hq;exact ⟨k1, by rw [<- k2]; exact vr _ _⟩) hR
       exact h1.perm List.perm_append_comm
     obtain ⟨k1, k2, k3, k4⟩ := ja4 hset hlen hL.wt (fun p hp => Nat.lt_of_lt_of_le (hpm p hp) hm) hroots;rw [<- hL.ps, <- QN] at k1 k2 k4;letI : Base := ⟨[]⟩;have hstand : Stand (CR P) ⟨m, L.ts.nv, L.ts.m⟩ g O { ts := ts, σ := σ, wr := [] } { tmps := qM r rargs, defers := [] } w := by
       refine ⟨k1, k2, by rw [k3.2.2, hL.ds]; exact .nil g, by rw [k4]; exact hm, ⟨k3.1, k3.2.1⟩, hC⟩
     refine roundIn_of_wpIn (F := Fence.wide) trivial ?_;have hF : Fence.wide.inRound b = WF (some b) := rfl;rw [hF];split at hout
     . rename_i s1 h1;split at hout
       . rename_i L1 hσ1;split at hout
         . rename_i hst1;split at hout
           . rename_i x s2 h2;split at hout
             . rename_i L2 hσ2
               -- the assignments
               refine hS r.assign L.a ⟨m, L.ts.nv, L.ts.m⟩ false _ .normal s1 hca h1 (some b) (fun h => by cases h) 0 _ _ w g O hstand ⟨fun e g1 O1 a1 w1 he hgo1 hs1 => ?_, fun v _ _ _ _ _ hx => by cases hx⟩;simp only [qK, zO] at he;subst he;have hι1 := hgo1.grow.pre id b hι;obtain ⟨r1, hw1, hL1, -⟩ := KQ hs1.rel hι1 hσ1;refine ⟨_, run_beginRound hw1 (by rw [hL1.st, hst1]; rfl), ?_⟩;have hLb : LoopR g1 { L1 with st := 1 } { r1 with state := .busy } := ⟨rfl, hL1.ps, hL1.pend, hL1.wt, hL1.ds, hL1.vals, hL1.code⟩;obtain ⟨hRb, hGb⟩ := hs1.rel.setLoop hι1 hσ1 hw1 hLb;have hsb : Stand (CR P) ⟨m, L.ts.nv, L.ts.m⟩ g1 O1 { s1 with σ := s1.σ.set id (.loop { L1 with st := 1 }), wr := (id, false) :: s1.wr } a1 (w1.putObj b (.loop { r1 with state := .busy })) :=
                 ⟨hRb, hs1.len, hs1.defs, hs1.size, hs1.sh, hs1.code⟩
               -- what is behind the body
               have hend : ∀ (g2 : Gh) (O2 : List Nat) (a2 : Act) (w2 : World), Goes g1 O1 { s1 with σ := s1.σ.set id (.loop { L1 with st := 1 }), wr := (id, false) :: s1.wr } (w1.putObj b (.loop { r1 with state := .busy })) g2 O2 s2 w2 -> R g2 O2 (s2.ts.roots a2.tmps) s2.σ w2 ->
                   ∀ (jump : Option Code) (L3 : ILoop), L3.st = (if jump.isNone then 0 else 2) -> L3.ts = L2.ts -> L3.ps = L2.ps -> L3.a = L2.a -> L3.b = L2.b -> jump = Zq L3.pend ->
                   out = jo σ.length false (.bool jump.isNone) { s2 with σ := s2.σ.set id (.loop L3), wr := (id, false) :: s2.wr } ->
                   ∃ v w', (Instr.endRound b jump).run P w2 = .ok v w' /\ yz g O w σ out (.returned v) w' := by
                 intro g2 O2 a2 w2 hgo2 hR2 jump L3 e1 e2 e3 e4 e5 e6 e7;have hι2 := hgo2.grow.pre id b hι1;obtain ⟨r2, hw2, hL2, -⟩ := KQ hR2 hι2 hσ2;have hLe : LoopR g2 L3 { r2 with state := if jump.isNone then .ready else .done, pending := jump } := by
                   refine ⟨?_, by rw [e3]; exact hL2.ps, e6, by rw [e2]; exact hL2.wt, by rw [e2]; exact hL2.ds, by rw [e2]; exact hL2.vals, by rw [e2, e3, e4, e5]; exact hL2.code⟩;rw [e1]; cases jump <;> rfl
                 obtain ⟨hRe, hGe⟩ := hR2.setLoop hι2 hσ2 hw2 hLe;refine ⟨_, _, run_endRound jump hw2, ?_⟩;have hRf := (R.drops (l := s2.ts.roots a2.tmps) (l' := []) (by rw [rM]; exact hRe)).push (.bool jump.isNone) rfl;have hgr : Grow O g w O2 g2 _ := ((hgo1.grow.trans hGb).trans hgo2.grow).trans hGe;obtain ⟨wn1, q1, q2⟩ := hgo1.keep;obtain ⟨wn2, q3, q4⟩ := hgo2.keep;have hkeep : Keep σ (s2.σ.set id (.loop L3)) ((id, false) :: s2.wr) := by
                   rw [q3]; simp only; rw [q1]; simp only [rM];have := ((q2.trans (Keep.setLoop hσ1 (L' := { L1 with st := 1 }) rfl)).trans q4).trans (Keep.setLoop hσ2 (L' := L3) e2);simpa using this
                 obtain ⟨g'', k3, k4, k5, k6⟩ := zQ (s' := { s2 with σ := s2.σ.set id (.loop L3), wr := (id, false) :: s2.wr }) (v := .bool jump.isNone) (pan := false) hR hgr hRf hkeep;rw [<- e7] at k4 k5 k6;exact ⟨g'', O2, _, by rw [k6]; rfl, k3, k4, k5⟩
               refine hS r.body L.b ⟨m, L.ts.nv, L.ts.m⟩ false _ x s2 hcb h2 (some b) (fun h => by cases h) 0 _ _ _ g1 O1 hsb ⟨fun e g2 O2 a2 w2 he hgo2 hs2 => ?_, fun v g2 O2 a2 w2 v' hx hgo2 hr2 hd2 _ => ?_⟩
               . split at hout
                 . simp only [qK, zO] at he;subst he;simp only [zO] at hout;exact hend g2 O2 a2 w2 hgo2 hs2.rel none { L2 with st := 0, pend := none } rfl rfl rfl rfl rfl rfl hout.symm
                 . split at hout
                   . rename_i hj;simp only [zO] at hout;obtain ⟨e', c', j1, j2, j3, j4⟩ := Jx (P := P) hj;rw [j1] at he;cases he;refine j3 _ _ _ _ (hend g2 O2 a2 w2 hgo2 hs2.rel (some c') { L2 with st := 2, pend := some x } rfl rfl rfl rfl rfl j2.symm hout.symm)
                   . cases hout
               . subst hx;simp only [Ko, r8, if_false] at hout;cases hout
             . cases hout
           . cases hout
         . cases hout
       . cases hout
     . cases hout
   . cases hout
 . cases hout
theorem Yk {F : kg} {n : Nat} (hF : FOK P F) (hS : vy P F n) (hT : Jq P F n) : CallOK P (CR P) (yh F n) :=
 ⟨fun f args σ out h => jdN hF hT f args σ out h, fun id args σ out h g O rargs w b hC hι hlen hR => jdS hS id args σ out h g O rargs w b hC hι hlen hR⟩
def Jo (P : Program) (F : kg) (n : Nat) : Prop :=
 ∀ [Base] (c : Code) (ic : ICode) (m : Shape) (top : Bool) (s : St) (x : IExit) (s' : St), kG P m top c ic = true -> eval F n (.loop ic) s = some (x, s') ->
   ∀ (ρ : Option Nat), (top = true -> ρ = none) -> ∀ (k : Nat) (Q : Exit -> Act -> World -> Prop) (a : Act) (w : World) (g : Gh) (O : List Nat), Stand (CR P) m g O s a w -> After (CR P) m g O s w x s' Q -> Code.roundsIn (WF ρ) k P c Q n a w
theorem jax {F : kg} {n : Nat} (ih : vy P F n) (il : Jo P F n) : Jo P F (n + 1) := by
 intro _ c ic m top s x s' hok hev ρ hρ k Q a w g O hst haft;simp only [eval] at hev;rw [roundsIn_succ];split at hev
 . rename_i s1 h1;refine ih c ic m top s .normal s1 hok h1 ρ hρ k _ a w g O hst ⟨fun e g' O' a' w' he hk st => ?_, fun v g' O' a' w' v' hx => by cases hx⟩;simp only [qK, zO] at he;subst he;exact il c ic m top s1 x s' hok hev ρ hρ k Q a' w' g' O' st (haft.of_goes hk)
 . rename_i hne;refine ih c ic m top s x s' hok hev ρ hρ k _ a w g O hst (haft.imp fun e a' w' hp hx hq => ?_)
   cases x with
   | normal => exact absurd hev (by intro h; exact hne _ h)
   | panic v => obtain ⟨ch, rfl⟩ := hp v rfl; exact hq
   | exit id => have := hx _ rfl; subst this; exact hq
   | goto id => have := hx _ rfl; subst this; exact hq
   | ret => have := hx _ rfl; subst this; exact hq
theorem Yo {F : kg} (hmx : P.follows .mixedOrders = true) {n : Nat} (ih : vy P F n) (il' : Jo P F (n + 1)) (hcf : CallOK P (CR P) (yh F n)) : vy P F (n + 1) := by
   intro _ c ic m top s x s' hok hev ρ hρ k Q a w g O hst haft;have hns : ic ≠ .stuck := fun e => by subst e; simp [eval] at hev
   cases c <;> cases ic <;> (try exact absurd rfl hns) <;> try (simp only [kG, r8] at hok)
   case skip.skip => simp only [eval, zO, zP] at hev; obtain ⟨rfl, rfl⟩ := hev; exact wpIn_skip (haft.1 _ g O a w rfl (.refl _ _ _ _) hst)
   case label.label => simp only [eval, zO, zP] at hev; obtain ⟨rfl, rfl⟩ := hev; exact wpIn_label (haft.1 _ g O a w rfl (.refl _ _ _ _) hst)
   case exit.exit id id' =>
     have := eq_of_beq hok; subst this;simp only [eval, zO, zP] at hev; obtain ⟨rfl, rfl⟩ := hev; exact wpIn_exit (haft.1 _ g O a w rfl (.refl _ _ _ _) hst)
   case goto.goto id id' =>
     have := eq_of_beq hok; subst this;simp only [eval, zO, zP] at hev; obtain ⟨rfl, rfl⟩ := hev; exact wpIn_goto (haft.1 _ g O a w rfl (.refl _ _ _ _) hst)
   case ret.ret => simp only [eval, zO, zP] at hev; obtain ⟨rfl, rfl⟩ := hev; exact wpIn_ret (haft.1 _ g O a w rfl (.refl _ _ _ _) hst)
   case region.ops id ops d l =>
     cases d <;> simp only [kG, r8] at hok;simp only [zA] at hok;refine wpIn_region ?_;have := jc1 (ρ := ρ) (n := k) (ops := ops) (Q := Q) (pre := []) (os := ops.toList) hcf (by simp) hok.1 hok.2 hev hst haft;simpa [List.range_eq_range'] using this
   case region.draw id ops d l pairs =>
     cases d <;> simp only [kG, r8] at hok;simp only [eval] at hev;split at hev
     . rename_i q s1 ls h1;split at hev
       . rename_i hp;exact jab hmx hcf (jak n).1 hok h1 hp hev hst haft
       . cases hev
     . cases hev
   case seq.seq c1 c2 i1 i2 =>
     simp only [zA] at hok;simp only [eval] at hev;refine wpIn_seq ?_;split at hev
     . rename_i s1 h1;refine ih c1 i1 m top s .normal s1 hok.1 h1 ρ hρ k _ a w g O hst ⟨fun e g' O' a' w' he hk st => ?_, fun v g' O' a' w' v' hx => by cases hx⟩;simp only [qK, zO] at he;subst he;exact ih c2 i2 m top s1 x s' hok.2 hev ρ hρ k Q a' w' g' O' st (haft.of_goes hk)
     . rename_i hne;refine ih c1 i1 m top s x s' hok.1 hev ρ hρ k _ a w g O hst (haft.imp fun e a' w' hp hx hq => ?_)
       cases x with
       | normal => exact absurd hev (by intro h; exact hne _ h)
       | panic v => obtain ⟨ch, rfl⟩ := hp v rfl; exact hq
       | exit id => have := hx _ rfl; subst this; exact hq
       | goto id => have := hx _ rfl; subst this; exact hq
       | ret => have := hx _ rfl; subst this; exact hq
   case cond.cond cx c1 c2 ix i1 i2 =>
     simp only [zA] at hok;obtain ⟨hx, h1, h2⟩ := hok;simp only [eval] at hev;have hb : ∀ b ts', ix.get s.ts = some (.bool b, ts') -> a.eval cx = .bool b := by
       intro b ts' hg;have h3 := (jI (l := []) hx hg hst.len (by simpa using hst.rel)).1;exact ((h3.vals (.bool b, a.eval cx) (by simp)).bool_iff b).2 rfl
     split at hev
     . rename_i ts' hg; exact wpIn_cond_true (hb true ts' hg) (ih c1 i1 m top s x s' h1 hev ρ hρ k Q a w g O hst haft)
     . rename_i ts' hg; exact wpIn_cond_false (hb false ts' hg) (ih c2 i2 m top s x s' h2 hev ρ hρ k Q a w g O hst haft)
     . cases hev
   case block.block id c1 id' i1 =>
     simp only [zA] at hok;have := eq_of_beq hok.1; subst this;simp only [eval] at hev;refine wpIn_block ?_;split at hev
     . rename_i i s1 h1;split at hev
       . rename_i hi;subst hi;simp only [zO, zP] at hev;obtain ⟨rfl, rfl⟩ := hev;refine ih c1 i1 m top s (.exit i) s1 hok.2 h1 ρ hρ k _ a w g O hst ⟨fun e g' O' a' w' he hk st => ?_, fun v g' O' a' w' v' hx => by cases hx⟩;simp only [qK, zO] at he;subst he;simp only [Exit.inBlock, if_true];exact haft.1 _ g' O' a' w' rfl hk st
       . rename_i hi;simp only [zO, zP] at hev;obtain ⟨rfl, rfl⟩ := hev;refine ih c1 i1 m top s (.exit i) s1 hok.2 h1 ρ hρ k _ a w g O hst ⟨fun e g' O' a' w' he hk st => ?_, fun v g' O' a' w' v' hx => by cases hx⟩;simp only [qK, zO] at he;subst he;simp only [Exit.inBlock, hi, if_false];exact haft.1 _ g' O' a' w' rfl hk st
     . rename_i hne;refine ih c1 i1 m top s x s' hok.2 hev ρ hρ k _ a w g O hst (haft.imp fun e a' w' hp hx hq => ?_)
       cases x with
       | exit i => exact absurd hev (by intro h; exact hne _ _ h)
       | panic v => obtain ⟨ch, rfl⟩ := hp v rfl; exact hq
       | normal => have := hx _ rfl; subst this; exact hq
       | goto i => have := hx _ rfl; subst this; exact hq
       | ret => have := hx _ rfl; subst this; exact hq
   case scope.scope c1 i1 =>
     simp only [eval] at hev;refine za ?_;split at hev
     . cases hev
     . rename_i hne;refine ih c1 i1 m top s x s' hok hev ρ hρ k _ a w g O hst (haft.imp fun e a' w' hp hx hq => ?_)
       cases x with
       | goto i => exact absurd hev (by intro h; exact hne _ _ h)
       | panic v => obtain ⟨ch, rfl⟩ := hp v rfl; exact hq
       | normal => have := hx _ rfl; subst this; exact hq
       | exit i => have := hx _ rfl; subst this; exact hq
       | ret => have := hx _ rfl; subst this; exact hq
   case rangeFunc.rangeF g0 ps ca cb x0 ps' ia ib =>
     simp only [zA] at hok;obtain ⟨htop, hx, hps, hall, hca, hcb⟩ := hok;have hρ0 := hρ htop;subst hρ0;have hps := eq_of_beq hps;simp only [rD, decide_eq_true_eq] at hall;simp only [eval] at hev;split at hev
     . rename_i gf us ws ts' hget;split at hev
       . rename_i v σ1 wr1 hc;split at hev
         . rename_i L hσL;split at hev
           . cases hev
           . rename_i hst1;have hR0 := hst.rel;have h1 := (jI (l := []) hx hget hst.len (by simpa using hst.rel)).1;have hV0 : V g (.fn (.func gf) us ws) (a.eval g0) := h1.vals (.fn (.func gf) us ws, a.eval g0) (by simp);generalize hrv : a.eval g0 = rv at hV0
             cases hV0 with
             | fn _ _ _ firsts caps hl1 hv1 hf1 hl2 hv2 hf2 =>
             -- the two blocks
             let L0 : ILoop := ⟨0, { s.ts with t := s.ts.t.un, ds := [] }, ps', ia, ib, none, .none⟩
             let gA : Gh := g.fresh w.heap.size
             let wA : World := w.alloc (.deferred (some []))
             have hRA : R gA (w.heap.size :: O) (s.ts.roots a.tmps) (s.σ ++ [.defr]) wA :=
               (hR0.push (kJ g) rfl).new (obr := .deferred (some [])) (ob := .defr) (fun _ => jW w _) ⟨[], rfl, by simp⟩
             have hGA : Grow O g w (w.heap.size :: O) gA wA := kK hR0 _;have hszA : wA.heap.size = w.heap.size + 1 := by simp [wA]
             let gB : Gh := gA.fresh wA.heap.size
             have hιA : ∀ (id b : Nat), g.ι[id]? = some (Blk.bk b) -> gB.ι[id]? = some (Blk.bk b) := by
               intro id b hb;have h2 := hGA.pre id b hb;simp only [gB, Gh.fresh];rw [zL (jk h2)]; exact h2
             have hVB : ∀ {y : IVal} {u : Value}, V g y u -> kl y u = [] -> V gB y u := fun hv ho => hv.mono hιA (fun _ _ _ h => h) (by rw [ho]; simp);have hgBC : gB.C = CR P := hst.code;have hwp : ∀ fn : FuncId, ∃ (l : Nat) (mark : List Deferred) (w₁ : World) (d : Deferred) (w₁' : World) (f : FuncId) (args : Array Value) (w₂ : World),
                 (Instr.enterLoop fn a.tmps ps ca cb (WF none).round).run P w = .ok (l, mark) w₁ /\ (resolve a.eval (rangeCall g0 l) 0).run P w₁ = .ok d w₁' /\ (∀ f', Target.leads P w₁' d.target d.args = some f' -> (WF none).fn f') /\
                 (invoke d.target d.args).run P w₁' = .ok (.enter f args) w₂ /\ ((WF none).depth.isSome = true -> 1 <= k) /\ CallsIn (WF none) (k - 1) P f args w₂ (rangePost (WF none) k P l Q { a with defers := mark ++ a.defers }) := by
               intro fn
               let r0 : Loop := { state := .ready, pending := none, fn := fn, tmps := a.tmps, params := ps, assign := ca, body := cb, defers := w.heap.size }
               let wB : World := wA.alloc (.loop r0)
               have hL0 : LoopR gB L0 r0 := by
                 refine ⟨rfl, by rw [hps], rfl, fun j p hp => ?_, rfl, fun p hp => ?_, m.n, hst.size, hall, ?_, ?_⟩
                 . simp only [L0, je2, rT] at hp;obtain ⟨q, hq, rfl⟩ := hp;exact hst.len j q hq
                 . simp only [L0, jdu, tO] at hp;obtain ⟨q, hq, rfl⟩ := hp;refine ⟨hVB (V.un3 (hR0.vals (q.2, a.tmps.getD q.1 undef) ?_)) (vr _ _), jdt _⟩;simp only [Ts.roots, tO]; exact ⟨q, hq, rfl⟩
                 . rw [hgBC]; show kG P ⟨m.n, s.ts.nv, s.ts.m⟩ false ca ia = true;rw [hst.sh.1, hst.sh.2]; exact hca
                 . rw [hgBC]; show kG P ⟨m.n, s.ts.nv, s.ts.m⟩ false cb ib = true;rw [hst.sh.1, hst.sh.2]; exact hcb
               have hRB : R gB (wA.heap.size :: w.heap.size :: O) (s.ts.roots a.tmps) ((s.σ ++ [.defr]) ++ [.loop L0]) wB :=
                 (hRA.push (kJ gA) rfl).new (obr := .loop r0) (ob := .loop L0) (fun _ => ⟨r0, jW wA _, hL0⟩) ⟨[], rfl, by simp⟩
               have hGB : Grow O g w (wA.heap.size :: w.heap.size :: O) gB wB := hGA.trans (kK hRA _);have hlen : g.ι.length = s.σ.length := hR0.len;have hι0 : gB.ι[s.σ.length]? = some (Blk.bk w.heap.size) := by
                 simp only [gB, gA, Gh.fresh, <- hlen];rw [zS, zR (rP _)]; simp
               have hι1 : gB.ι[s.σ.length + 1]? = some (Blk.bk (w.heap.size + 1)) := by
                 simp only [gB, gA, Gh.fresh, <- hlen];rw [zS, zR (by omega)]; simp [hszA]
               have hσe : s.σ ++ [.defr, .loop L0] = (s.σ ++ [.defr]) ++ [.loop L0] := by simp
               obtain ⟨⟨gfn, q1, q2, q3⟩, hcalls⟩ := hcf.fn gf _ _ _ hc
               -- the arguments
               let rargs : Array Value := firsts ++ #[.func (.yield (w.heap.size + 1)) #[] #[]] ++ caps
               have hz : (us ++ [IVal.yl (s.σ.length + 1)] ++ ws).zip rargs.toList = us.zip firsts.toList ++ [(IVal.yl (s.σ.length + 1), Value.func (.yield (w.heap.size + 1)) #[] #[])] ++ ws.zip caps.toList := by
                 simp only [rargs, Array.toList_append];rw [List.zip_append (by simp; omega), List.zip_append (by simpa using hl1)];rfl
               have hRargs : R gB (wA.heap.size :: w.heap.size :: O) ((us ++ [IVal.yl (s.σ.length + 1)] ++ ws).zip rargs.toList ++ s.ts.roots a.tmps) (s.σ ++ [.defr, .loop L0]) wB := by
                 rw [hσe];refine Vy (fun p hp => ?_) hRB;rw [hz] at hp;have hfl : ∀ (xs : List IVal) (vs : Array Value), (∀ (i : Nat) x v, xs[i]? = some x -> vs[i]? = some v -> V g x v) -> (∀ x ∈ xs, vl x) -> p ∈ xs.zip vs.toList -> V gB p.1 p.2 /\ kl p.1 p.2 = [] := by
                   intro xs vs hv hf hp;obtain ⟨i, hi⟩ := kc hp;rw [List.getElem?_zip_eq_some] at hi;have hfx := hf p.1 (zM hi.1);have ho := kx hfx p.2;exact ⟨hVB (hv i p.1 p.2 hi.1 (by simpa using hi.2)) ho, ho⟩
                 rcases List.mem_append.1 hp with hp | hp
                 . rcases List.mem_append.1 hp with hp | hp
                   . exact hfl us firsts hv1 hf1 hp
                   . simp only [List.mem_singleton] at hp; subst hp;exact ⟨.yl _ _ hι1, rfl⟩
                 . exact hfl ws caps hv2 hf2 hp
               have hrl : (us ++ [IVal.yl (s.σ.length + 1)] ++ ws).length = rargs.toList.length := by
                 simp [rargs]; omega
               refine ⟨w.heap.size + 1, _, wB, { target := .fn (.func gf) caps, args := firsts ++ #[.func (.yield (w.heap.size + 1)) #[] #[]] }, wB, gf, rargs, wB, run_enterLoop_outer fn a.tmps ps ca cb, ?_, fun _ _ => trivial, ?_, fun h => by simp [WF, Fence.wide] at h, ?_⟩
               . simp [resolve, rangeCall, hrv, Deferred.ofValue]; rfl
               . simp [invoke, callFunc, q1, q2, q3, rargs]
               . refine zI ((hcalls gB _ rargs wB hgBC hrl hRargs.sub_own).mono ?_);rintro e w' ⟨g', O', v', rfl, hg, hR', hk⟩;obtain ⟨O'', hR'', hg''⟩ := hRargs.frame hg hR';have hι1' := hg''.pre _ _ hι1;obtain ⟨r3, hw3, hL3, hlt3⟩ := KQ hR'' hι1' hσL;have hR3 : R g' O'' (s.ts.roots a.tmps) σ1 w' := R.drops (l := [(v, v')]) hR'';obtain ⟨hRd, hGd⟩ := hR3.putObj (ob' := .dead) (x := .loop { r3 with state := .exhausted }) hι1' hσL (by simp) hlt3 (by rw [hw3]; simp) trivial (.inr rfl) rfl;have hbusy : r3.state ≠ .busy := by
                   rw [hL3.st]
                   match hh : L.st with
                   | 0 => simp [jfm]
                   | 1 => exact absurd hh hst1
                   | 2 => simp [jfm]
                   | (j + 3) => simp [jfm]
                 have hgr : Grow O g w O'' g' (w'.putObj (w.heap.size + 1) (.loop { r3 with state := .exhausted })) := (hGB.trans hg'').trans hGd;have hgoes : Goes g O s w g' O'' { ts := { s.ts with ds := s.σ.length :: s.ts.ds }, σ := σ1.set (s.σ.length + 1) .dead, wr := (s.σ.length + 1, false) :: (wr1 ++ s.wr) } (w'.putObj (w.heap.size + 1) (.loop { r3 with state := .exhausted })) := by
                   refine ⟨hgr, (s.σ.length + 1, false) :: wr1, by simp, ?_⟩;have := (((Keep.snoc s.σ .defr).trans (Keep.snoc _ (.loop L0))).trans (by rw [<- hσe]; exact hk)).trans (Keep.set (σ := σ1) (id := s.σ.length + 1) (ob := .dead) (rf := false) fun n _ _ _ => trivial);simpa using this
                 have hstand : Stand (CR P) m g' O'' { ts := { s.ts with ds := s.σ.length :: s.ts.ds }, σ := σ1.set (s.σ.length + 1) .dead, wr := (s.σ.length + 1, false) :: (wr1 ++ s.wr) } { a with defers := [{ target := .collected w.heap.size, args := #[] }] ++ a.defers } (w'.putObj (w.heap.size + 1) (.loop { r3 with state := .exhausted })) := by
                   exact ⟨hRd, hst.len, (hst.defs.mono hgr.pre).mark (hg''.pre _ _ hι0), hst.size, hst.sh, hgr.code.trans hst.code⟩
                 refine ⟨_, _, run_endLoop hw3 hbusy, ?_⟩;have hpend := hL3.pend;generalize w'.putObj (w.heap.size + 1) (.loop { r3 with state := .exhausted }) = w4 at hgoes hstand ⊢;rw [hpend];split at hev
                 . rename_i hpn;simp only [zO, zP] at hev;obtain ⟨rfl, rfl⟩ := hev;rw [hpn];exact haft.1 _ g' O'' _ _ rfl hgoes hstand
                 . rename_i x1 hpn;split at hev
                   . rename_i hj;simp only [zO, zP] at hev;obtain ⟨rfl, rfl⟩ := hev;obtain ⟨e', c', j1, j2, j3, j4⟩ := Jx (P := P) hj;rw [hpn, j2];exact j4 _ _ _ _ _ (haft.1 _ g' O'' _ _ j1 hgoes hstand)
                   . cases hev
             exact wpIn_rangeFunc fun fn _ => hwp fn
         . cases hev
       . cases hev
     . cases hev
   case loop.loop c1 i1 => exact wpIn_loop_rounds (n + 1) (il' c1 i1 m top s x s' hok hev ρ hρ k Q a w g O hst haft)
theorem X5 [Base] {m : Shape} {gfn : Func} {Rp : Ending -> World -> Prop} {x : IExit} {s' : St} (hx : (zo x).isSome = true)
   (hN : zo x = some none -> ∀ g' O' tmps' ms w', Goes g O s w g' O' s' w' -> R g' O' (s'.ts.roots tmps') s'.σ w' -> WT s'.ts tmps' -> MarksR g' s'.ts.ds ms -> LeavesInM (WF none) 0 P gfn tmps' Rp (ms ++ Base.B) .returning w')
   (hP : ∀ v, zo x = some (some v) -> ∀ g' O' tmps' ms w' v', Goes g O s w g' O' s' w' -> R g' O' ((v, v') :: s'.ts.roots tmps') s'.σ w' -> WT s'.ts tmps' -> MarksR g' s'.ts.ds ms -> LeavesInM (WF none) 0 P gfn tmps' Rp (ms ++ Base.B) (.panicking [{ v := v', recovered := false }]) w') :
   After C0 m g O s w x s' (bodyPostM (WF none) 0 P gfn Rp) := by
 refine ⟨fun e g' O' a' w' he k st => ?_, fun v g' O' a' w' v' hxv k r d wt => ?_⟩
 . obtain ⟨ms, e1, mr⟩ := st.defs
   cases x with
   | normal =>
     simp only [qK, zO] at he;subst he;show LeavesInM _ _ _ _ _ _ a'.defers _ _;rw [e1];exact hN rfl g' O' a'.tmps ms w' k st.rel st.len mr
   | ret =>
     simp only [qK, zO] at he;subst he;show LeavesInM _ _ _ _ _ _ a'.defers _ _;rw [e1];exact hN rfl g' O' a'.tmps ms w' k st.rel st.len mr
   | panic v => cases he
   | exit i => cases hx
   | goto i => cases hx
 . subst hxv;obtain ⟨ms, e1, mr⟩ := d;show LeavesInM _ _ _ _ _ _ a'.defers _ _;rw [e1];exact hP v rfl g' O' a'.tmps ms w' v' k r wt mr
theorem jf4 {us vs ws : List IVal} {firsts args caps : List Value} (hl1 : us.length = firsts.length) (hl2 : vs.length = args.length)
   (hv1 : ∀ (i : Nat) x v, us[i]? = some x -> firsts[i]? = some v -> V g x v) (hf1 : ∀ x ∈ us, vl x) (hv2 : ∀ (i : Nat) x v, vs[i]? = some x -> args[i]? = some v -> V g x v) (hn2 : ∀ x ∈ vs, nt x = true)
   (hv3 : ∀ (i : Nat) x v, ws[i]? = some x -> caps[i]? = some v -> V g x v) (hf3 : ∀ x ∈ ws, vl x) :
   ∀ p ∈ (us ++ vs.map un2 ++ ws).zip (firsts ++ args ++ caps), V g p.1 p.2 /\ kl p.1 p.2 = [] := by
 have hz : (us ++ vs.map un2 ++ ws).zip (firsts ++ args ++ caps) = us.zip firsts ++ (vs.map un2).zip args ++ ws.zip caps := by
   rw [List.zip_append (by simp; omega), List.zip_append hl1]
 intro p hp;rw [hz] at hp;have hfl : ∀ (xs : List IVal) (vs : List Value), (∀ (i : Nat) x v, xs[i]? = some x -> vs[i]? = some v -> V g x v) -> (∀ x ∈ xs, vl x) -> p ∈ xs.zip vs -> V g p.1 p.2 /\ kl p.1 p.2 = [] := by
   intro xs vs hv hf hp;obtain ⟨i, hi⟩ := kc hp;rw [List.getElem?_zip_eq_some] at hi;exact ⟨hv i p.1 p.2 hi.1 hi.2, kx (hf p.1 (zM hi.1)) p.2⟩
 rcases List.mem_append.1 hp with hp | hp
 . rcases List.mem_append.1 hp with hp | hp
   . exact hfl us firsts hv1 hf1 hp
   . refine hfl _ args (fun i x v hx hv => ?_) (fun x hx => ?_) hp
     . simp only [rJ, rT] at hx;obtain ⟨y, hy, rfl⟩ := hx;exact (hv2 i y v hy hv).un2
     . simp only [tO] at hx;obtain ⟨y, hy, rfl⟩ := hx;exact ⟨VW y, by rw [V9]; exact hn2 y hy⟩
 . exact hfl ws caps hv3 hf3 hp
theorem ZN {F : kg} {n : Nat} (ih : vy P F n) (it : Jq P F n) (ic' : vy P F (n + 1)) (hcf : CallOK P (CR P) (yh F n)) : Jq P F (n + 1) := by
 intro _ c ic m s x s' hok hev hx gfn Rp a w g O hst hN hP;have haft := X5 (C0 := CR P) (m := m) hx hN hP;unfold vh at hok;split at hok
 . rename_i c1 c2 i1 i2;simp only [zA] at hok;simp only [eval] at hev;refine wpIn_seq ?_;split at hev
   . rename_i s1 h1;refine ih c1 i1 m true s .normal s1 hok.1 h1 none (fun _ => rfl) 0 _ a w g O hst ⟨fun e g' O' a' w' he hk st => ?_, fun v g' O' a' w' v' hx => by cases hx⟩;simp only [qK, zO] at he;subst he;exact it c2 i2 m s1 x s' hok.2 hev hx gfn Rp a' w' g' O' st (fun hm g2 O2 t2 ms w2 k2 => hN hm g2 O2 t2 ms w2 (hk.trans k2)) (fun v hm g2 O2 t2 ms w2 v' k2 => hP v hm g2 O2 t2 ms w2 v' (hk.trans k2))
   . rename_i hne;refine ih c1 i1 m true s x s' hok.1 hev none (fun _ => rfl) 0 _ a w g O hst (haft.imp fun e a' w' hp hx hq => ?_)
     cases x with
     | normal => exact absurd hev (by intro h; exact hne _ h)
     | panic v => obtain ⟨ch, rfl⟩ := hp v rfl; exact hq
     | exit id => have := hx _ rfl; subst this; exact hq
     | goto id => have := hx _ rfl; subst this; exact hq
     | ret => have := hx _ rfl; subst this; exact hq
 . rename_i ca cb l xo xs d c b;simp only [zA] at hok;obtain ⟨hok1, hok2⟩ := hok;split at hok1
   . rename_i id ops;unfold jaa at hok1;split at hok1
     . rename_i o pre hrev;simp only [zA] at hok1;obtain ⟨hdf, hops, hdst, hdok⟩ := hok1;have hlist : ops.toList = pre.reverse ++ [o] := by rw [<- List.reverse_reverse ops.toList, hrev]; simp
       unfold YV at hdf;split at hdf
       . rename_i k hk;simp only [zA, Option.isNone_iff_eq_none] at hdf;obtain ⟨hcal, hd0, hg0⟩ := hdf;split at hcal
         . rename_i r hr;simp only [zA] at hcal;obtain ⟨hxo, hxs⟩ := hcal;simp only [eval] at hev;split at hev
           . rename_i s1 h1;split at hev
             . rename_i g0 us ws ts1 hgx;split at hev
               . rename_i vs ts2 hga;split at hev
                 . rename_i hcond;obtain ⟨rfl, hnt, hds⟩ := hcond;split at hev
                   . rename_i x2 s2 h2;refine wpIn_seq (wpIn_region ?_);have hrange : List.range ops.size = List.range' ([] : List Oper).length pre.reverse.length ++ [pre.reverse.length] := by
                       rw [<- Array.length_toList, hlist];simp [List.range_eq_range', List.range'_concat]
                     rw [hrange];refine Xe (ρ := none) (pre := []) (os := pre.reverse) (more := [o]) hcf (by rw [hlist]; rfl) hops hdst h1 hst ⟨fun e g1 O1 a1 w1 he hk1 st1 => ?_, fun v g' O' a' w' v' hx => by cases hx⟩;simp only [qK, zO] at he;subst he;have hget : ops[pre.reverse.length]? = some o := by rw [<- Array.getElem?_toList, hlist]; simp
                     -- what is read
                     obtain ⟨r1, t1⟩ := jI (l := []) hxo hgx st1.len (by simpa using st1.rel);obtain ⟨r2, t2, hvl⟩ := kD (l := [(.fn (.func d.g) us ws, a1.eval r)]) hxs hga t1 r1;have hVf : V g1 (.fn (.func d.g) us ws) (a1.eval r) := r2.vals (.fn (.func d.g) us ws, a1.eval r) (by simp);generalize hrv : a1.eval r = rv at hVf r2
                     cases hVf with
                     | fn _ _ _ firsts caps hl1 hv1 hf1 hl2 hv2 hf2 =>
                     let rargs : Array Value := firsts ++ k.args.map a1.eval ++ caps
                     let dd : Deferred := { target := .fn (.func d.g) caps, args := firsts ++ k.args.map a1.eval }
                     have hAR : ∀ p ∈ (us ++ vs.map un2 ++ ws).zip rargs.toList, V g1 p.1 p.2 /\ kl p.1 p.2 = [] := by
                       have := jf4 (g := g1) (us := us) (vs := vs) (ws := ws) (firsts := firsts.toList) (args := k.args.toList.map a1.eval) (caps := caps.toList) (by simpa using hl1) (by simpa using hvl) (fun i x v hx hv => hv1 i x v hx (by simpa using hv)) hf1
                         (fun i x v hx hv => r2.vals (x, v) (rZ _ (zM (List.getElem?_zip_eq_some.2 ⟨hx, hv⟩)))) (List.all_eq_true.1 hnt) (fun i x v hx hv => hv2 i x v hx (by simpa using hv)) hf2
                       simpa [rargs] using this
                     have hlen : (us ++ vs.map un2 ++ ws).length = rargs.toList.length := by
                       simp [rargs] at hvl ⊢; omega
                     have hrel2 : R g1 O1 (ts2.roots a1.tmps) s1.σ w1 := R.drops (l := [(IVal.fn (.func d.g) us ws, Value.func (.func d.g) firsts caps)]) (R.drops (l := vs.zip (k.args.toList.map a1.eval)) r2);have hsh : SameSh s1.ts ts2 := (SameSh.get hgx).trans (.getAll hga);have hds1 : s1.ts.ds = [] := by rw [<- hsh.2.2]; exact hds
                     have hbase : a1.defers = Base.B := by have := st1.defs; rw [hds1] at this; exact this.nil_iff
                     show wpOpsIn (WF none) 0 P ops _ [pre.reverse.length] a1 w1;have hexec : (execOp a1.eval o).run P w1 = .ok (.defer dd) w1 := by
                       simp only [execOp, hk, resolve, hr];show (Sem.run P (do let d' <- (do let dv <- Deferred.ofValue (a1.eval r) (k.args.map a1.eval); pure dv : Sem Deferred); pure (Next.defer d')) w1) = _;rw [hrv];simp [Deferred.ofValue, Result.andThen, dd]
                     simp only [wpOpsIn, hget];rw [if_pos (by simp [Region.wanted, hg0])];refine ⟨fun _ _ => trivial, ?_⟩;show Oper.uponIn _ _ _ _ _ _ _ ((Oper.semAt none a1.eval o).run P w1);rw [Oper.semAt_none, hexec, Oper.uponIn_defer, hd0];show cb.wpIn (WF none) 0 P (bodyPostM (WF none) 0 P gfn Rp) { a1 with defers := dd :: a1.defers } w1
                     -- the call that is owed
                     unfold yf at hev;split at hev
                     . rename_i mm σ1 hmm hshut;obtain ⟨m', rfl, hts', hm', gfd, q1, q2, q3, hdef⟩ := jdU ih hdok hev;have key : ∀ (g2 : Gh) (O2 : List Nat) (tmps2 : Array Value) (ms : List Deferred) (w2 : World) (u : FrameMode) (l : ke), u ≠ .run -> Yb l mm u -> Goes g1 O1 { s1 with ts := ts2 } w1 g2 O2 s2 w2 -> R g2 O2 (l ++ s2.ts.roots tmps2) s2.σ w2 -> WT s2.ts tmps2 -> MarksR g2 s2.ts.ds ms ->
                           (∀ v v', (v, v') ∈ l -> mm = some v -> u = .panicking [{ v := v', recovered := false }] -> l = [(v, v')]) -> (mm = none -> l = []) -> LeavesInM (WF none) 0 P gfn tmps2 Rp (ms ++ dd :: Base.B) u w2 := by
                         intro g2 O2 tmps2 ms w2 u l hu hmode hk2 hR2 hwt2 hms hone hnil;refine Xl (l := l ++ s2.ts.roots tmps2) hu s2.ts.ds s2.σ σ1 ms w2 hshut hms hR2 (fun w3 hR3 hG3 => ?_);have hAR2 : ∀ p ∈ (us ++ vs.map un2 ++ ws).zip rargs.toList, V g2 p.1 p.2 /\ kl p.1 p.2 = [] := fun p hp => by
                           obtain ⟨p1, p2⟩ := hAR p hp;exact ⟨p1.mono hk2.grow.pre hk2.grow.mono (by rw [p2]; simp) hk2.grow.zm.le, p2⟩
                         have hRc := Vy hAR2 hR3;have hmode' : Yb (l ++ s2.ts.roots tmps2) mm u := by
                           cases mm with
                           | none => exact hmode
                           | some v => obtain ⟨v', e1, e2⟩ := hmode; exact ⟨v', e1, rZ _ e2⟩
                         refine ⟨hu, .inr ⟨fun h => by simp [WF, Fence.wide] at h, .func d.g, caps, d.g, rargs, rfl, ?_, fun _ _ => trivial, ?_⟩⟩
                         . simp [invoke, callFunc, q1, q2, q3, dd, rargs]
                         . refine CallsDIn.mono (hdef g2 O2 rargs w3 u _ (hk2.grow.code.trans st1.code) hlen hmode' hRc) ?_;rintro e u' w4 ⟨⟨v0, rfl⟩, g4, O4, wn, p1, p2, p3, p4, p5⟩;show LeavesInM (WF none) 0 P gfn tmps2 Rp Base.B (settle u') w4;have hgo : Goes g O s w g4 O4 s' w4 := by
                             refine ⟨((hk1.grow.trans hk2.grow).trans hG3).trans p1, ?_⟩;obtain ⟨n1, b1, b2⟩ := hk1.keep;obtain ⟨n2, b3, b4⟩ := hk2.keep;refine ⟨wn ++ ((s2.ts.ds.map fun id => (id, false)) ++ (n2 ++ n1)), ?_, ?_⟩
                             . rw [p3]; simp only; rw [b3]; simp only; rw [b1]; simp
                             . exact ((b2.trans b4).trans (QQ _ _ _ hshut)).trans p4
                           have hwt4 : WT s'.ts tmps2 := by rw [hts']; exact hwt2
                           have hr4 : s'.ts.roots tmps2 = s2.ts.roots tmps2 := by rw [hts']; rfl
                           have hms4 : MarksR g4 s'.ts.ds [] := by rw [hts']; exact ⟨rfl, fun i id d h => by simp at h⟩
                           cases m' with
                           | none =>
                             simp only at p5;rw [p5];have hRl := R.drops (l := l) p2;exact hN rfl g4 O4 tmps2 [] w4 hgo (by rw [hr4]; exact hRl) hwt4 hms4
                           | some v =>
                             simp only at p5;rw [p5]
                             rcases hm' with hm' | hm'
                             . cases hm'
                             . subst hm';obtain ⟨v', rfl, e2⟩ := hmode;have := hone v v' e2 rfl rfl;subst this;exact hP v rfl g4 O4 tmps2 [] w4 v' hgo (by rw [hr4]; simpa using p2) hwt4 hms4
                       have hsz1 := st1.size;have hsh1 := st1.sh;have hco1 := st1.code;letI base' : Base := ⟨dd :: a1.defers⟩;have hst2 : Stand (CR P) m g1 O1 { s1 with ts := ts2 } { a1 with defers := dd :: a1.defers } w1 := by
                         refine ⟨hrel2, t2, ?_, hsz1, ⟨hsh.1.trans hsh1.1, hsh.2.1.trans hsh1.2⟩, hco1⟩;simp only [hds];exact DefsR.nil g1
                       refine it cb b m { s1 with ts := ts2 } x2 s2 hok2 h2 (by rw [hmm]; rfl) gfn Rp _ w1 g1 O1 hst2 (fun hm g2 O2 t2 ms w2 k2 rr wt mr => ?_) (fun v hm g2 O2 t2 ms w2 v' k2 rr hwt mr => ?_)
                       . rw [hmm] at hm;simp only [zO] at hm;subst hm;have := key g2 O2 t2 ms w2 .returning [] (by simp) rfl k2 (by simpa using rr) wt mr (fun v v' h => by cases h) (fun _ => rfl);show LeavesInM _ _ _ _ _ _ (ms ++ dd :: a1.defers) _ _;rw [hbase]; exact this
                       . rw [hmm] at hm;simp only [zO] at hm;subst hm;have := key g2 O2 t2 ms w2 (.panicking [{ v := v', recovered := false }]) [(v, v')] (by simp) ⟨v', rfl, by simp⟩ k2 (by simpa using rr) hwt mr (fun v0 v0' h _ _ => by simp at h; obtain ⟨rfl, rfl⟩ := h; rfl) (fun h => by cases h);show LeavesInM _ _ _ _ _ _ (ms ++ dd :: a1.defers) _ _;rw [hbase]; exact this
                     . cases hev
                   . cases hev
                 . cases hev
               . cases hev
             . cases hev
           . cases hev
         . cases hcal
       . cases hdf
     . cases hok1
   . cases hok1
 . rename_i cx c1 c2 ix i1 i2;simp only [zA] at hok;obtain ⟨hxo, h1, h2⟩ := hok;simp only [eval] at hev;have hb : ∀ b ts', ix.get s.ts = some (.bool b, ts') -> a.eval cx = .bool b := by
     intro b ts' hg;have h3 := (jI (l := []) hxo hg hst.len (by simpa using hst.rel)).1;exact ((h3.vals (.bool b, a.eval cx) (by simp)).bool_iff b).2 rfl
   split at hev
   . rename_i ts' hg; exact wpIn_cond_true (hb true ts' hg) (it c1 i1 m s x s' h1 hev hx gfn Rp a w g O hst hN hP)
   . rename_i ts' hg; exact wpIn_cond_false (hb false ts' hg) (it c2 i2 m s x s' h2 hev hx gfn Rp a w g O hst hN hP)
   . cases hev
 . exact ic' _ _ m true s x s' hok hev none (fun _ => rfl) 0 _ a w g O hst haft
theorem Yg {F : kg} (hmx : P.follows .mixedOrders = true) (hF : FOK P F) : ∀ n, vy P F n /\ Jo P F n /\ Jq P F n := by
 intro n
 induction n with
 | zero => exact ⟨fun c ic m top s x s1 _ hev => (by simp [eval] at hev), fun c ic m top s x s1 _ hev => (by simp [eval] at hev), fun c ic m s x s1 _ hev => (by simp [eval] at hev)⟩
 | succ n ih =>
   obtain ⟨ih, il, it⟩ := ih;have hcf := Yk hF @ih @it;have il' : Jo P F (n + 1) := jax @ih @il;have ic' : vy P F (n + 1) := Yo hmx @ih @il' hcf;exact ⟨@ic', @il', ZN @ih @it @ic' hcf⟩
theorem Z4 {F : kg} (hmx : P.follows .mixedOrders = true) (hF : FOK P F) (n : Nat) : CallOK P (CR P) (yh F n) := Yk hF @(Yg hmx hF n).1 @(Yg hmx hF n).2.2
end Go.Idl
namespace Go.Idl
variable [Globs]
def Zt : Value -> Option IVal
 | .int k n => some (.int k n)
 | .bool b => some (.bool b)
 | .string s => some (.str s.data.toList)
 | .pointer none => some (.prim (.pointer none))
 | .nilIface => some (.prim .nilIface)
 | .nilFunc => some (.prim .nilFunc)
 | .map none => some (.prim (.map none))
 | .slice none 0 0 => some (.sl 0 true [])
 | _ => none
def jai (P : Program) (T : TypeId) : Nat :=
 match P.underlying T with
 | some (.slice E) => match P.info? E with
   | some i => i.size
   | none => 0
 | _ => 0
def Kd (P : Program) : Nat -> TypeId -> Option (List IVal)
 | 0, _ => none
 | n + 1, T =>
   match P.underlying T with
   | some (.int k) => some [.int k 0]
   | some .bool => some [.bool false]
   | some .string => some [.str []]
   | some (.pointer _) => some [.prim (.pointer none)]
   | some .unsafePointer => some [.prim (.pointer none)]
   | some (.slice _) => some [.sl (jai P T) true []]
   | some (.map _ _) => some [.prim (.map none)]
   | some (.func _ _ _) => some [.prim .nilFunc]
   | some (.interface _) => some [.prim .nilIface]
   | some (.array len E) => match Kd P n E with
     | some zs => some (J1 len zs)
     | none => none
   | some (.struct fs) => fs.toList.foldr (fun f acc => match Kd P n f.type, acc with
     | some zs, some r => some (zs ++ r)
     | _, _ => none) (some [])
   | _ => none
def jbD (P : Program) (T : TypeId) : Bool :=
 match P.underlying T with
 | some (.struct _) => true
 | some (.array _ _) => true
 | _ => false
def jdQ (P : Program) (T : Option TypeId) (v : Value) : Option IVal :=
 match v with
 | .slice none 0 0 => some (.sl (match T with | some T => jai P T | none => 0) true [])
 | .agg cs => (match T with
   | some T => match Kd P 16 T with
     | some zs => if Jh zs cs.toList then some zs else cs.toList.mapM Zt
     | none => cs.toList.mapM Zt
   | none => cs.toList.mapM Zt).map .agg
 | .tuple cs => if cs.isEmpty then some (.tup []) else none
 | v => Zt v
def jek (P : Program) (T : TypeId) : Bool := match P.info? T with
 | some i => i.str == "strings.Builder"
 | none => false
structure Cx where
 P : Program
 cand : List TypeId
 mv : Nat -> Bool
 pure : Bool
 take : Bool
 ref : Bool
 draw : Bool
 bld : Bool := false
def jfB : Value -> Option IVal
 | .iface t (.agg vs) => match vs.toList with
   | [.pointer (some a)] => some (.iface t (.agg [.prim (.pointer (some a))]))
   | _ => none
 | .iface t (.pointer (some a)) => some (.iface t (.prim (.pointer (some a))))
 | v => Zt v
def Cx.opd (c : Cx) (T : Option TypeId) : Operand -> Option Opd
 | .tmp j => some (if c.mv j then .m j else .t j)
 | .const v => (jdQ c.P T v).map .c
 | .func f => some (.c (.fn (.func f) [] []))
 | .global k => match Globs.vals k with
   | some vs => (vs.mapM jfB).map fun cs => .c (.pv false cs 0)
   | none => none
def kV : Opd -> Opd
 | .m i => .t i
 | x => x
def Cx.opds (c : Cx) (l : List (Operand × Option TypeId)) : Option (List Opd) := l.mapM fun p => c.opd p.2 p.1
def jeF (P : Program) (T : TypeId) : Option Nat := if jbD P T then (P.info? T).map (·.size) else none
def jbE : Operand -> Option Nat
 | .const (.pointer none) => some 0
 | .const .nilIface => some 1
 | .const .nilFunc => some 2
 | .const (.map none) => some 3
 | _ => none
def jcJ (P : Program) (T : TypeId) : Option (Nat × TypeId) :=
 match P.underlying T with
 | some (.map K E) => match P.underlying K with
   | some (.int _) => some (0, E)
   | some .string => some (1, E)
   | some .bool => some (2, E)
   | _ => none
 | _ => none
def jgf (P : Program) (T : TypeId) : Option IVal :=
 match Kd P 16 T with
 | some zs => if jbD P T then some (.agg zs) else zs[0]?
 | none => none
def jgA (P : Program) : TypeId := match P.cutTypes.find? (·.1 == "internal/reflectlite.rtype") with
 | some (_, t) => t
 | none => 0
def jgu (P : Program) (t : TypeId) : Bool := !P.packed t && (!P.holdsPacked P.depth t && !P.methodsOfAPack P.depth t)
def jbV (P : Program) (cand : List TypeId) (f : TypeId -> TypeId -> Option Bool) : List ((TypeId × TypeId) × Bool) :=
 cand.flatMap fun t => cand.filterMap fun u => match f u t with
   | some b => some ((t, u), b)
   | none => none
def jbv (P : Program) (cand : List TypeId) (name : String) : Option ExtK :=
 let G := P.globals.size
 let rt := jgA P
 let cand := cand.filter (jgu P)
 if name == "internal/reflectlite.TypeOf" then some (.typeOf rt G)
 else if name == "(internal/reflectlite.Value).Type" then some (.vType rt G)
 else if name == "(internal/reflectlite.Value).IsNil" then some (.vIsNil G (cand.filter fun t => tyN P t none))
 else if name == "(internal/reflectlite.Value).Elem" then some (.vElem G (cand.filterMap fun t => match XD P t with
   | some e => (match J6 P e with | some k => if tyN P t none then some (t, e, k) else none | none => none)
   | none => none))
 else if name == "(internal/reflectlite.rtype).Elem" then some (.rElem rt G (cand.filterMap fun t => (XD P t).map fun e => (t, e)))
 else if name == "(internal/reflectlite.rtype).Comparable" then some (.rCmp G (cand.filterMap fun t => (P.info? t).map fun i => (t, i.comparable)))
 else if name == "(internal/reflectlite.rtype).Implements" then some (.rImpl G (jbV P cand fun u t => if J6 P u == some 20 then XI P u t else none))
 else if name == "(internal/reflectlite.rtype).AssignableTo" then some (.rAsg G (jbV P cand fun u t => match daP P u t, XI P u t with
   | some a, some b => some (a || b)
   | _, _ => none))
 else if name == "(*internal/abi.Type).Kind" then some (.aKind G (cand.filterMap fun t => (J6 P t).map fun k => (t, k)))
 else if name == "internal/bytealg.CountString" then some .cntS
 else if name == "internal/bytealg.IndexByteString" then some .idxBS
 else if name == "internal/race.Disable" then some (.mk0 true)
 else if name == "internal/race.Enable" then some (.mk0 false)
 else if name == "internal/race.Acquire" then some (.mk1 true)
 else if name == "internal/race.ReleaseMerge" then some (.mk1 false)
 else none
def jeD (name : String) : Option MemK :=
 [IntKind.i32, .i64, .u32, .u64].findSome? fun k => [MemK.aload k, .astore k, .acas k, .aadd k, .mclone, .noesc].find? fun m => kN m == some name
def jde (P : Program) (t : TypeId) (name : String) : Option RecvK := match P.info? t with
 | some i => match i.methods.find? (fun m => m.name == name) with
   | some m => match m.path.toList with
     | [] => some .same
     | [s] => match P.underlying s.struct with
       | some (.struct fs) => match fs[s.index]? with
         | some fd => some (.fld fd.offset (jeF P fd.type))
         | none => none
       | _ => none
     | _ => none
   | none => none
 | none => none
def Cx.extCall (c : Cx) (f : FuncId) (k : Call) : Option IOp :=
 let tys := k.argTypes.toList.map some
 match P_name c.P f, c.opds (k.args.toList.zip (tys ++ List.replicate k.args.size none)) with
 | some name, some xs =>
   if name == "internal/reflectlite.ValueOf" then (match xs with
     | [x] => some (.vOf c.P.globals.size (c.cand.filterMap fun t => (J6 c.P t).map fun n => (t, n)) x)
     | _ => none)
   else if name == "(internal/reflectlite.Value).Set" then (match xs with
     | [x, y] => some (.vSet c.P.globals.size (c.cand.filter fun t => !c.P.packed t && tyN c.P t none) x y)
     | _ => none)
   else match jeD name with
     | some m => some (.mem m xs)
     | none => (jbv c.P c.cand name).map fun e => .pur (.ext e) xs
 | _, _ => none
where P_name (P : Program) (f : FuncId) : Option String := match P.funcs[f]? with
 | some fn => if fn.body.isNone then some fn.name else none
 | none => none
def Cx.invCall (c : Cx) (r : Operand) (name : String) (k : Call) : Option IOp :=
 let tys := k.argTypes.toList.map some
 let P := c.P
 let all := c.cand.filterMap fun t => match mfn P t name, jde P t name with
   | some f, some rk => if JM P t name f rk then (P.funcs[f]?).map fun fn => (t, f, rk, fn.body.isNone, fn.name) else none
   | _, _ => none
 match c.opd none r, c.opds (k.args.toList.zip (tys ++ List.replicate k.args.size none)) with
 | some x, some xs =>
   let fns := all.filter fun p => !p.2.2.2.1
   if fns.isEmpty then
     some (.pur (.invX (all.filterMap fun p => (jbv P c.cand p.2.2.2.2).map fun e => (p.1, e, p.2.2.1))) (x :: xs))
   else some (.inv (fns.map fun p => (p.1, p.2.1, p.2.2.1)) x xs)
 | _, _ => none
def Cx.call (c : Cx) (o : Oper) (k : Call) : Option IOp :=
 let tys := k.argTypes.toList.map some
 match k.callee with
 | .invoke r name => c.invCall r name k
 | .value (.func f) => match c.extCall f k with
   | some io => some io
   | none => match c.opds (k.args.toList.zip (tys ++ List.replicate k.args.size none)) with
     | some xs => some (if c.pure then .callp f xs else .call f xs)
     | none => none
 | .value r => match c.opd none r, c.opds (k.args.toList.zip (tys ++ List.replicate k.args.size none)) with
   | some x, some xs => some (.callv x xs)
   | _, _ => none
 | .builtin .len => match k.args.toList, k.argTypes[0]? with
   | [r], some T => match (c.opd (some T) r).map kV, c.P.underlying T with
     | some x, some .string => some (.lenS x)
     | some x, some (.slice _) => some (.lenL x)
     | some x, some (.map _ _) => some (.lenM x)
     | _, _ => none
   | _, _ => none
 | .builtin .cap => match k.args.toList, k.argTypes[0]? with
   | [r], some T => match (c.opd (some T) r).map kV, c.P.underlying T with
     | some x, some (.slice _) => some (.pur .cap0 [x])
     | _, _ => none
   | _, _ => none
 | .builtin .clear => match k.args.toList, k.argTypes[0]? with
   | [r], some T => match (c.opd (some T) r).map kV, qe c.P T with
     | some x, some (E, _) => (Kd c.P 16 E).map fun zs => .clear zs x
     | _, _ => none
   | _, _ => none
 | .builtin .max => match c.opds (k.args.toList.zip (tys ++ List.replicate k.args.size none)) with
   | some xs => some (.minmax true xs)
   | none => none
 | .builtin .min => match c.opds (k.args.toList.zip (tys ++ List.replicate k.args.size none)) with
   | some xs => some (.minmax false xs)
   | none => none
 | .builtin .unsafeSliceData => (c.opds (k.args.toList.zip (tys ++ List.replicate k.args.size none))).map (.mem .sdat)
 | .builtin .unsafeString => match c.opds (k.args.toList.zip (tys ++ List.replicate k.args.size none)), k.argTypes[0]?.bind c.P.underlying with
   | some xs, some (.pointer e) => some (.mem (.ustr e) xs)
   | _, _ => none
 | .builtin .append => match k.args.toList, k.argTypes.toList with
   | [rx, ry], [T, U] => match c.opd (some T) rx, c.opd (some U) ry, qe c.P T with
     | some x, some y, some (E, i) => match c.P.underlying U with
       | some (.int _) => (Kd c.P 16 E).map fun zs => .mem (.extN i.size i.bytes zs) [x, y]
       | some .string => if c.bld && c.ref && i.size == 1 && i.bytes == 1 then some (.mem (.bapp E) [x, y]) else some (.append c.ref true i.size i.bytes x y)
       | _ => some (.append c.ref (match c.P.underlying U with | some .string => true | _ => false) i.size i.bytes x y)
     | _, _, _ => none
   | _, _ => none
 | _ => none
def Cx.parts (c : Cx) (place : Nat -> Option (Nat × Nat)) (ty : Nat -> Option TypeId) : List (Nat × Operand) -> Option (List (Nat × Nat × Opd))
 | [] => some []
 | p :: ps => match place p.1, c.opd (ty p.1) p.2, c.parts place ty ps with
   | some q, some x, some r => some ((q.1, q.2, x) :: r)
   | _, _, _ => none
def Cx.op (c : Cx) (o : Oper) : Option IOp :=
 let P := c.P
 match o.op with
 | .move r => (c.opd (some o.type) r).map .mv
 | .assign r => (c.opd (some o.type) r).map .mv
 | .pick a b d => match c.opd none a, c.opd (some o.type) b, c.opd (some o.type) d with
   | some a, some b, some d => some (.pick a (kV b) (kV d))
   | _, _, _ => none
 | .alloc T => if jek P T then (Kd P 16 T).map fun zs => .mem (.talloc T zs) [] else (Kd P 16 T).map .alloc
 | .box T r => (c.opd (some T) r).map (if c.ref then .box else .boxv)
 | .build T ps => match Kd P 16 T, zf P T with
   | some zs, some (_, place) =>
     (c.parts place (fun k => match P.underlying T with | some (.array _ E) => some E | some (.struct fs) => (fs[k]?).map (·.type) | _ => none) ps.toList).map (.build zs)
   | _, _ => none
 | .buildSlice T _ ps => match qe P T with
   | some (E, i) => (c.opds (ps.toList.map fun p => (p.2, some E))).map (if c.ref then .buildRs i.size else .buildSl i.size)
   | none => none
 | .load T r => (c.opd none r).map (.load c.take (jeF P T))
 | .store T rx ry => match c.opd none rx, c.opd (some T) ry, P.info? T with
   | some x, some y, some i => some (.store i.size x y)
   | _, _, _ => none
 | .nilCheck r => (c.opd none r).map .nilCheck
 | .binOp op T rx ry _ => match jbE ry, jbE rx with
   | some k, _ => (c.opd none rx).map (.isnil (op == .neq) k)
   | none, some k => (c.opd none ry).map (.isnil (op == .neq) k)
   | none, none => match KS rx ry with
     | some r => (c.opd (some T) r).map fun x => .pur (.isnilS (op == .neq)) [kV x]
     | none => match c.opd (some T) rx, c.opd (some T) ry, P.underlying T with
     | some x, some y, some .bool => some (.eqb (op == .neq) x y)
     | some x, some y, some (.int _) => some (.bin op x y)
     | some x, some y, some .string => some (.bin op x y)
     | some x, some y, some (.struct _) => (yN P 1000 T).map fun ks => .pur (.eqa (op == .neq) ks) [x, y]
     | some x, some y, some (.array _ _) => (yN P 1000 T).map fun ks => .pur (.eqa (op == .neq) ks) [x, y]
     | some x, some y, some (.pointer _) => some (.pur (.eqp (op == .neq)) [x, y])
     | some x, some y, some (.interface _) => some (.pur (.eqi (op == .neq) (c.cand.filterMap fun t => match P.info? t, P.underlying t with
       | some i, some (.int _) => if i.comparable then some (t, 0) else none
       | some i, some .string => if i.comparable then some (t, 1) else none
       | _, _ => none)) [x, y])
     | _, _, _ => none
 | .unOp op _ r => (c.opd none r).map (.un op)
 | .convert S T r => match c.opd (some S) r, P.underlying S, P.underlying T with
   | some x, some (.int _), some (.int k) => some (.conv (.int k) x)
   | some x, some .string, some .string => some (.conv .same x)
   | some x, some .string, some (.slice _) => if c.ref then some (.mem .bytesR [x]) else some (.conv .bytes x)
   | some x, some (.slice _), some .string => if c.ref then some (.mem .textR [x]) else some (.pur .text [x])
   | some x, some (.int _), some .string => some (.pur .rune [x])
   | some x, some (.pointer _), some .unsafePointer => some (.mem .uptr [x])
   | some x, some .unsafePointer, some (.pointer u) => (P.info? u).map fun i => .mem (.unp u i.size) [x]
   | _, _, _ => none
 | .makeInterface T r => (c.opd (some T) r).map (.mkIface T)
 | .makeFunc (.method n) rs qs => match rs.toList, qs.toList with
   | [r], [] => (c.opd none r).map fun x => .pur (.mkM n) [x]
   | _, _ => none
 | .makeFunc f rs qs => match c.opds (rs.toList.map fun r => (r, none)), c.opds (qs.toList.map fun r => (r, none)) with
   | some xs, some ys => some (.mkFn f xs ys)
   | _, _ => none
 | .makeMap _ _ => some .mkMap
 | .makeSlice T rx ry => match c.opd none rx, c.opd none ry, qe P T with
   | some x, some y, some (E, i) => (Kd P 16 E).map fun zs => .mkSl c.ref i.size i.bytes zs (kV x) (kV y)
   | _, _, _ => none
 | .slice T r lo hi mx => match c.opd (some T) r, lo.mapM (c.opd none), hi.mapM (c.opd none), mx.mapM (c.opd none), P.underlying T with
   | some x, some l, some h, _, some .string => some (.sliceS x (l.map kV) (h.map kV))
   | some x, some none, some none, some none, some (.array n _) => some (.pur (.slA n) [x])
   | some x, some l, some h, some m, some (.slice _) => some (.sliceL (jai P T) x (l.map kV) (h.map kV) (m.map kV))
   | _, _, _, _, _ => none
 | .fieldAddr T r k => match c.opd none r, P.underlying T with
   | some x, some (.struct fs) => (fs[k]?).map fun f => .fieldAddr f.offset x
   | _, _ => none
 | .field T r k => match c.opd none r, P.underlying T with
   | some x, some (.struct fs) => (fs[k]?).map fun f => .field f.offset (jeF P f.type) x
   | _, _ => none
 | .indexAddr T rx ry => match (c.opd (some T) rx).map kV, c.opd none ry, P.underlying T with
   | some x, some y, some (.slice _) => some (.idxAddr (jai P T) x y)
   | some x, some y, some (.array len E) => (P.info? E).map fun i => .idxAddrA len i.size x y
   | _, _, _ => none
 | .index T rx ry => match c.opd (some T) rx, c.opd none ry, P.underlying T with
   | some x, some y, some .string => some (.idxS x y)
   | some x, some y, some (.array len E) => (P.info? E).map fun i => .idxA len i.size (jeF P E) x y
   | _, _, _ => none
 | .lookup T rx ry ok => match c.opd none rx, c.opd none ry, jcJ P T with
   | some x, some y, some (kk, E) => (jgf P E).map fun z => .lookup kk z ok x y
   | _, _, _ => none
 | .mapUpdate T rx ry rz => match c.opd none rx, c.opd none ry, jcJ P T with
   | some x, some y, some (kk, E) => (c.opd (some E) rz).map (.mapSet kk x y)
   | _, _, _ => none
 | .insert T rx ry rz => match c.opd none rx, c.opd none ry, jcJ P T with
   | some x, some y, some (kk, E) => (c.opd (some E) rz).map (.mapSet kk x y)
   | _, _, _ => none
 | .typeAssert r _ A ok => match c.opd none r, P.underlying A with
   | some x, some (.interface want) => some (.pur (.tyI (c.cand.filter fun t => Km P want t true) (c.cand.filter fun t => Km P want t false) ok) [x])
   | some x, some _ => (jgf P A).map fun z => .pur (.tyC A ok z) [x]
   | _, _ => none
 | .extract r i => (c.opd none r).map fun x => .extract (if c.draw then kV x else x) i
 | .call k => c.call o k
 | .panic r => (c.opd none r).map .panic
 | .range T r => match P.underlying T with
   | some .string => (c.opd (some T) r).map fun x => .mem .iter [x]
   | _ => none
 | .next r true => (c.opd none r).map fun x => .mem .next [x]
 | _ => none
def jbU (ops : List Oper) (j : Nat) : Bool := ops.any fun o => o.dst == some j && (match o.op with | .assign _ => false | _ => true)
def jat (ops : List Oper) (i j : Nat) : Bool := (ops.drop i).any fun o => o.dst == some j
def Kf (ops : List Oper) (d : Option Nat) : Bool := match d with
 | some d => ops.any fun o => match o.op with
   | .call c => (match c.callee, c.args.toList with | .builtin .append, (.tmp t) :: _ => t == d | _, _ => false)
   | _ => false
 | none => false
def jdf (refs : Nat -> Bool) (ops : List Oper) (T : TypeId) : Bool := ops.any fun o => match o.op, o.dst with
   | .call c, some e => refs e && (match c.callee, c.argTypes[0]? with | .builtin .append, some t => t == T | _, _ => false)
   | _, _ => false
def XM (ops : List Oper) (i : Nat) (T : TypeId) : Bool := (ops.drop i).any fun o => match o.op with | .store T' _ _ => T == T' | _ => false
structure Mode where
 refs : Nat -> Bool
 cand : List TypeId
 vars : Bool
 pure : Bool
 ends : Bool
 take : Bool
 draw : Bool
 once : Bool := false
def je3 (ops : List Oper) (j : Nat) : Nat := ops.foldl (fun n o => n + (o.op.operands.toList.filter fun x => match x with | .tmp t => t == j | _ => false).length) 0
def jeE (ops : List Oper) (j : Nat) : Option String := ops.findSome? fun o => if o.dst == some j then (match o.op with
 | .makeFunc (.method n) _ _ => some n
 | _ => none) else none
def Cx.op' (c : Cx) (ops : List Oper) (o : Oper) : Option IOp := match o.op with
 | .nilCheck (.tmp j) => match jeE ops j with
   | some n => (c.opd none (.tmp j)).map fun x => .pur (.nilM (c.cand.filter fun t => Zf c.P t n) n) [kV x]
   | none => c.op o
 | _ => c.op o
def jb3 (P : Program) (md : Mode) (ops : List Oper) (i : Nat) (o : Oper) : Option IOper :=
 let c : Cx := { P := P, cand := md.cand, mv := fun j => o.guard.isNone && (!md.once || decide (je3 ops j <= 1)) && (jbU ops j || (md.vars && (md.ends || (jat ops i j || (match o.op with | .move _ => Kf ops o.dst | _ => false))))), pure := md.pure,
                 ref := (match o.dst with | some d => md.refs d | none => false), draw := md.draw, bld := ops.any (fun o => match o.op with | .fieldAddr T _ _ => jek P T | _ => false), take := md.take && (match o.op with | .load T _ => !(jdf md.refs ops T) && (XM ops i T || Kf ops o.dst) && !(jcE ((P.underlying T).getD .invalid)) | _ => false) }
 match c.op' ops o with
 | some io => some { dst := o.dst, op := io, guard := match o.guard with
     | some (j, b) => match ops[j]? with
       | some g => match g.dst with
         | some t => some (t, b)
         | none => none
       | none => none
     | none => none }
 | none => none
def je1 (P : Program) (md : Mode) (ops : List Oper) : Option (List IOper) :=
 (ops.zipIdx).mapM fun p => jb3 P md ops p.2 p.1
def jc2 (A : List (List Nat)) (l : List (Nat × IOper)) : List (Nat × Nat) :=
 l.flatMap fun p => if jy p.2.op && vW p.2.op then
   l.filterMap fun q => if jy q.2.op || (A.getD q.1 []).contains p.1 || (A.getD p.1 []).contains q.1 then none else some (p.1, q.1)
 else if J0 p.2.op then
   l.filterMap fun q => if J0 q.2.op && !(Nat.beq p.1 q.1) && !((A.getD q.1 []).contains p.1) && !((A.getD p.1 []).contains q.1) then some (p.1, q.1) else none
 else []
def jge (ops : Array Oper) : Nat -> List (Nat × IOper) -> List Nat -> List (Nat × IOper)
 | 0, _, _ => []
 | n + 1, l, done => match (match l.find? fun p => (vq p).isSome && (qu ops p.1).isEmpty with
     | some p => some p
     | none => match l.find? fun p => !(vd p.2.op) && (jy p.2.op && (qu ops p.1).all fun d => done.contains d) with
     | some p => some p
     | none => match l.find? fun p => !(vd p.2.op) && (qu ops p.1).all fun d => done.contains d with
       | some p => some p
       | none => l.find? fun p => (qu ops p.1).all fun d => done.contains d) with
   | some p => p :: jge ops n (l.filter fun q => !(Nat.beq q.1 p.1)) (p.1 :: done)
   | none => []
def jfM (ops : Array Oper) (l : List (Nat × IOper)) : List (Nat × IOper) :=
 if (l.all fun p => (qu ops p.1).all fun d => Nat.blt d p.1) && pwB (fun p q => (!(vd p.2.op) && (jy p.2.op || (jy q.2.op || (J0 p.2.op && J0 q.2.op)))) || ((jb5 ops.toList []).getD q.1 []).contains p.1) l then l else jge ops l.length l []
def Jb (P : Program) (n : Shape) (ops : Array Oper) (md : Mode) : Option ICode :=
 match je1 P md ops.toList with
 | some l =>
   let l' := jfM ops (l.zipIdx.map fun p => (p.2, p.1))
   let pairs := jc2 (jb5 ops.toList []) (Kc 0 l')
   if z5 P n ops l' pairs then some (.draw l' pairs) else none
 | none => none
def jbx (refs : Nat -> Bool) (ops : Array Oper) : Bool := ops.any fun o => match o.op with
 | .call c => (match c.callee with | .builtin .append => !(match o.dst with | some d => refs d | none => false) | _ => false)
 | _ => false
def yL (P : Program) (n : Shape) (ops : Array Oper) (md : Mode) : Option ICode :=
 match Jb P n ops { md with pure := false } with
 | some c => some c
 | none => match (if jbx md.refs ops then none else Jb P n ops { md with pure := false, take := false }) with
   | some c => some c
   | none => match (if jbx md.refs ops then none else Jb P n ops { md with pure := false, take := false, vars := false }) with
     | some c => some c
     | none => match Jb P n ops { md with pure := true } with
       | some c => some c
       | none => match Jb P n ops { md with pure := true, take := false } with
         | some c => some c
         | none => Jb P n ops { md with pure := true, take := false, vars := false }
def JZ (P : Program) (n : Shape) (ops : Array Oper) (md : Mode) : Option ICode :=
 match yL P n ops md with
 | some c => some c
 | none => yL P n ops { md with once := true }
def Xs (P : Program) (n : Shape) (ops : Array Oper) (md : Mode) : Option ICode :=
 match je1 P md ops.toList with
 | some l => if vY P ops ops.toList l && yP n.n l then some (.ops l) else none
 | none => none
def Vb : Code -> Bool
 | .ret => true
 | .seq a _ => Vb a
 | _ => false
def kX (P : Program) (n : Shape) (cand : List TypeId) (refs : Nat -> Bool) (top fin : Bool) : Code -> Option ICode
 | .skip => some .skip
 | .region _ ops false => match Xs P n ops { refs := refs, cand := cand, vars := true, pure := false, ends := fin, take := true, draw := false } with
   | some c => some c
   | none => some .stuck
 | .region _ ops true => match JZ P n ops { refs := refs, cand := cand, vars := true, pure := false, ends := fin, take := true, draw := true } with
   | some c => some c
   | none => some .stuck
 | .seq a b => match kX P n cand refs top (Vb b) a, kX P n cand refs top fin b with
   | some x, some y => some (.seq x y)
   | _, _ => none
 | .cond c a b => match (Cx.mk P [] (fun _ => false) false false false false false).opd none c, kX P n cand refs top fin a, kX P n cand refs top fin b with
   | some z, some x, some y => if jL z c then some (.cond z x y) else some .stuck
   | _, _, _ => some .stuck
 | .block id c => (kX P n cand refs top false c).map (.block id)
 | .loop c => (kX P n cand refs top false c).map .loop
 | .exit id => some (.exit id)
 | .scope c => (kX P n cand refs top fin c).map .scope
 | .label l => some (.label l)
 | .goto l => some (.goto l)
 | .ret => some .ret
 | .rangeFunc g ps a b => match (Cx.mk P [] (fun _ => false) false false false false false).opd none g, kX P n cand refs false false a, kX P n cand refs false false b with
   | some z, some x, some y => if top && (jL z g && (ps.toList.all fun p => decide (p < n.n))) then some (.rangeF z ps.toList x y) else some .stuck
   | _, _, _ => some .stuck
 | _ => some .stuck
theorem vN {P : Program} {n : Shape} {ops : Array Oper} {md : Mode} {c : ICode} (h : Jb P n ops md = some c) : ∃ l pairs, c = .draw l pairs /\ z5 P n ops l pairs = true := by
 unfold Jb at h;split at h
 . simp only at h;split at h
   . rename_i hok;simp only [zO] at h;exact ⟨_, _, h.symm, hok⟩
   . cases h
 . cases h
theorem zD {P : Program} {n : Shape} {ops : Array Oper} {md : Mode} {c : ICode} (h : yL P n ops md = some c) : ∃ l pairs, c = .draw l pairs /\ z5 P n ops l pairs = true := by
 unfold yL at h;split at h
 . rename_i h1; cases h; exact vN h1
 split at h
 . rename_i h1; cases h;split at h1
   . cases h1
   . exact vN h1
 split at h
 . rename_i h1; cases h;split at h1
   . cases h1
   . exact vN h1
 split at h
 . rename_i h1; cases h; exact vN h1
 split at h
 . rename_i h1; cases h; exact vN h1
 . exact vN h
theorem Q1 {P : Program} {n : Shape} {ops : Array Oper} {md : Mode} {c : ICode} (h : JZ P n ops md = some c) : ∃ l pairs, c = .draw l pairs /\ z5 P n ops l pairs = true := by
 unfold JZ at h;split at h
 . rename_i h1; cases h; exact zD h1
 . exact zD h
theorem yd {P : Program} {n : Shape} {top : Bool} (c : Code) : kG P n top c .stuck = true := by cases c <;> simp only [kG]
theorem Q0 {P : Program} {n : Shape} {cand : List TypeId} {refs : Nat -> Bool} : ∀ {c : Code} {top fin : Bool} {ic : ICode}, kX P n cand refs top fin c = some ic -> kG P n top c ic = true := by
 intro c
 induction c with
 | skip => intro top fin ic h; simp only [kX, zO] at h; subst h; rfl
 | region id ops d =>
   intro top fin ic h
   cases d with
   | false =>
     simp only [kX] at h;split at h
     . rename_i h0;simp only [Xs] at h0;split at h0
       . split at h0
         . rename_i hok;simp only [zO] at h0 h;subst h0; subst h;exact hok
         . cases h0
       . cases h0
     . simp only [zO] at h; subst h; exact yd _
   | true =>
     simp only [kX] at h;split at h
     . rename_i h0;obtain ⟨l, pairs, rfl, hok⟩ := Q1 h0;simp only [zO] at h;subst h;exact hok
     . simp only [zO] at h; subst h; exact yd _
 | seq a b iha ihb =>
   intro top fin ic h;simp only [kX] at h;split at h
   . rename_i h1 h2;simp only [zO] at h;subst h;simp [kG, iha h1, ihb h2]
   . cases h
 | cond z a b iha ihb =>
   intro top fin ic h;simp only [kX] at h;split at h
   . rename_i h1 h2 h3;split at h
     . rename_i h4;simp only [zO] at h;subst h;simp [kG, iha h2, ihb h3, h4]
     . simp only [zO] at h; subst h; exact yd _
   . simp only [zO] at h; subst h; exact yd _
 | block id c ih =>
   intro top fin ic h;simp only [kX, rT] at h;obtain ⟨x, h1, rfl⟩ := h;simp [kG, ih h1]
 | loop c ih =>
   intro top fin ic h;simp only [kX, rT] at h;obtain ⟨x, h1, rfl⟩ := h;simp [kG, ih h1]
 | scope c ih =>
   intro top fin ic h;simp only [kX, rT] at h;obtain ⟨x, h1, rfl⟩ := h;simp [kG, ih h1]
 | exit id => intro top fin ic h; simp only [kX, zO] at h; subst h; simp [kG]
 | label l => intro top fin ic h; simp only [kX, zO] at h; subst h; rfl
 | goto l => intro top fin ic h; simp only [kX, zO] at h; subst h; simp [kG]
 | ret => intro top fin ic h; simp only [kX, zO] at h; subst h; rfl
 | rangeFunc f ps a b iha ihb =>
   intro top fin ic h;simp only [kX] at h;split at h
   . rename_i h1 h2 h3;split at h
     . rename_i h4;simp only [zO] at h;subst h;simp only [zA] at h4;simp [kG, iha h2, ihb h3, h4.1, h4.2.1];simpa using h4.2.2
     . simp only [zO] at h; subst h; exact yd _
   . simp only [zO] at h; subst h; exact yd _
 | refuse w => intro top fin ic h; simp only [kX, zO] at h; subst h; exact yd _
def jdr (P : Program) : List ResultVar -> List RV
 | [] => []
 | .tmp t :: rs => .t t :: jdr P rs
 | .cell t T :: rs => .cell t (jeF P T) :: jdr P rs
def jeM (ops : List Oper) (j : Nat) : Bool := ops.any fun o => match o.op with
 | .assign _ => false
 | _ => o.dst == some j
def jgd (f : Nat -> Bool) (l : List Operand) (m : Nat) : Nat := l.foldl (fun m x => match x with
 | .tmp t => if f t then max m (t + 1) else m
 | _ => m) m
def Z7 (ops : List Oper) (m : Nat) : Nat := ops.foldl (fun m o =>
 let m := jgd (fun t => !(jeM ops t)) o.op.operands.toList m
 match o.op with
 | .assign _ => (match o.dst with | some d => max m (d + 1) | none => m)
 | _ => m) m
def vz : Code -> Nat -> Nat
 | .region _ ops _, m => Z7 ops.toList m
 | .seq a b, m => vz b (vz a m)
 | .cond _ a b, m => vz b (vz a m)
 | .block _ c, m => vz c m
 | .loop c, m => vz c m
 | .scope c, m => vz c m
 | .rangeFunc f _ a b, m => vz b (vz a (jgd (fun _ => true) [f] m))
 | _, m => m
def jeY (nv : Nat) (ops : List Oper) : Nat :=
 let r := ops.foldl (fun (r : Option (Nat × Nat)) o => match o.dst with
   | some d => if d < nv then r else match r with
     | some (lo, hi) => some (min lo d, max hi d)
     | none => some (d, d)
   | none => r) none
 match r with
 | some (lo, hi) => hi - lo + 1
 | none => 0
def qF (nv : Nat) : Code -> Nat -> Nat
 | .region _ ops _, m => max m (jeY nv ops.toList)
 | .seq a b, m => qF nv b (qF nv a m)
 | .cond _ a b, m => qF nv b (qF nv a m)
 | .block _ c, m => qF nv c m
 | .loop c, m => qF nv c m
 | .scope c, m => qF nv c m
 | .rangeFunc _ _ a b, m => qF nv b (qF nv a m)
 | _, m => m
def jeQ (rs : List ResultVar) (m : Nat) : Nat := rs.foldl (fun m r => match r with
 | .tmp t => max m (t + 1)
 | .cell t _ => max m (t + 1)) m
def ZA (gfn : Func) (c : Code) : Nat × Nat :=
 let nv := vz c (jeQ gfn.results.toList (gfn.params.size + gfn.nfree))
 (nv, qF nv c 1)
def Yq (ops : List Oper) : Operand -> Option FuncId
 | .func g => some g
 | .tmp j => ops.findSome? fun o => if o.dst == some j then (match o.op with
   | .makeFunc (.func g) _ _ => some g
   | _ => none) else none
 | _ => none
def jaZ : Code -> Option Nat × Code
 | .seq (.region i ops false) b => match ops.toList with
   | [o] => match o.dst with
     | some t => if JF o t then (some t, b) else (none, .seq (.region i ops false) b)
     | none => (none, .seq (.region i ops false) b)
   | _ => (none, .seq (.region i ops false) b)
 | c => (none, c)
def jdq (P : Program) (n : Shape) (cand : List TypeId) (refs : FuncId -> Nat -> Bool) (f : FuncId) (ops : Array Oper) (b : ICode) : Option ICode :=
 match ops.toList.reverse with
 | o :: pre => match o.op with
   | .defer k => match k.callee with
     | .value r => match Yq pre r with
       | some g => match P.funcs[g]? with
         | some gfn => match gfn.body with
           | some body => match ZA gfn body, jaZ body with
             | (nv, m), (slot, rest) =>
               let md : Mode := { refs := refs f, cand := cand, vars := true, pure := false, ends := false, take := true, draw := false }
               let cx : Cx := { P := P, cand := cand, mv := fun j => jbU ops.toList j, pure := false, ref := false, draw := false, take := false }
               match kX P ⟨gfn.ntmps, nv, m⟩ cand (refs g) true false rest, (pre.reverse.zipIdx).mapM (fun p => jb3 P md ops.toList p.2 p.1), cx.opd none r, cx.opds (k.args.toList.zip (k.argTypes.toList.map some ++ List.replicate k.args.size none)) with
               | some c, some l, some x, some xs =>
                 let d : DInfo := { g := g, nt := gfn.ntmps, nv := nv, m := m, dep := Nat.log2 (nv + m) + 1, slot := slot }
                 if jaa P n ops l x xs d c then some (.dfr l x xs d c b) else none
               | _, _, _, _ => none
           | none => none
         | none => none
       | none => none
     | _ => none
   | _ => none
 | [] => none
def Jc (P : Program) (n : Shape) (cand : List TypeId) (refs : FuncId -> Nat -> Bool) (f : FuncId) : Code -> Option ICode
 | .seq a b => match Jc P n cand refs f b with
   | some y => match (match a with | .region _ ops false => jdq P n cand refs f ops y | _ => none) with
     | some z => some z
     | none => match kX P n cand (refs f) true (Vb b) a with
       | some x => some (.seq x y)
       | none => none
   | none => none
 | .cond c a b => match (Cx.mk P [] (fun _ => false) false false false false false).opd none c, Jc P n cand refs f a, Jc P n cand refs f b with
   | some z, some x, some y => if jL z c then some (.cond z x y) else some .stuck
   | _, _, _ => some .stuck
 | c => kX P n cand (refs f) true false c
theorem jbk {P : Program} {n : Shape} {cand : List TypeId} {refs : FuncId -> Nat -> Bool} {f : FuncId} {ops : Array Oper} {b ic : ICode} (h : jdq P n cand refs f ops b = some ic) : ∃ l x xs d c, ic = .dfr l x xs d c b /\ jaa P n ops l x xs d c = true := by
 unfold jdq at h
 repeat' split at h
 all_goals first
   | (cases h; done)
   | skip
 simp only at h
 repeat' split at h
 all_goals first
   | (cases h; done)
   | (rename_i hok; simp only [zO] at h; exact ⟨_, _, _, _, _, h.symm, hok⟩)
theorem KB {P : Program} {n : Shape} (c : Code) : vh P n c .stuck = true := by cases c <;> simp only [vh, kG]
theorem ZT {P : Program} {n : Shape} {cand : List TypeId} {refs : FuncId -> Nat -> Bool} {f : FuncId} : ∀ {c : Code} {ic : ICode}, Jc P n cand refs f c = some ic -> vh P n c ic = true := by
 intro c
 induction c with
 | seq a b _ ihb =>
   intro ic h;simp only [Jc] at h;split at h
   . rename_i y hy;split at h
     . rename_i z hz;simp only [zO] at h;subst h;split at hz
       . obtain ⟨l, x, xs, d, c, rfl, hok⟩ := jbk hz;simp only [vh, hok, ihb hy, Bool.and_self]
       . cases hz
     . split at h
       . rename_i x hx;simp only [zO] at h;subst h;simp only [vh, Q0 hx, ihb hy, Bool.and_self]
       . cases h
   . cases h
 | cond z a b iha ihb =>
   intro ic h;simp only [Jc] at h;split at h
   . rename_i h1 h2 h3;split at h
     . rename_i h4;simp only [zO] at h;subst h;simp only [vh, iha h2, ihb h3, h4, Bool.and_self]
     . simp only [zO] at h; subst h; exact KB _
   . simp only [zO] at h; subst h; exact KB _
 | _ => intro ic h; have h' := Q0 (top := true) (fin := false) (by simpa only [Jc] using h); unfold vh; exact h'
def jb2 (P : Program) (cand : List TypeId) (refs : FuncId -> Nat -> Bool) (f : FuncId) (gfn : Func) : Option IFunc :=
 if gfn.name = "runtime.NumGoroutine" then none else
 match gfn.body with
 | some c => match ZA gfn c with
   | (nv, m) => match Jc P ⟨gfn.ntmps, nv, m⟩ cand refs f c with
     | some ic =>
       let rs := jdr P gfn.results.toList
       if JO P gfn.results.toList rs then some { nt := gfn.ntmps, nv := nv, m := m, dep := Nat.log2 (nv + m) + 1, body := ic, res := rs } else none
     | none => none
 | none => none
def trProg (P : Program) (cand : List TypeId) (refs : FuncId -> Nat -> Bool) : kg := fun f => match P.funcs[f]? with
 | some gfn => jb2 P cand refs f gfn
 | none => none
theorem ZR (P : Program) (cand : List TypeId) (refs : FuncId -> Nat -> Bool) : FOK P (trProg P cand refs) := by
 intro f fn h;unfold trProg at h;split at h
 . rename_i gfn hf;refine .inl ⟨gfn, hf, ?_⟩;unfold jb2 at h;split at h
   . cases h
   . rename_i hname;split at h
     . rename_i c hb;simp only at h;split at h
       . rename_i ic hc;split at h
         . rename_i hr;simp only [zO] at h;subst h;exact ⟨hname, ⟨c, hb, ZT hc⟩, hr, rfl⟩
         . cases h
       . cases h
     . cases h
 . cases h
def trProgL (P : Program) (cand : List TypeId) (refs : FuncId -> Nat -> Bool) (X9 : FuncId -> Option ZY) : kg := fun f => match X9 f with
 | some p => some { nt := 0, nv := 0, m := 1, dep := 1, body := .lib p, res := [] }
 | none => trProg P cand refs f
theorem X6 {P : Program} (cand : List TypeId) (refs : FuncId -> Nat -> Bool) {X9 : FuncId -> Option ZY} (hl : ∀ f p, X9 f = some p -> LibOK P f p) : FOK P (trProgL P cand refs X9) := by
 intro f fn h;unfold trProgL at h;split at h
 . rename_i p hp;simp only [zO] at h;subst h;exact .inr ⟨p, rfl, hl f p hp⟩
 . exact ZR P cand refs f fn h
theorem jdj {P : Program} (cand : List TypeId) (refs : FuncId -> Nat -> Bool) {X9 : FuncId -> Option ZY} (hl : ∀ f p, X9 f = some p -> LibOK P f p) (hmx : P.follows .mixedOrders = true) (n : Nat) : CallOK P (CR P) (yh (trProgL P cand refs X9) n) := Z4 hmx (X6 cand refs hl) n
end Go.Idl
namespace Go.Idl
variable [Globs]
open Go.RowKit (Below)
variable {P : Program} {w : World}
def topG (P : Program) (w : World) : Gh := { ι := [], M := fun b o => w.cell? ⟨b, o, none⟩, T := fun _ => none, C := CR P }
theorem Zm {l : ke} (h : ∀ p ∈ l, kl p.1 p.2 = []) : ky l = [] := by
 unfold ky;apply flatten_nil;intro x hx;obtain ⟨p, hp, rfl⟩ := List.mem_map.1 hx;exact h p hp
def GlobsAt (w : World) : Prop := ∀ k vs, Globs.vals k = some vs -> ∀ (i : Nat) c, vs[i]? = some c -> w.cell? ⟨k, i, none⟩ = some c
theorem jf0 {l : ke} (hG : GlobsAt w) (hV : ∀ p ∈ l, V (topG P w) p.1 p.2 /\ kl p.1 p.2 = []) : R (topG P w) [] l [] w := by
 have e : ky l = [] := Zm fun p hp => (hV p hp).2;refine ⟨rfl, fun p hp => (hV p hp).1, fun id b o h => (by simp [topG] at h), ?_, ?_, fun b hb => (by cases hb), fun b o v h => h, fun id b o h => (by simp [topG] at h), fun b hb => (by cases hb), fun k vs hk i c hi => by rw [tS]; exact hG k vs hk i c hi, fun b => ⟨fun hb => absurd rfl hb, fun T n ht => by simp [topG] at ht⟩⟩
 . rw [e]; simp [kY, topG]
 . rw [e]; simp [kY, topG]
theorem KF {g g' : Gh} {O' : List Nat} {w' : World} (h : Grow [] g w O' g' w') : Below w.heap.size w w' :=
 ⟨h.os, h.tape, h.output, h.size, fun k hk => (h.same k hk (by simp)).1⟩
theorem ZP {cf : kt} (hcf : CallOK P (CR P) cf) (hG : GlobsAt w) {f : FuncId} {args : List IVal} {rargs : Array Value} {out : Out} (hrun : cf (.f f) args [] = some out) (hlen : args.length = rargs.toList.length)
   (hV : ∀ p ∈ args.zip rargs.toList, V (topG P w) p.1 p.2 /\ kl p.1 p.2 = []) :
   Calls P f rargs w fun e w' => ∃ v' g', e = XF out.pan v' /\ V g' out.v v' /\ Below w.heap.size w w' := by
 refine callsIn_wide.1 ((hcf.fn f args [] out hrun).2 (topG P w) [] rargs w rfl hlen (jf0 hG hV) |>.mono ?_);rintro e w' ⟨g', O', v', rfl, hg, hR, -⟩;exact ⟨v', g', rfl, hR.vals (out.v, v') (by simp), KF hg⟩
theorem jbj {cf : kt} (hcf : CallOK P (CR P) cf) (hG : GlobsAt w) {f : FuncId} {args : List IVal} {rargs : Array Value} {σ' : List IObj} {wr' : List (Nat × Bool)} (hrun : cf (.f f) args [] = some ⟨false, .bool true, σ', wr'⟩) (hlen : args.length = rargs.toList.length)
   (hV : ∀ p ∈ args.zip rargs.toList, V (topG P w) p.1 p.2 /\ kl p.1 p.2 = []) :
   Calls P f rargs w fun e w' => e = .returned (.bool true) /\ Below w.heap.size w w' := by
 refine (ZP hcf hG hrun hlen hV).mono ?_;rintro e w' ⟨v', g', rfl, hv, hb⟩;have : v' = .bool true := by cases hv; rfl
 subst this;exact ⟨rfl, hb⟩
end Go.Idl
namespace Go.Idl
def ZX (a b : kt) : Prop := ∀ f args σ o, a f args σ = some o -> b f args σ = some o
def Z0 (a b : ICode -> St -> Option (IExit × St)) : Prop := ∀ c s r, a c s = some r -> b c s = some r
theorem ya {a b : kt} (h : ZX a b) {f : Cal} {vs : List IVal} {ts : Ts} {s : St} {r : Res} (hs : stepCall a f vs ts s = some r) : stepCall b f vs ts s = some r := by
 unfold stepCall at hs ⊢;split at hs
 . rename_i o ho;rw [h _ _ _ _ ho]; exact hs
 . cases hs
theorem yw {a b : kt} (h : ZX a b) {o : IOp} {s : St} {r : Res} (hs : ja a o s = some r) : ja b o s = some r := by
 cases o
 case call f xs =>
   simp only [ja] at hs ⊢;split at hs
   . exact ya h hs
   . cases hs
 case callp f xs =>
   simp only [ja] at hs ⊢;split at hs
   . split at hs
     . rename_i hn;rw [if_pos hn];split at hs
       . rename_i ho;rw [h _ _ _ _ ho]; exact hs
       . cases hs
     . cases hs
   . cases hs
 case callv f xs =>
   simp only [ja] at hs ⊢;split at hs
   . split at hs
     . exact ya h hs
     . cases hs
   . split at hs
     . exact ya h hs
     . cases hs
   . cases hs
 case inv tab x xs =>
   simp only [ja] at hs ⊢;split at hs
   . split at hs
     . split at hs
       . split at hs
         . exact ya h hs
         . cases hs
       . cases hs
     . cases hs
   . cases hs
 all_goals exact hs
theorem yr {a b : kt} (h : ZX a b) : ∀ {l : List IOper} {s : St} {r : IExit × St}, jm a l s = some r -> jm b l s = some r := by
 intro l
 induction l with
 | nil => intro s r hr; exact hr
 | cons o l ih =>
   intro s r hr;simp only [jm] at hr ⊢;split at hr
   . split at hr
     . rename_i hs; rw [yw h hs]; exact ih hr
     . rename_i hs; rw [yw h hs]; exact hr
     . cases hr
   . exact ih hr
   . cases hr
theorem KG {a b : ICode -> St -> Option (IExit × St)} (h : Z0 a b) {fn : IFunc} {args : List IVal} {σ : List IObj} {o : Out} (ho : jw a fn args σ = some o) : jw b fn args σ = some o := by
 unfold jw at ho ⊢;split at ho
 . exact ho
 split at ho
 . rename_i e; rw [h _ _ _ e]; exact ho
 . rename_i e; rw [h _ _ _ e]; exact ho
 . rename_i e; rw [h _ _ _ e]; exact ho
 . cases ho
theorem K6 {a b : kt} (h : ZX a b) {o : IOper} {s : St} {r : Option IVal × St × DLog} (hr : jx a o s = some r) : jx b o s = some r := by
 unfold jx at hr ⊢;split at hr
 . split at hr
   . rename_i hn;rw [if_pos hn];split at hr
     . split at hr
       . rename_i hs; rw [yw h hs]; exact hr
       . rename_i hs; rw [yw h hs]; exact hr
       . cases hr
     . cases hr
   . cases hr
 . exact hr
 . cases hr
theorem zZ {a b : kt} (h : ZX a b) : ∀ {l : List (Nat × IOper)} {s : St} {r : Option (IVal × List (Nat × Bool)) × St × List (Nat × DLog)}, jd a l s = some r -> jd b l s = some r := by
 intro l
 induction l with
 | nil => intro s r hr; exact hr
 | cons o l ih =>
   intro s r hr;simp only [jd] at hr ⊢;split at hr
   . rename_i hs;rw [K6 h hs];simp only;split at hr
     . rename_i hl; rw [ih hl]; exact hr
     . cases hr
   . rename_i hs;rw [K6 h hs];exact hr
   . cases hr
theorem QG {a b : ICode -> St -> Option (IExit × St)} (h : Z0 a b) {id : Nat} {args : List IVal} {σ : List IObj} {o : Out} (ho : vI a id args σ = some o) : vI b id args σ = some o := by
 unfold vI at ho ⊢;split at ho
 . split at ho
   . split at ho
     . rename_i e;rw [h _ _ _ e];simp only;split at ho
       . split at ho
         . split at ho
           . rename_i e2; rw [h _ _ _ e2]; exact ho
           . cases ho
         . cases ho
       . cases ho
     . cases ho
   . cases ho
 . cases ho
theorem Yj {F : kg} {n m : Nat} (h : Z0 (eval F n) (eval F m)) : ZX (yh F n) (yh F m) := by
 intro f args σ o ho
 cases f with
 | f f =>
   simp only [yh] at ho ⊢;split at ho
   . exact KG h ho
   . cases ho
 | y id => exact QG h ho
theorem Qt {a b : ICode -> St -> Option (IExit × St)} (h : Z0 a b) {d : DInfo} {c : ICode} {args : List IVal} {x : IExit} {s : St} {r : IExit × St} (hr : yf a d c args x s = some r) : yf b d c args x s = some r := by
 unfold yf at hr ⊢;split at hr
 . rename_i h1 h2;unfold Ju at hr ⊢;split at hr
   . rename_i e; rw [h _ _ _ e]; exact hr
   . cases hr
 . cases hr
def Yr (ev : ICode -> St -> Option (IExit × St)) (cf : kt) (l : List IOper) (x : Opd) (xs : List Opd) (d : DInfo) (c b : ICode) (s : St) : Option (IExit × St) :=
 match jm cf l s with
 | some (.normal, s1) => match x.get s1.ts with
   | some (.fn (.func g) us ws, ts1) => match getAll xs ts1 with
     | some (vs, ts2) => if g = d.g /\ vs.all nt = true /\ ts2.ds = [] then
         match ev b { s1 with ts := ts2 } with
         | some (x, s2) => yf ev d c (us ++ vs.map un2 ++ ws) x s2
         | none => none
       else none
     | none => none
   | _ => none
 | _ => none
theorem jal {F : kg} {n : Nat} {l : List IOper} {x : Opd} {xs : List Opd} {d : DInfo} {c b : ICode} {s : St} : eval F (n + 1) (.dfr l x xs d c b) s = Yr (eval F n) (yh F n) l x xs d c b s := rfl
theorem Yt {a b : ICode -> St -> Option (IExit × St)} {ca cb : kt} (h : Z0 a b) (hc : ZX ca cb) {l : List IOper} {x : Opd} {xs : List Opd} {d : DInfo} {c e : ICode} {s : St} {r : IExit × St} (hr : Yr a ca l x xs d c e s = some r) : Yr b cb l x xs d c e s = some r := by
 unfold Yr at hr ⊢;split at hr
 . rename_i e1;rw [yr hc e1];simp only;split at hr
   . split at hr
     . split at hr
       . rename_i hif;rw [if_pos hif];split at hr
         . rename_i e2; rw [h _ _ _ e2]; exact Qt h hr
         . cases hr
       . cases hr
     . cases hr
   . cases hr
 . cases hr
theorem YC (F : kg) : ∀ n, Z0 (eval F n) (eval F (n + 1)) := by
 intro n
 induction n with
 | zero => intro c s r h; simp [eval] at h
 | succ n ih =>
   have hcf := Yj ih;intro c s r h
   cases c with
   | stuck => simp [eval] at h
   | skip => simpa [eval] using h
   | label l => simpa [eval] using h
   | exit id => simpa [eval] using h
   | goto l => simpa [eval] using h
   | ret => simpa [eval] using h
   | ops l =>
     have h' : jm (yh F n) l s = some r := h;show jm (yh F (n + 1)) l s = some r;exact yr hcf h'
   | draw l pairs =>
     have h' : (match jd (yh F n) l s with
       | some (q, s', log) => if ji pairs log then je l q s' else none
       | none => none) = some r := h
     show (match jd (yh F (n + 1)) l s with
       | some (q, s', log) => if ji pairs log then je l q s' else none
       | none => none) = some r
     split at h'
     . rename_i e; rw [zZ hcf e]; exact h'
     . cases h'
   | seq a b =>
     rw [eval] at h ⊢;split at h
     . rename_i e; rw [ih _ _ _ e]; exact ih _ _ _ h
     . rename_i hne;have e := ih _ _ _ h;rw [e];split
       . rename_i hr; exact absurd (by rw [<- hr]; exact h) (hne _)
       . rfl
   | cond x a b =>
     rw [eval] at h ⊢;split at h
     . exact ih _ _ _ h
     . exact ih _ _ _ h
     . cases h
   | block id b =>
     rw [eval] at h ⊢;split at h
     . rename_i e; rw [ih _ _ _ e]; exact h
     . rename_i hne;have e := ih _ _ _ h;rw [e];split
       . rename_i hr; exact absurd (by rw [<- hr]; exact h) (hne _ _)
       . rfl
   | loop b =>
     rw [eval] at h ⊢;split at h
     . rename_i e; rw [ih _ _ _ e]; exact ih _ _ _ h
     . rename_i hne;have e := ih _ _ _ h;rw [e];split
       . rename_i hr; exact absurd (by rw [<- hr]; exact h) (hne _)
       . rfl
   | scope b =>
     rw [eval] at h ⊢;split at h
     . cases h
     . rename_i hne;have e := ih _ _ _ h;rw [e];split
       . rename_i hr; exact absurd (by rw [<- hr]; exact h) (hne _ _)
       . rfl
   | dfr l x xs d c b => rw [jal] at h ⊢; exact Yt ih hcf h
   | lib p => simp [eval] at h
   | rangeF x ps a b =>
     cases hx : x.get s.ts with
     | none => simp [eval, hx] at h
     | some p =>
       obtain ⟨y, t⟩ := p
       cases y with
       | fn gf us ws =>
         cases gf with
         | func g =>
           cases hF : F g with
           | none => simp [eval, hx, hF] at h
           | some fn =>
             cases hc : jw (eval F n) fn (us ++ [.yl (s.σ.length + 1)] ++ ws) (s.σ ++ [.defr, .loop ⟨0, { s.ts with t := s.ts.t.un, ds := [] }, ps, a, b, none, .none⟩]) with
             | none =>
               simp only [eval, hx, hF, hc] at h;cases h
             | some o =>
               have hc' := KG ih hc;simp only [eval, hx, hF, hc] at h;rw [eval];simp only [hx, hF, hc'];exact h
         | _ => simp [eval, hx] at h
       | _ => simp [eval, hx] at h
theorem kM (F : kg) {n m : Nat} (h : n <= m) : Z0 (eval F n) (eval F m) := by
 induction h with
 | refl => exact fun _ _ _ h => h
 | step _ ih => exact fun c s r hr => YC F _ c s r (ih c s r hr)
def Ev (F : kg) (c : ICode) (s : St) (Q : IExit -> St -> Prop) : Prop := ∃ n x s', eval F n c s = some (x, s') /\ Q x s'
variable {F : kg} {c a b : ICode} {s : St} {Q : IExit -> St -> Prop}
theorem Ev.mono {Q' : IExit -> St -> Prop} (h : Ev F c s Q) (hq : ∀ x s', Q x s' -> Q' x s') : Ev F c s Q' :=
 let ⟨n, x, s', h1, h2⟩ := h
 ⟨n, x, s', h1, hq _ _ h2⟩
theorem Ev.skip (h : Q .normal s) : Ev F .skip s Q := ⟨1, _, _, rfl, h⟩
theorem Ev.ret (h : Q .ret s) : Ev F .ret s Q := ⟨1, _, _, rfl, h⟩
theorem Ev.exit {id : Nat} (h : Q (.exit id) s) : Ev F (.exit id) s Q := ⟨1, _, _, rfl, h⟩
theorem Ev.seq (h : Ev F a s fun x s' => match x with
   | .normal => Ev F b s' Q
   | x => Q x s') : Ev F (.seq a b) s Q := by
 obtain ⟨n, x, s', h1, h2⟩ := h
 cases x with
 | normal =>
   obtain ⟨m, y, s2, h3, h4⟩ := h2;refine ⟨max n m + 1, y, s2, ?_, h4⟩;rw [eval, kM F (Nat.le_max_left n m) _ _ _ h1];exact kM F (Nat.le_max_right n m) _ _ _ h3
 | _ => exact ⟨n + 1, _, s', by rw [eval, h1], h2⟩
theorem Ev.cond {x : Opd} {v : Bool} {ts : Ts} (hx : x.get s.ts = some (.bool v, ts)) (h : Ev F (if v then a else b) s Q) : Ev F (.cond x a b) s Q := by
 obtain ⟨n, y, s', h1, h2⟩ := h;refine ⟨n + 1, y, s', ?_, h2⟩;rw [eval, hx];cases v <;> exact h1
theorem Ev.block {id : Nat} (h : Ev F c s fun x s' => match x with
   | .exit i => if i = id then Q .normal s' else Q (.exit i) s'
   | x => Q x s') : Ev F (.block id c) s Q := by
 obtain ⟨n, x, s', h1, h2⟩ := h
 cases x with
 | exit i =>
   by_cases e : i = id
   . exact ⟨n + 1, .normal, s', by rw [eval, h1]; simp [e], by simpa [e] using h2⟩
   . exact ⟨n + 1, .exit i, s', by rw [eval, h1]; simp [e], by simpa [e] using h2⟩
 | _ => exact ⟨n + 1, _, s', by rw [eval, h1], h2⟩
theorem Ev.loop {I : Nat -> St -> Prop} (hI : ∀ k s, I k s -> Ev F c s fun x s' => match x with
   | .normal => ∃ k', k' < k /\ I k' s'
   | x => Q x s') : ∀ k s, I k s -> Ev F (.loop c) s Q := by
 intro k
 induction k using Nat.strongRecOn with
 | _ k ih =>
   intro s hs;obtain ⟨n, x, s', h1, h2⟩ := hI k s hs
   cases x with
   | normal =>
     obtain ⟨k', hk, hi⟩ := h2;obtain ⟨m, y, s2, h3, h4⟩ := ih k' hk s' hi;refine ⟨max n m + 1, y, s2, ?_, h4⟩;rw [eval, kM F (Nat.le_max_left n m) _ _ _ h1];exact kM F (Nat.le_max_right n m) _ _ _ h3
   | _ => exact ⟨n + 1, _, s', by rw [eval, h1], h2⟩
end Go.Idl
namespace Go.Idl
open Classical in
noncomputable def evw (F : kg) (c : ICode) (s : St) : Option (IExit × St) :=
 if h : ∃ r n, eval F n c s = some r then some (Classical.choose h) else none
open Classical in
noncomputable def cfw (F : kg) : kt := fun f args σ =>
 if h : ∃ o n, yh F n f args σ = some o then some (Classical.choose h) else none
variable {F : kg}
theorem evw_iff {c : ICode} {s : St} {r : IExit × St} : evw F c s = some r ↔ ∃ n, eval F n c s = some r := by
 unfold evw;split
 . rename_i h;obtain ⟨n, hn⟩ := Classical.choose_spec h
   constructor
   . intro e; cases e; exact ⟨n, hn⟩
   . rintro ⟨m, hm⟩;have h1 := kM F (Nat.le_max_left n m) _ _ _ hn;have h2 := kM F (Nat.le_max_right n m) _ _ _ hm;rw [h1] at h2; exact h2
 . rename_i h
   constructor
   . intro e; cases e
   . rintro ⟨n, hn⟩; exact absurd ⟨r, n, hn⟩ h
theorem va {n m : Nat} (h : n <= m) : ZX (yh F n) (yh F m) := Yj (kM F h)
theorem cfw_iff {f : Cal} {args : List IVal} {σ : List IObj} {o : Out} : cfw F f args σ = some o ↔ ∃ n, yh F n f args σ = some o := by
 unfold cfw;split
 . rename_i h;obtain ⟨n, hn⟩ := Classical.choose_spec h
   constructor
   . intro e; cases e; exact ⟨n, hn⟩
   . rintro ⟨m, hm⟩;have h1 := va (Nat.le_max_left n m) _ _ _ _ hn;have h2 := va (Nat.le_max_right n m) _ _ _ _ hm;rw [h1] at h2; exact h2
 . rename_i h
   constructor
   . intro e; cases e
   . rintro ⟨n, hn⟩; exact absurd ⟨o, n, hn⟩ h
theorem YD (n : Nat) : Z0 (eval F n) (evw F) := fun _ _ _ h => evw_iff.2 ⟨n, h⟩
theorem jdO (n : Nat) : ZX (yh F n) (cfw F) := fun _ _ _ _ h => cfw_iff.2 ⟨n, h⟩
def evG (ev : ICode -> St -> Option (IExit × St)) (cf : kt) (c : ICode) (s : St) : Option (IExit × St) :=
 match c with
 | .stuck => none
 | .skip => some (.normal, s)
 | .label _ => some (.normal, s)
 | .exit id => some (.exit id, s)
 | .goto l => some (.goto l, s)
 | .ret => some (.ret, s)
 | .ops l => jm cf l s
 | .draw l pairs => match jd cf l s with
   | some (q, s', log) => if ji pairs log then je l q s' else none
   | none => none
 | .seq a b => match ev a s with
   | some (.normal, s') => ev b s'
   | r => r
 | .cond x a b => match x.get s.ts with
   | some (.bool true, _) => ev a s
   | some (.bool false, _) => ev b s
   | _ => none
 | .block id b => match ev b s with
   | some (.exit i, s') => if i = id then some (.normal, s') else some (.exit i, s')
   | r => r
 | .loop b => match ev b s with
   | some (.normal, s') => ev (.loop b) s'
   | r => r
 | .scope b => match ev b s with
   | some (.goto _, _) => none
   | r => r
 | .rangeF x ps a b => match x.get s.ts with
   | some (.fn (.func g) us ws, _) =>
     let k := s.σ.length
     match cf (.f g) (us ++ [.yl (k + 1)] ++ ws) (s.σ ++ [.defr, .loop ⟨0, { s.ts with t := s.ts.t.un, ds := [] }, ps, a, b, none, .none⟩]) with
     | some ⟨false, _, σ', wr'⟩ => match σ'[k + 1]? with
       | some (.loop l) => if l.st = 1 then none else
         let s' : St := { ts := { s.ts with ds := k :: s.ts.ds }, σ := σ'.set (k + 1) .dead, wr := (k + 1, false) :: (wr' ++ s.wr) }
         match l.pend with
         | none => some (.normal, s')
         | some x => if Ko x then some (x, s') else none
       | _ => none
     | _ => none
   | _ => none
 | .dfr l x xs d c b => Yr ev cf l x xs d c b s
 | .lib _ => none
theorem Qg (n : Nat) (c : ICode) (s : St) : eval F (n + 1) c s = evG (eval F n) (yh F n) c s := by
 cases c <;> rfl
theorem jdX {a b : ICode -> St -> Option (IExit × St)} {ca cb : kt} (h : Z0 a b) (hc : ZX ca cb) {c : ICode} {s : St} {r : IExit × St} (hr : evG a ca c s = some r) : evG b cb c s = some r := by
 cases c with
 | ops l => exact yr hc hr
 | draw l pairs =>
   simp only [evG] at hr ⊢;split at hr
   . rename_i e; rw [zZ hc e]; exact hr
   . cases hr
 | seq x y =>
   simp only [evG] at hr ⊢;split at hr
   . rename_i e; rw [h _ _ _ e]; exact h _ _ _ hr
   . rename_i hne;rw [h _ _ _ hr];split
     . rename_i e; exact absurd (by rw [<- e]; exact hr) (hne _)
     . rfl
 | cond x y z =>
   simp only [evG] at hr ⊢;split at hr
   . exact h _ _ _ hr
   . exact h _ _ _ hr
   . cases hr
 | block id y =>
   simp only [evG] at hr ⊢;split at hr
   . rename_i e; rw [h _ _ _ e]; exact hr
   . rename_i hne;rw [h _ _ _ hr];split
     . rename_i e; exact absurd (by rw [<- e]; exact hr) (hne _ _)
     . rfl
 | loop y =>
   simp only [evG] at hr ⊢;split at hr
   . rename_i e; rw [h _ _ _ e]; exact h _ _ _ hr
   . rename_i hne;rw [h _ _ _ hr];split
     . rename_i e; exact absurd (by rw [<- e]; exact hr) (hne _)
     . rfl
 | scope y =>
   simp only [evG] at hr ⊢;split at hr
   . cases hr
   . rename_i hne;rw [h _ _ _ hr];split
     . rename_i e; exact absurd (by rw [<- e]; exact hr) (hne _ _)
     . rfl
 | rangeF x ps y z =>
   simp only [evG] at hr ⊢;split at hr
   . split at hr
     . rename_i e; rw [hc _ _ _ _ e]; exact hr
     . cases hr
   . cases hr
 | dfr l x xs d c b => exact Yt h hc hr
 | _ => exact hr
theorem yb {o : IOp} {s : St} {r : Res} (h : ja (cfw F) o s = some r) : ∃ n, ja (yh F n) o s = some r := by
 have hcall : ∀ {f vs ts} , stepCall (cfw F) f vs ts s = some r -> ∃ n, stepCall (yh F n) f vs ts s = some r := by
   intro f vs ts h;unfold stepCall at h;split at h
   . rename_i o ho;obtain ⟨n, hn⟩ := cfw_iff.1 ho;exact ⟨n, by unfold stepCall; rw [hn]; exact h⟩
   . cases h
 cases o
 case call f xs =>
   simp only [ja] at h ⊢;split at h
   . exact hcall h
   . cases h
 case callp f xs =>
   simp only [ja] at h ⊢;split at h
   . split at h
     . rename_i hn;split at h
       . rename_i ho;obtain ⟨n, hn'⟩ := cfw_iff.1 ho;exact ⟨n, by rw [if_pos hn, hn']; exact h⟩
       . cases h
     . cases h
   . cases h
 case callv f xs =>
   simp only [ja] at h ⊢;split at h
   . split at h
     . exact hcall h
     . cases h
   . split at h
     . exact hcall h
     . cases h
   . cases h
 case inv tab x xs =>
   simp only [ja] at h ⊢;split at h
   . split at h
     . split at h
       . split at h
         . exact hcall h
         . cases h
       . cases h
     . cases h
   . cases h
 all_goals exact ⟨0, h⟩
theorem JR : ∀ {l : List IOper} {s : St} {r : IExit × St}, jm (cfw F) l s = some r -> ∃ n, jm (yh F n) l s = some r := by
 intro l
 induction l with
 | nil => intro s r h; exact ⟨0, h⟩
 | cons o l ih =>
   intro s r h;simp only [jm] at h ⊢;split at h
   . split at h
     . rename_i hs;obtain ⟨n, hn⟩ := yb hs;obtain ⟨m, hm⟩ := ih h;refine ⟨max n m, ?_⟩;rw [yw (va (Nat.le_max_left n m)) hn];exact yr (va (Nat.le_max_right n m)) hm
     . rename_i hs;obtain ⟨n, hn⟩ := yb hs;exact ⟨n, by rw [hn]; exact h⟩
     . cases h
   . exact ih h
   . cases h
theorem Kz {o : IOper} {s : St} {r : Option IVal × St × DLog} (h : jx (cfw F) o s = some r) : ∃ n, jx (yh F n) o s = some r := by
 unfold jx at h;split at h
 . rename_i hw;split at h
   . rename_i hno;split at h
     . rename_i hg;split at h
       . rename_i hs;obtain ⟨n, hn⟩ := yb hs;refine ⟨n, ?_⟩;unfold jx;rw [hw];simp only;rw [if_pos hno, hg];simp only;rw [hn];exact h
       . rename_i hs;obtain ⟨n, hn⟩ := yb hs;refine ⟨n, ?_⟩;unfold jx;rw [hw];simp only;rw [if_pos hno, hg];simp only;rw [hn];exact h
       . cases h
     . cases h
   . cases h
 . rename_i hw; exact ⟨0, by unfold jx; rw [hw]; exact h⟩
 . cases h
theorem QH : ∀ {l : List (Nat × IOper)} {s : St} {r : Option (IVal × List (Nat × Bool)) × St × List (Nat × DLog)}, jd (cfw F) l s = some r -> ∃ n, jd (yh F n) l s = some r := by
 intro l
 induction l with
 | nil => intro s r h; exact ⟨0, h⟩
 | cons o l ih =>
   intro s r h;simp only [jd] at h ⊢;split at h
   . rename_i hs;obtain ⟨n, hn⟩ := Kz hs;split at h
     . rename_i hl;obtain ⟨m, hm⟩ := ih hl;refine ⟨max n m, ?_⟩;rw [K6 (va (Nat.le_max_left n m)) hn];simp only;rw [zZ (va (Nat.le_max_right n m)) hm];exact h
     . cases h
   . rename_i hs;obtain ⟨n, hn⟩ := Kz hs;exact ⟨n, by rw [hn]; exact h⟩
   . cases h
theorem Xw {fn : IFunc} {args : List IVal} {σ : List IObj} {o : Out} (h : jw (evw F) fn args σ = some o) : ∃ n, jw (eval F n) fn args σ = some o := by
 unfold jw at h ⊢;split at h
 . exact ⟨0, h⟩
 split at h
 . rename_i e; obtain ⟨n, hn⟩ := evw_iff.1 e; exact ⟨n, by rw [hn]; exact h⟩
 . rename_i e; obtain ⟨n, hn⟩ := evw_iff.1 e; exact ⟨n, by rw [hn]; exact h⟩
 . rename_i e; obtain ⟨n, hn⟩ := evw_iff.1 e; exact ⟨n, by rw [hn]; exact h⟩
 . cases h
theorem VC {id : Nat} {args : List IVal} {σ : List IObj} {o : Out} (h : vI (evw F) id args σ = some o) : ∃ n, vI (eval F n) id args σ = some o := by
 unfold vI at h ⊢;split at h
 . split at h
   . split at h
     . rename_i e;obtain ⟨n, hn⟩ := evw_iff.1 e;split at h
       . rename_i hl;split at h
         . rename_i hst;split at h
           . rename_i e2;obtain ⟨m, hm⟩ := evw_iff.1 e2;refine ⟨max n m, ?_⟩;rw [kM F (Nat.le_max_left n m) _ _ _ hn];simp only [hl, hst];rw [kM F (Nat.le_max_right n m) _ _ _ hm];exact h
           . cases h
         . cases h
       . cases h
     . cases h
   . cases h
 . cases h
theorem Vl {d : DInfo} {c : ICode} {args : List IVal} {x : IExit} {s : St} {r : IExit × St} (h : yf (evw F) d c args x s = some r) : ∃ n, yf (eval F n) d c args x s = some r := by
 unfold yf at h ⊢;split at h
 . rename_i h1 h2;unfold Ju at h ⊢;split at h
   . rename_i e; obtain ⟨n, hn⟩ := evw_iff.1 e; exact ⟨n, by simp only [hn]; exact h⟩
   . cases h
 . cases h
theorem Ys {l : List IOper} {x : Opd} {xs : List Opd} {d : DInfo} {c b : ICode} {s : St} {r : IExit × St} (h : Yr (evw F) (cfw F) l x xs d c b s = some r) : ∃ n, Yr (eval F n) (yh F n) l x xs d c b s = some r := by
 unfold Yr at h;split at h
 . rename_i e1;split at h
   . rename_i e2;split at h
     . rename_i e3;split at h
       . rename_i hif;split at h
         . rename_i e4;obtain ⟨n1, h1⟩ := JR e1;obtain ⟨n2, h2⟩ := evw_iff.1 e4;obtain ⟨n3, h3⟩ := Vl h;refine ⟨max n1 (max n2 n3), ?_⟩;unfold Yr;rw [yr (va (Nat.le_max_left _ _)) h1];simp only [e2, e3];rw [if_pos hif, kM F (Nat.le_trans (Nat.le_max_left n2 n3) (Nat.le_max_right _ _)) _ _ _ h2];exact Qt (kM F (Nat.le_trans (Nat.le_max_right n2 n3) (Nat.le_max_right _ _))) h3
         . cases h
       . cases h
     . cases h
   . cases h
 . cases h
theorem jaj {c : ICode} {s : St} {r : IExit × St} (h : evG (evw F) (cfw F) c s = some r) : ∃ n, evG (eval F n) (yh F n) c s = some r := by
 cases c with
 | ops l => exact JR h
 | draw l pairs =>
   simp only [evG] at h ⊢;split at h
   . rename_i e; obtain ⟨n, hn⟩ := QH e; exact ⟨n, by rw [hn]; exact h⟩
   . cases h
 | seq x y =>
   simp only [evG] at h ⊢;split at h
   . rename_i e;obtain ⟨n, hn⟩ := evw_iff.1 e;obtain ⟨m, hm⟩ := evw_iff.1 h;exact ⟨max n m, by rw [kM F (Nat.le_max_left n m) _ _ _ hn]; exact kM F (Nat.le_max_right n m) _ _ _ hm⟩
   . rename_i hne;obtain ⟨n, hn⟩ := evw_iff.1 h;refine ⟨n, ?_⟩;rw [hn];split
     . rename_i e; exact absurd (by rw [<- e]; exact h) (hne _)
     . rfl
 | cond x y z =>
   simp only [evG] at h ⊢;split at h
   . exact evw_iff.1 h
   . exact evw_iff.1 h
   . cases h
 | block id y =>
   simp only [evG] at h ⊢;split at h
   . rename_i e; obtain ⟨n, hn⟩ := evw_iff.1 e; exact ⟨n, by rw [hn]; exact h⟩
   . rename_i hne;obtain ⟨n, hn⟩ := evw_iff.1 h;refine ⟨n, ?_⟩;rw [hn];split
     . rename_i e; exact absurd (by rw [<- e]; exact h) (hne _ _)
     . rfl
 | loop y =>
   simp only [evG] at h ⊢;split at h
   . rename_i e;obtain ⟨n, hn⟩ := evw_iff.1 e;obtain ⟨m, hm⟩ := evw_iff.1 h;exact ⟨max n m, by rw [kM F (Nat.le_max_left n m) _ _ _ hn]; exact kM F (Nat.le_max_right n m) _ _ _ hm⟩
   . rename_i hne;obtain ⟨n, hn⟩ := evw_iff.1 h;refine ⟨n, ?_⟩;rw [hn];split
     . rename_i e; exact absurd (by rw [<- e]; exact h) (hne _)
     . rfl
 | scope y =>
   simp only [evG] at h ⊢;split at h
   . cases h
   . rename_i hne;obtain ⟨n, hn⟩ := evw_iff.1 h;refine ⟨n, ?_⟩;rw [hn];split
     . rename_i e; exact absurd (by rw [<- e]; exact h) (hne _ _)
     . rfl
 | dfr l x xs d c b => exact Ys h
 | rangeF x ps y z =>
   simp only [evG] at h ⊢;split at h
   . split at h
     . rename_i e; obtain ⟨n, hn⟩ := cfw_iff.1 e; exact ⟨n, by rw [hn]; exact h⟩
     . cases h
   . cases h
 | _ => exact ⟨0, h⟩
theorem Vx {α : Type} {a b : Option α} (h : ∀ r, a = some r ↔ b = some r) : a = b := by
 cases a with
 | none => cases b with
   | none => rfl
   | some y => exact ((h y).2 rfl)
 | some x => exact ((h x).1 rfl).symm
theorem vD (F : kg) (c : ICode) (s : St) : evw F c s = evG (evw F) (cfw F) c s := by
 refine Vx fun r => ?_
 constructor
 . intro h;obtain ⟨n, hn⟩ := evw_iff.1 h
   cases n with
   | zero => simp [eval] at hn
   | succ n => rw [Qg] at hn; exact jdX (YD n) (jdO n) hn
 . intro h;obtain ⟨n, hn⟩ := jaj h;exact evw_iff.2 ⟨n + 1, by rw [Qg]; exact hn⟩
theorem jfq (F : kg) (f : FuncId) (args : List IVal) (σ : List IObj) : cfw F (.f f) args σ = match F f with
   | some fn => jw (evw F) fn args σ
   | none => none := by
 refine Vx fun r => ?_;rw [cfw_iff]
 constructor
 . rintro ⟨n, hn⟩;simp only [yh] at hn;split at hn
   . rename_i e; rw [e]; exact KG (YD n) hn
   . cases hn
 . intro h;split at h
   . rename_i e;obtain ⟨n, hn⟩ := Xw h;exact ⟨n, by simp only [yh, e]; exact hn⟩
   . cases h
theorem jfr (F : kg) (id : Nat) (args : List IVal) (σ : List IObj) : cfw F (.y id) args σ = vI (evw F) id args σ := by
 refine Vx fun r => ?_;rw [cfw_iff]
 constructor
 . rintro ⟨n, hn⟩; exact QG (YD n) hn
 . intro h; obtain ⟨n, hn⟩ := VC h; exact ⟨n, hn⟩
end Go.Idl
namespace Go.Idl.En
open Go.Idl
def Tm.ofF : Nat -> (Nat -> Option (Nat × IVal)) -> Tm
 | 0, _ => .leaf
 | n + 1, f => .node (Tm.ofF n fun k => f (2 * k + 1)) (f 0) (Tm.ofF n fun k => f (2 * k + 2))
def upd (f : Nat -> Option (Nat × IVal)) (k : Nat) (x : Option (Nat × IVal)) : Nat -> Option (Nat × IVal) := fun i => if i = k then x else f i
theorem Tm.ofF_get : ∀ (d k : Nat) (f : Nat -> Option (Nat × IVal)), k + 1 < 2 ^ d -> (Tm.ofF d f).get k = f k := by
 intro d
 induction d with
 | zero => intro k f h; simp at h
 | succ d ih =>
   intro k f h;simp only [Tm.ofF, Tm.get, Nat.beq_eq, cond_eq_ite];rw [Nat.pow_succ] at h;split
   . rename_i h1; subst h1; rfl
   . rename_i h1;split
     . rename_i h2;rw [ih _ _ (by omega)]; congr 1; omega
     . rename_i h2;rw [ih _ _ (by omega)]; congr 1; omega
theorem Tm.ofF_set : ∀ (d k : Nat) (f : Nat -> Option (Nat × IVal)) (x : Option (Nat × IVal)), (Tm.ofF d f).set x k = Tm.ofF d (upd f k x) := by
 intro d
 induction d with
 | zero => intro k f x; rfl
 | succ d ih =>
   intro k f x;simp only [Tm.ofF, Tm.set, cond_eq_ite];split
   . rename_i h1; simp at h1; subst h1;have e1 : (fun i => upd f 0 x (2 * i + 1)) = fun i => f (2 * i + 1) := by funext i; unfold upd; rw [if_neg (by omega)]
     have e2 : (fun i => upd f 0 x (2 * i + 2)) = fun i => f (2 * i + 2) := by funext i; unfold upd; rw [if_neg (by omega)]
     rw [e1, e2]; rfl
   . rename_i h1;simp at h1;split
     . rename_i h2; simp at h2;rw [ih]
       congr 1
       . congr 1; funext i; unfold upd
         have : (i = k / 2) ↔ (2 * i + 1 = k) := by omega
         simp [this]
       . unfold upd; rw [if_neg (by omega)]
       . congr 1; funext i; unfold upd; rw [if_neg (by omega)]
     . rename_i h2; simp at h2;rw [ih]
       congr 1
       . congr 1; funext i; unfold upd; rw [if_neg (by omega)]
       . unfold upd; rw [if_neg (by omega)]
       . congr 1; funext i; unfold upd
         have : (i = k / 2 - 1) ↔ (2 * i + 2 = k) := by omega
         simp [this]
theorem Tm.empty_ofF : ∀ d, Tm.empty d = Tm.ofF d fun _ => none := by
 intro d
 induction d with
 | zero => rfl
 | succ d ih => simp only [Tm.empty, Tm.ofF, ih]
theorem Tm.un_ofF : ∀ (d : Nat) (f : Nat -> Option (Nat × IVal)), (Tm.ofF d f).un = Tm.ofF d fun k => match f k with | some (i, v) => some (i, un3 v) | none => none := by
 intro d
 induction d with
 | zero => intro f; rfl
 | succ d ih => intro f; simp only [Tm.ofF, Tm.un, ih]; rfl
def E (nv m d : Nat) (ds : List Nat) (f : Nat -> Option (Nat × IVal)) : Ts := ⟨nv, m, Tm.ofF d f, ds⟩
def jB (nv m j : Nat) : Nat := if j < nv then j else nv + (j - nv) % m
theorem jbq (nv m d : Nat) (ds : List Nat) (f : Nat -> Option (Nat × IVal)) (j : Nat) : (E nv m d ds f).slot j = jB nv m j := by
 unfold Ts.slot jB E;simp only [cond_eq_ite];have : (Nat.blt j nv = true) ↔ j < nv := by simp [Nat.blt, Nat.ble_eq, Nat.succ_le_iff]
 simp only [this]
def tag (j : Nat) : Option (Nat × IVal) -> Option IVal
 | some (i, v) => if i = j then some v else none
 | none => none
theorem E_get? {nv m d : Nat} {ds : List Nat} {f : Nat -> Option (Nat × IVal)} {j : Nat} (h : jB nv m j + 1 < 2 ^ d) : (E nv m d ds f).get? j = tag j (f (jB nv m j)) := by
 unfold Ts.get?;rw [jbq];simp only [E, Tm.ofF_get _ _ _ h]
 cases f (jB nv m j) with
 | none => rfl
 | some p =>
   obtain ⟨i, v⟩ := p;simp only [tag, cond_eq_ite, Nat.beq_eq]
def ins (f : Nat -> Option (Nat × IVal)) (k : Nat) (x : Option (Nat × IVal)) : Nat -> Option (Nat × IVal) := upd f k x
def base (f : Nat -> Option (Nat × IVal)) : Nat -> Option (Nat × IVal) := f
theorem E_set (nv m d : Nat) (ds : List Nat) (f : Nat -> Option (Nat × IVal)) (j : Nat) (v : IVal) : (E nv m d ds f).set j v = E nv m d ds (ins f (jB nv m j) (some (j, v))) := by
 unfold Ts.set;rw [jbq];simp only [E, Tm.ofF_set, ins]
theorem ins_base (f : Nat -> Option (Nat × IVal)) (k : Nat) (x : Option (Nat × IVal)) : ins (base f) k x = upd (base f) k x := rfl
theorem ins_eq (f : Nat -> Option (Nat × IVal)) (k : Nat) (x y : Option (Nat × IVal)) : ins (upd f k x) k y = upd f k y := by
 funext i; unfold ins upd; split <;> rfl
theorem ins_gt {f : Nat -> Option (Nat × IVal)} {k k' : Nat} {x y : Option (Nat × IVal)} (h : k < k') : ins (upd f k x) k' y = upd (upd f k x) k' y := rfl
theorem ins_lt {f : Nat -> Option (Nat × IVal)} {k k' : Nat} {x y : Option (Nat × IVal)} (h : k' < k) : ins (upd f k x) k' y = upd (ins f k' y) k x := by
 funext i; unfold ins upd
 by_cases h1 : i = k'
 . subst h1; rw [if_pos rfl, if_neg (by omega), if_pos rfl]
 . rw [if_neg h1, if_neg h1]
theorem upd_get (f : Nat -> Option (Nat × IVal)) (k : Nat) (x : Option (Nat × IVal)) (i : Nat) : upd f k x i = if i = k then x else f i := rfl
variable (F : kg)
theorem evw_skip (s : St) : evw F .skip s = some (.normal, s) := vD F _ s
theorem evw_label (l : Nat) (s : St) : evw F (.label l) s = some (.normal, s) := vD F _ s
theorem evw_exit (i : Nat) (s : St) : evw F (.exit i) s = some (.exit i, s) := vD F _ s
theorem evw_ret (s : St) : evw F .ret s = some (.ret, s) := vD F _ s
theorem evw_ops (l : List IOper) (s : St) : evw F (.ops l) s = jm (cfw F) l s := vD F _ s
theorem evw_seq (a b : ICode) (s : St) : evw F (.seq a b) s = match evw F a s with
   | some (.normal, s') => evw F b s'
   | r => r := vD F _ s
theorem evw_block (i : Nat) (b : ICode) (s : St) : evw F (.block i b) s = match evw F b s with
   | some (.exit j, s') => if j = i then some (.normal, s') else some (.exit j, s')
   | r => r := vD F _ s
theorem jT (b : ICode) (s : St) : evw F (.loop b) s = match evw F b s with
   | some (.normal, s') => evw F (.loop b) s'
   | r => r := vD F _ s
theorem evw_scope (b : ICode) (s : St) : evw F (.scope b) s = match evw F b s with
   | some (.goto _, _) => none
   | r => r := vD F _ s
theorem evw_cond (x : Opd) (a b : ICode) (s : St) : evw F (.cond x a b) s = match x.get s.ts with
   | some (.bool true, _) => evw F a s
   | some (.bool false, _) => evw F b s
   | _ => none := vD F _ s
theorem evw_draw (l : List (Nat × IOper)) (ps : List (Nat × Nat)) (s : St) : evw F (.draw l ps) s = match jd (cfw F) l s with
   | some (q, s', log) => if ji ps log then je l q s' else none
   | none => none := vD F _ s
theorem un1_int (k : IntKind) (n : Int) : un1 (.int k n) = .int k n := rfl
theorem un1_bool (b : Bool) : un1 (.bool b) = .bool b := rfl
theorem un1_str (s : List UInt8) : un1 (.str s) = .str s := rfl
theorem un1_rs (a b c d : Nat) : un1 (.rs a b c d) = .rs a b c d := rfl
theorem un1_ptr (a b : Nat) : un1 (.ptr a b) = .ptr a b := rfl
theorem un1_sl (a : Nat) (r : Bool) (xs : List IVal) : un1 (.sl a r xs) = .sl 0 r xs := rfl
theorem un2_int (k : IntKind) (n : Int) : un2 (.int k n) = .int k n := rfl
theorem un2_bool (b : Bool) : un2 (.bool b) = .bool b := rfl
theorem un2_str (s : List UInt8) : un2 (.str s) = .str s := rfl
theorem un2_rs (a b c d : Nat) : un2 (.rs a b c d) = .rs a b c d := rfl
theorem un2_ptr (a b : Nat) : un2 (.ptr a b) = .ptr a b := rfl
theorem un2_sl (a : Nat) (r : Bool) (xs : List IVal) : un2 (.sl a r xs) = .sl 0 r xs := rfl
theorem un3_int (k : IntKind) (n : Int) : un3 (.int k n) = .int k n := rfl
theorem un3_bool (b : Bool) : un3 (.bool b) = .bool b := rfl
theorem un3_str (s : List UInt8) : un3 (.str s) = .str s := rfl
theorem un3_rs (a b c d : Nat) : un3 (.rs a b c d) = .rs a b c d := rfl
theorem un3_ptr (a b : Nat) : un3 (.ptr a b) = .ptr a b := rfl
theorem un3_map (a : Nat) : un3 (.map a) = .map a := rfl
theorem un3_yl (a : Nat) : un3 (.yl a) = .yl a := rfl
theorem un3_iface (t : TypeId) (v : IVal) : un3 (.iface t v) = .iface t v := rfl
theorem un3_prim (v : Value) : un3 (.prim v) = .prim v := rfl
theorem un3_fn (f : Fn) (xs ys : List IVal) : un3 (.fn f xs ys) = .fn f xs ys := rfl
theorem un3_sl (a : Nat) (r : Bool) (xs : List IVal) : un3 (.sl a r xs) = .sl 0 r xs := rfl
theorem un3_pv (r : Bool) (cs : List IVal) (o : Nat) : un3 (.pv r cs o) = .pv r cs o := rfl
theorem un3_agg (xs : List IVal) : un3 (.agg xs) = .agg (xs.map un1) := rfl
theorem un3_tup (xs : List IVal) : un3 (.tup xs) = .tup (xs.map un2) := rfl
theorem cfw_of (fn : IFunc) {f : FuncId} {F : kg} {args : List IVal} {σ : List IObj} (h : F f = some fn) : cfw F (.f f) args σ = jw (evw F) fn args σ := by rw [jfq, h]
theorem entry_E (nv m d : Nat) : Ts.mk nv m (Tm.empty d) [] = E nv m d [] (base fun _ => none) := by rw [Tm.empty_ofF]; rfl
theorem bft : (false == true) = false := rfl
theorem btf : (true == false) = false := rfl
theorem c0 : ((0 : Nat) : Int) = 0 := rfl
theorem c1 : ((1 : Nat) : Int) = 1 := rfl
theorem E_ds (nv m d : Nat) (ds : List Nat) (f : Nat -> Option (Nat × IVal)) : (E nv m d ds f).ds = ds := rfl
theorem nt_int (k : IntKind) (n : Int) : nt (.int k n) = (true) := rfl
theorem nt_bool (b : Bool) : nt (.bool b) = (true) := rfl
theorem nt_str (s : List UInt8) : nt (.str s) = (true) := rfl
theorem nt_rs (a b c d : Nat) : nt (.rs a b c d) = (true) := rfl
theorem nt_ptr (a b : Nat) : nt (.ptr a b) = (true) := rfl
theorem nt_sl (a : Nat) (b : Bool) (xs : List IVal) : nt (.sl a b xs) = (true) := rfl
theorem nt_agg (xs : List IVal) : nt (.agg xs) = (true) := rfl
theorem nr3_int (k : IntKind) (n : Int) : nr3 (.int k n) = (true) := rfl
theorem nr3_bool (b : Bool) : nr3 (.bool b) = (true) := rfl
theorem nr3_str (s : List UInt8) : nr3 (.str s) = (true) := rfl
theorem nr3_rs (a b c d : Nat) : nr3 (.rs a b c d) = (false) := rfl
theorem nr3_ptr (a b : Nat) : nr3 (.ptr a b) = (false) := rfl
theorem nr3_sl (a : Nat) (b : Bool) (xs : List IVal) : nr3 (.sl a b xs) = (!b || xs.isEmpty) := rfl
theorem nr3_tup (xs : List IVal) : nr3 (.tup xs) = (xs.all nr2) := rfl
theorem nr3_agg (xs : List IVal) : nr3 (.agg xs) = (xs.all nr1) := rfl
theorem nr2_int (k : IntKind) (n : Int) : nr2 (.int k n) = (true) := rfl
theorem nr2_bool (b : Bool) : nr2 (.bool b) = (true) := rfl
theorem nr2_str (s : List UInt8) : nr2 (.str s) = (true) := rfl
theorem nr2_rs (a b c d : Nat) : nr2 (.rs a b c d) = (false) := rfl
theorem nr2_ptr (a b : Nat) : nr2 (.ptr a b) = (false) := rfl
theorem nr2_sl (a : Nat) (b : Bool) (xs : List IVal) : nr2 (.sl a b xs) = (!b || xs.isEmpty) := rfl
theorem cells_int (k : IntKind) (n : Int) : IVal.cells (.int k n) = [.int k n] := rfl
theorem isCell_int (k : IntKind) (n : Int) : IVal.isCell (.int k n) = true := rfl
theorem nr1_int (k : IntKind) (n : Int) : nr1 (.int k n) = true := rfl
theorem cells_bool (b : Bool) : IVal.cells (.bool b) = [.bool b] := rfl
theorem isCell_bool (b : Bool) : IVal.isCell (.bool b) = true := rfl
theorem nr1_bool (b : Bool) : nr1 (.bool b) = true := rfl
theorem cells_str (s : List UInt8) : IVal.cells (.str s) = [.str s] := rfl
theorem isCell_str (s : List UInt8) : IVal.isCell (.str s) = true := rfl
theorem nr1_str (s : List UInt8) : nr1 (.str s) = true := rfl
theorem cells_rs (a b c d : Nat) : IVal.cells (.rs a b c d) = [.rs a b c d] := rfl
theorem isCell_rs (a b c d : Nat) : IVal.isCell (.rs a b c d) = true := rfl
theorem nr1_rs (a b c d : Nat) : nr1 (.rs a b c d) = false := rfl
theorem cells_ptr (a b : Nat) : IVal.cells (.ptr a b) = [.ptr a b] := rfl
theorem isCell_ptr (a b : Nat) : IVal.isCell (.ptr a b) = true := rfl
theorem nr1_ptr (a b : Nat) : nr1 (.ptr a b) = false := rfl
theorem cells_sl (a : Nat) (b : Bool) (xs : List IVal) : IVal.cells (.sl a b xs) = [.sl a b xs] := rfl
theorem isCell_sl (a : Nat) (b : Bool) (xs : List IVal) : IVal.isCell (.sl a b xs) = true := rfl
theorem nr1_sl (a : Nat) (b : Bool) (xs : List IVal) : nr1 (.sl a b xs) = (!b || xs.isEmpty) := rfl
theorem base_get (f : Nat -> Option (Nat × IVal)) (i : Nat) : base f i = f i := rfl
def KeepT (l : List Nat) (f f' : Nat -> Option (Nat × IVal)) : Prop := ∀ i ∈ l, f' i = f i
theorem KeepT.refl (l : List Nat) (f : Nat -> Option (Nat × IVal)) : KeepT l f f := fun _ _ => rfl
theorem KeepT.upd {l : List Nat} {f f' : Nat -> Option (Nat × IVal)} {k : Nat} {x : Option (Nat × IVal)} (hk : k ∉ l) (h : KeepT l f f') : KeepT l f (Go.Idl.En.upd f' k x) := by
 intro i hi;unfold Go.Idl.En.upd;have hne : i ≠ k := fun e => hk (by rw [<- e]; exact hi);rw [if_neg hne];exact h i hi
theorem KeepT.base {l : List Nat} {f f' : Nat -> Option (Nat × IVal)} (h : KeepT l f f') : KeepT l f (Go.Idl.En.base f') := h
theorem KeepT.trans {l : List Nat} {f g h : Nat -> Option (Nat × IVal)} (a : KeepT l f g) (b : KeepT l g h) : KeepT l f h := fun i hi => (b i hi).trans (a i hi)
theorem KeepT.sub {l l' : List Nat} {f g : Nat -> Option (Nat × IVal)} (a : KeepT l f g) (h : (l'.all fun i => l.contains i) = true) : KeepT l' f g := fun i hi => a i (by
 have := List.all_eq_true.1 h i hi;simpa using this)
def AllW (id : Nat) (wr : List (Nat × Bool)) : Prop := ∀ p ∈ wr, p = (id, false)
theorem AllW.nil (id : Nat) : AllW id [] := fun _ h => by cases h
theorem AllW.cons {id : Nat} {wr : List (Nat × Bool)} (h : AllW id wr) : AllW id ((id, false) :: wr) := fun p hp => by
 rcases List.mem_cons.1 hp with rfl | hp
 . rfl
 . exact h p hp
theorem AllW.append {id : Nat} {a b : List (Nat × Bool)} (h : AllW id a) (h2 : AllW id b) : AllW id (a ++ b) := fun p hp => by
 rcases List.mem_append.1 hp with hp | hp
 . exact h p hp
 . exact h2 p hp
theorem AllW.all {id n : Nat} {wr : List (Nat × Bool)} (h : AllW id wr) : (wr.all fun p => !p.2 || decide (n <= p.1)) = true := List.all_eq_true.2 fun p hp => by rw [h p hp]; rfl
theorem AllW.filter {id : Nat} {wr : List (Nat × Bool)} (h : AllW id wr) : wr.filter (fun p => decide (p.1 < id)) = [] := List.filter_eq_nil_iff.2 fun p hp => by rw [h p hp]; simp
end Go.Idl.En
namespace Go.Idl
open Go.RowKit (Below)
open Go.ChangeShapes
theorem zF {H : Type} {enc : TypeId × Value -> H} {P : Program} (hl : laidOutB P = true) {W W' : World} (hb : Below W.heap.size W W') :
   ∀ {ts : List TypeId} {vs : List Value} {ds : List (DataW H)} {ps : List MemPlace}, (ts.all fun t => P.readableRec t && decide (t < P.types.size)) = true -> DataW.TrodAll enc P W 0 (fun _ => true) true ts vs ds ps -> (∀ x ∈ ps, x.block < W.heap.size) ->
     DataW.TrodAll enc P W' 0 (fun b => decide (b < W.heap.size)) true ts vs ds ps
 | [], [], [], _, _, h, _ => h
 | t :: ts, v :: vs, d :: ds, ps, hr, h, hlt => by
   obtain ⟨p, q, h1, h2, rfl⟩ := h;rw [List.all_cons, zA, zA, decide_eq_true_eq] at hr;exact ⟨p, q, Go.RowKit.Below.trod hl hr.1.1 hr.1.2 h1 hb (fun x hx => hlt x (by simp [hx])), zF hl hb hr.2 h2 (fun x hx => hlt x (by simp [hx])), rfl⟩
 | [], _ :: _, _, _, _, h, _ => h.elim
 | [], [], _ :: _, _, _, h, _ => h.elim
 | _ :: _, [], _, _, _, h, _ => h.elim
 | _ :: _, _ :: _, [], _, _, h, _ => h.elim
theorem jau {H : Type} {enc : TypeId × Value -> H} {P : Program} (hl : laidOutB P = true) {s : ChangeSpec} {f : Func} {fresh : Bool} {W W' : World} {args : Array Value} {ds gs : List (DataW H)} {before : List MemPlace} {tb : TypeId}
   (hr : (f.params.toList.all fun t => P.readableRec t && decide (t < P.types.size)) = true) (hv : s.vars = []) (hW : DataW.Whole enc P f.params.toList s.vars false W args.toList ds gs before)
   (hfn : s.fn H (ds ++ gs) = { results := [.lit (.bool true)], args := ds }) (hres : f.resultTypes = #[tb]) (htb : P.underlying tb = some .bool) (hb : Below W.heap.size W W') :
   s.post enc P f false fresh false false W args (.bool true) W' := by
 have hlt := hW.lt;have hW' := hW;obtain ⟨p, q, hA, hV, rfl, hfz, hnd⟩ := hW;rw [hv] at hV;obtain ⟨rfl, rfl⟩ : gs = [] /\ q = [] := by
   cases gs with
   | nil => exact ⟨rfl, hV⟩
   | cons g r => exact absurd hV (by intro h; cases h)
 refine ⟨ds, [], p ++ [], [], p, [], hW', ?_, ?_, ?_, ?_, fun h => by cases h⟩
 . rw [hfn, hres]; exact trodAll_mk1 (Go.RowKit.shut_bool htb true)
 . rw [hfn]; exact zF hl hb hr hA fun x hx => hlt x (by simp [hx])
 . rw [hfn, hv]; rfl
 . exact hb.frame _
variable [Globs]
end Go.Idl
namespace Go.Idl
open Go.RowKit (Below)
open Go.ChangeShapes
variable [Globs] {P : Program} {w : World}
theorem ZQ {a : Addr} {len cap esz : Nat} {xs : List IVal} {vs : List Value} (hl : xs.length = len) (hl2 : vs.length = len) (hc : len <= cap) (hspot : 0 < cap -> a.spot = none)
   (hv : ∀ (i : Nat) x v, xs[i]? = some x -> vs[i]? = some v -> V (topG P w) x v) (hf : ∀ x ∈ xs, vl x) (hr : ∀ x ∈ xs, nr2 x = true) (hz : ∀ v ∈ vs, v.cells.size = esz)
   (hm : ∀ (k : Nat) c, (jJ vs)[k]? = some c -> w.cell? ⟨a.block, a.off + k, none⟩ = some c) :
   V (topG P w) (.sl 0 false xs) (.slice (some a) len cap) /\ kl (.sl 0 false xs) (.slice (some a) len cap) = [] := by
 subst hl;exact ⟨.sl 0 false xs vs a cap esz hspot hc hl2.symm hv hf (fun _ => hr) hz hm (fun h => absurd rfl h) (fun _ => rfl), vr (.sl 0 false xs) _⟩
theorem Ye {a : Addr} {k : Nat} (h : a.spot = none) : a.add k = ⟨a.block, a.off + k, none⟩ := by
 unfold Addr.add;split
 . subst_vars; cases a; simp at h; simp [h]
 . rfl
theorem jdo {a : Addr} {k : Nat} {c : Value} (h : w.cell? (a.add k) = some c) : a.spot = none \/ k ≠ 0 := by
 by_cases hk : k = 0
 . subst hk;simp only [Addr.add, if_true, World.cell?] at h;split at h
   . cases hs : a.spot with
     | none => exact Or.inl rfl
     | some s => simp [hs] at h
   . cases h
 . exact Or.inr hk
theorem jaq : ∀ {esz : Nat} {vs : List Value}, (∀ v ∈ vs, v.cells.size = esz) -> ∀ (k : Nat) c, (jJ vs)[k]? = some c -> ∃ (i j : Nat) (v : Value), vs[i]? = some v /\ j < esz /\ k = i * esz + j /\ v.cells[j]? = some c := by
 intro esz vs
 induction vs with
 | nil => intro _ k c h; simp [jJ] at h
 | cons v vs ih =>
   intro hz k c h;have hv := hz v (by simp);have e : jJ (v :: vs) = v.cells.toList ++ jJ vs := by simp [jJ]
   rw [e] at h
   by_cases hk : k < esz
   . rw [zL (by simpa [hv] using hk)] at h;exact ⟨0, k, v, rfl, hk, by simp, by simpa using h⟩
   . rw [zR (by simp [hv]; omega)] at h;have hl : v.cells.toList.length = esz := by simpa using hv
     rw [hl] at h;obtain ⟨i, j, u, h1, h2, h3, h4⟩ := ih (fun u hu => hz u (by simp [hu])) _ _ h;refine ⟨i + 1, j, u, by simpa using h1, h2, ?_, h4⟩;rw [tH, Nat.one_mul]; omega
theorem VV {H : Type} {enc : TypeId × Value -> H} {base fuel : Nat} {held : Bool} {t e : TypeId} {α : Type} [Inhabited α] {Q : α -> Prop} {toI : α -> IVal} {mk : List Value -> Value} {esz : Nat} {cs : List Value} {x : DataW H × List MemPlace}
   (ht : P.underlying t = some (.slice e)) (hc : P.cellsOf e = esz) (h0 : 0 < esz)
   (he : ∀ n cs y, DataW.trod enc P w base (fun _ => true) held n e cs = some y -> ∃ x : α, Q x /\ V (topG P w) (toI x) (mk cs) /\ vl (toI x) /\ nr2 (toI x) = true /\ (mk cs).cells = cs.toArray /\ cs.length = esz)
   (h : DataW.trod enc P w base (fun _ => true) held fuel t cs = some x) :
   ∃ (v : Value) (r : Bool) (xs : List α), cs = [v] /\ (∀ x ∈ xs, Q x) /\ xs.length <= maxLen /\ V (topG P w) (.sl 0 r (xs.map toI)) v /\ kl (.sl 0 r (xs.map toI)) v = [] /\ vl (.sl 0 r (xs.map toI)) /\ nr2 (.sl 0 r (xs.map toI)) = true := by
 rcases Go.Deep.open_slice ht h with ⟨rfl, rfl⟩ | ⟨a, len, cap, m, n, D, Pl, rfl, hb, hl, hm, hmm, rfl, hx⟩
 . exact ⟨_, true, [], rfl, by simp, Nat.zero_le _, .nil 0, rfl, ⟨rfl, rfl⟩, rfl⟩
 . simp only [if_true] at hmm;subst hmm;obtain ⟨CS, hCS⟩ := Go.Deep.choose_lt (α := List Value) (p := fun i cs' => w.cells? base (a.add (i * P.cellsOf e)) (P.cellsOf e) = some cs' /\ DataW.trod enc P w base (fun _ => true) held n e cs' = some (D i, Pl i)) hx;obtain ⟨X, hX⟩ := Go.Deep.choose_lt (α := α) (p := fun i x => Q x /\ V (topG P w) (toI x) (mk (CS i)) /\ vl (toI x) /\ nr2 (toI x) = true /\ (mk (CS i)).cells = (CS i).toArray /\ (CS i).length = esz) (fun i hi => he n (CS i) _ (hCS i hi).2);have hspot : 0 < m -> a.spot = none := by
     intro h1;obtain ⟨_, hlen, hcell⟩ := World.cells?_some (hCS 0 h1).1;have := hcell 0 (by omega);rw [Nat.zero_mul] at this;obtain ⟨c, hc⟩ : ∃ c, (CS 0)[0]? = some c := ⟨(CS 0)[0]'(by omega), by simp⟩;rw [hc] at this;have h2 : w.cell? (a.add 0) = some c := by
       have e0 : (a.add 0).add 0 = a.add 0 := by simp [Addr.add]
       rw [e0] at this;exact this
     rcases jdo h2 with h3 | h3
     . exact h3
     . exact absurd rfl h3
   have hlt : ∀ {i : Nat}, i ∈ List.range len -> i < m := fun {i} hi => by have := List.mem_range.1 hi; omega
   have hmap : (List.range len).map (fun i => toI (X i)) = ((List.range len).map X).map toI := by rw [List.map_map]; rfl
   refine ⟨_, false, (List.range len).map X, rfl, fun x hx' => ?_, by simp; omega, ?_⟩
   . obtain ⟨i, hi, rfl⟩ := List.mem_map.1 hx';exact (hX i (hlt hi)).1
   . have hV := ZQ (P := P) (w := w) (a := a) (len := len) (cap := m) (xs := ((List.range len).map X).map toI) (vs := (List.range len).map fun i => mk (CS i)) (esz := esz) (by simp) (by simp) hl hspot (fun i x v hx' hv => ?_) (fun x hx' => ?_) (fun x hx' => ?_) (fun v hv => ?_) (fun j c hj => ?_)
     . refine ⟨hV.1, hV.2, ⟨?_, rfl⟩, rfl⟩;rfl
     . rw [<- hmap] at hx';simp only [rJ, rT] at hx' hv;obtain ⟨i1, h1, rfl⟩ := hx';obtain ⟨i2, h2, rfl⟩ := hv;rw [h1] at h2; cases h2;exact (hX i1 (hlt (zM h1))).2.1
     . rw [<- hmap] at hx';obtain ⟨i, hi, rfl⟩ := List.mem_map.1 hx';exact (hX i (hlt hi)).2.2.1
     . rw [<- hmap] at hx';obtain ⟨i, hi, rfl⟩ := List.mem_map.1 hx';exact (hX i (hlt hi)).2.2.2.1
     . obtain ⟨i, hi, rfl⟩ := List.mem_map.1 hv;have := hX i (hlt hi);rw [this.2.2.2.2.1]; simpa using this.2.2.2.2.2
     . obtain ⟨i, k, v, h1, h2, rfl, h4⟩ := jaq (esz := esz) (by
         intro v hv;obtain ⟨i, hi, rfl⟩ := List.mem_map.1 hv;have := hX i (hlt hi);rw [this.2.2.2.2.1]; simpa using this.2.2.2.2.2) _ _ hj
       simp only [rJ, rT] at h1;obtain ⟨i1, h5, rfl⟩ := h1;have hi : i1 = i := by
         have hj' := jk h5;simp at hj';rw [List.getElem?_range hj'] at h5;simpa using h5.symm
       subst hi;have hil := hlt (zM h5);obtain ⟨_, hlen, hcell⟩ := World.cells?_some (hCS i1 hil).1;have := hcell k (by omega);rw [(hX i1 hil).2.2.2.2.1] at h4;have h4' : (CS i1)[k]? = some c := by simpa using h4
       rw [h4'] at this;rw [Ye (hspot (by omega)), Ye rfl, hc] at this;simpa [Nat.add_assoc] using this
theorem ZU {H : Type} {enc : TypeId × Value -> H} {base fuel : Nat} {held : Bool} {t : TypeId} {k : IntKind} {cs : List Value} {x : DataW H × List MemPlace} (ht : P.underlying t = some (.int k)) (h : DataW.trod enc P w base (fun _ => true) held fuel t cs = some x) :
   ∃ n, cs = [.int k n] /\ (Lit.int k n).wf = true := by
 obtain ⟨n, h1, _, h2⟩ := DataW.trod_int ht h;exact ⟨n, h1, h2⟩
end Go.Idl
namespace Go.Idl
open Go.RowKit (Below)
def JK : List IVal -> Option IVal
 | [.str s] => if s.length < 4294967281 /\ s.all (fun b => b.toNat < 128) = true /\ (Lib.fields s).isEmpty = false then some (.sl 0 false ((Lib.fields s).map .str)) else none
 | _ => none
def Ks (t : TypeId) (b o : Nat) : List IVal -> Option IVal
 | [.str f, .str s] => if s.length <= 281474976710656 then some (.pv false [.str f, .str s, .iface t (.prim (.pointer (some ⟨b, o, none⟩)))] 0) else none
 | _ => none
abbrev lp (p : List IVal -> Option IVal) : ZY := fun _ _ args => p args
variable [Globs] {P : Program}
theorem szL (s : ByteArray) : s.size = s.data.toList.length := by rw [Array.length_toList]; rfl
theorem ZL {g : Gh} {l : List UInt8} {v : Value} (h : V g (.str l) v) : ∃ s : ByteArray, v = .string s /\ s.data.toList = l := by
 cases h with
 | str s => exact ⟨s, rfl, rfl⟩
theorem V.strL {g : Gh} (l : List UInt8) : V g (.str l) (.string ⟨l.toArray⟩) := by
 have := V.str (g := g) ⟨l.toArray⟩;simpa using this
theorem YG {f : FuncId} {k : Nat} {el : TypeId} (hk : Globs.vals k = some (Lib.asciiSpaceTab.map fun n => .int .u8 n)) (hc : vk P f) (h : ∀ (s : ByteArray) (w : World), s.size < 4294967281 -> (∀ (j : Nat) b, s.data.toList[j]? = some b -> b.toNat < 128) ->
   (∀ c : Nat, c < 256 -> w.cell? ⟨k, c, none⟩ = some (.int .u8 (Lib.asciiSpaceTab.getD c 0))) ->
   Calls P f #[.string s] w fun e w' => e = .returned (.slice (some ⟨w.heap.size, 0, none⟩) (Lib.fields s.data.toList).length (Lib.fields s.data.toList).length) /\ w' = w.alloc (.cells ((Lib.fields s.data.toList).map fun l => Value.string ⟨l.toArray⟩).toArray el)) : LibOK P f (lp JK) := by
 intro σ args v hp;refine ⟨hc, fun g O rargs w _ hl hR => callsIn_wide.2 ?_⟩;have hG : ∀ k vs, Globs.vals k = some vs -> ∀ (i : Nat) c, vs[i]? = some c -> w.cell? ⟨k, i, none⟩ = some c := fun k vs hk i c hi => by
   have := hR.claim k (0 + i) c (hR.glob k vs hk i c hi)
   rwa [tS] at this
 unfold lp JK at hp;split at hp
 . rename_i s;split at hp
   . rename_i hcond;obtain ⟨h1, h2, h3⟩ := hcond;simp only [zO] at hp;subst hp;obtain ⟨rl⟩ := rargs
     match rl, hl with
     | [a], _ =>
       obtain ⟨s, rfl, rfl⟩ := ZL (hR.vals (IVal.str s, a) (by simp));refine (h s w (by rw [szL]; exact h1) (fun j b hb => by simpa using List.all_eq_true.1 h2 b (zM hb)) (fun c hc => ?_)).mono ?_
       . refine hG k _ hk c _ ?_;rw [rJ, rG (by rw [Lib.asciiSpaceTab_length]; exact hc), List.getD_eq_getElem?_getD, rG (by rw [Lib.asciiSpaceTab_length]; exact hc)];rfl
       rintro e w' ⟨rfl, rfl⟩;have h0 : R g O [] σ w := R.drops (l' := []) (by simpa using hR);have hfl : jJ ((Lib.fields s.data.toList).map fun l => Value.string ⟨l.toArray⟩) = (Lib.fields s.data.toList).map fun l => Value.string ⟨l.toArray⟩ := by
         unfold jJ;generalize Lib.fields s.data.toList = q
         induction q with
         | nil => rfl
         | cons a q ih => simp only [rR, rO, ih]; rfl
       obtain ⟨g', O', hR', hg, _⟩ := h0.newSlice (xs := (Lib.fields s.data.toList).map IVal.str) (vs := (Lib.fields s.data.toList).map fun l => Value.string ⟨l.toArray⟩) (esz := 1) (cap := (Lib.fields s.data.toList).length) (own := 0) (rf := false)
         (c := ((Lib.fields s.data.toList).map fun l => Value.string ⟨l.toArray⟩).toArray) (el := el) (fz := (0, 0)) (by simp)
         (fun i x v hx hv => by
           rw [rJ] at hx hv
           cases hq : (Lib.fields s.data.toList)[i]? with
           | none => rw [hq] at hx; cases hx
           | some q =>
             rw [hq] at hx hv;simp only [tU, zO] at hx hv;subst hx; subst hv;exact V.strL q)
         (fun x hx => by obtain ⟨q, _, rfl⟩ := List.mem_map.1 hx; exact ⟨rfl, rfl⟩)
         (fun _ x hx => by obtain ⟨q, _, rfl⟩ := List.mem_map.1 hx; rfl)
         (fun v hv => by obtain ⟨q, _, rfl⟩ := List.mem_map.1 hv; rfl)
         (fun i v hv => by rw [hfl] at hv; simpa using hv) (by simp) (by simp) (.inl rfl) (fun h => absurd rfl h) (by rw [hfl]; simp)
       rw [List.length_map] at hR';exact ⟨_, g', O', rfl, hg, hR'⟩
   . cases hp
 . cases hp
theorem jaY {f : FuncId} {k b o : Nat} {t el : TypeId} (hk : Globs.vals k = some [.iface t (.pointer (some ⟨b, o, none⟩))]) (hc : vk P f) (h : ∀ (fn s : ByteArray) (ev : Value) (w : World), s.size <= 281474976710656 -> w.cell? ⟨k, 0, none⟩ = some ev -> (ev = .nilIface \/ ∃ te pe, ev = .iface te pe) ->
   Calls P f #[.string fn, .string s] w fun e w' => ∃ N, e = .returned (.pointer (some ⟨N, 0, none⟩)) /\ w.heap.size <= N /\ w'.heap[N]? = some (.cells #[.string fn, .string s, ev] el (0, 0)) /\ Below w.heap.size w w') : LibOK P f (lp (Ks t b o)) := by
 intro σ args v hp;refine ⟨hc, fun g O rargs w _ hl hR => callsIn_wide.2 ?_⟩;have hG : ∀ k vs, Globs.vals k = some vs -> ∀ (i : Nat) c, vs[i]? = some c -> w.cell? ⟨k, i, none⟩ = some c := fun k vs hk i c hi => by
   have := hR.claim k (0 + i) c (hR.glob k vs hk i c hi)
   rwa [tS] at this
 unfold lp Ks at hp;split at hp
 . rename_i q s;split at hp
   . rename_i hcond;simp only [zO] at hp;subst hp;obtain ⟨rl⟩ := rargs
     match rl, hl with
     | [a, c], _ =>
       obtain ⟨q, rfl, rfl⟩ := ZL (hR.vals (IVal.str q, a) (by simp));obtain ⟨s, rfl, rfl⟩ := ZL (hR.vals (IVal.str s, c) (by simp));refine (h q s _ w (by rw [szL]; exact hcond) (hG k _ hk 0 _ rfl) (.inr ⟨_, _, rfl⟩)).mono ?_;rintro e w' ⟨N, rfl, hN, hcell, hb⟩;have h0 : R g O [] σ w := R.drops (l' := []) (by simpa using hR);have hNO : N ∉ O := fun hm => by have := h0.lt _ hm; omega
       have hNM : ∀ o, g.M N o = none := fun o => by
         cases hm : g.M N o with
         | none => rfl
         | some v =>
           have := h0.claim N o v hm;unfold World.cell? at this;rw [Array.getElem?_eq_none (by exact hN)] at this;cases this
       have h1 : R (g.claim N [.string q, .string s, .iface t (.pointer (some ⟨b, o, none⟩))] none) O [] σ w' := by
         refine (h0.world hb.size hb.block).ghost hNO rfl rfl (fun b o hb => by simp [Gh.claim, hb]) (fun o c hm => ?_) (fun b hb => by simp [Gh.claim, hb]) (fun o v hm => ?_)
         . rw [hNM o] at hm; cases hm
         . simp only [Gh.claim, if_true] at hm;simp only [World.cell?];rw [hcell];simpa using hm
       refine ⟨_, g.claim N [.string q, .string s, .iface t (.pointer (some ⟨b, o, none⟩))] none, O, rfl, ?_, h1.push ?_ rfl⟩
       . refine ⟨hb.size, fun b hb' _ => ⟨hb.block b hb', by simp [Gh.claim]; omega, fun o => by simp [Gh.claim]; omega⟩, fun b o v hm => ?_, fun _ _ h => h, fun _ h => .inl h, rfl, hb.os, hb.tape, hb.output, fun _ => ⟨rP _, fun _ h => h⟩⟩;have : b ≠ N := fun e => by subst e; rw [hNM o] at hm; cases hm
         simp [Gh.claim, this, hm]
       . refine V.pv_mk (vs := [.string q, .string s, .iface t (.pointer (some ⟨b, o, none⟩))]) (b := N) (e := 0) 0 rfl (fun i x v hx hv => ?_) (fun x hx => ?_) (fun _ x hx => ?_) (fun k c hk => by simpa [Gh.claim] using hk)
         . match i with
           | 0 => simp at hx hv; subst hx; subst hv; exact .str _
           | 1 => simp at hx hv; subst hx; subst hv; exact .str _
           | 2 => simp at hx hv; subst hx; subst hv; exact .iface _ _ _ (.prim _ rfl) ⟨rfl, rfl⟩
           | i + 3 => simp at hx
         . simp at hx
           rcases hx with rfl | rfl | rfl <;> exact ⟨rfl, rfl⟩
         . simp at hx
           rcases hx with rfl | rfl | rfl <;> rfl
   . cases hp
 . cases hp
end Go.Idl
